/-
  The tenths of decibels, step by step: each operation is valid and its result bounded. No program in sight.
-/
import Derived.Test.YtdlaafeagcbpaaaSine
namespace Go.Proofs.Ytdlaafeagcbpaaa
open Go Ieee

abbrev c15 : Nat := 4609434218613702656
abbrev c075 : Nat := 4604930618986332160
abbrev cTwo : Nat := 4611686018427387904
abbrev cLn : Nat := 4604418534313441775
abbrev cTen : Nat := 4631308968768463603
theorem fin_15 : fin .f64 c15 = true := by decide
theorem fin_075 : fin .f64 c075 = true := by decide
theorem fin_two : fin .f64 cTwo = true := by decide
theorem fin_ln : fin .f64 cLn = true := by decide
theorem fin_ten : fin .f64 cTen = true := by decide
theorem val_two : val .f64 cTwo = 2 := by
  have h : FloatKind.f64.decode cTwo = .number false (2 ^ 52) (-51) := by decide
  rw [val_of h]
  show mv (2 ^ 52) (-51) = _
  rw [mv_p2]; rfl
theorem val_15 : val .f64 c15 = 3 / 2 := by
  have h : FloatKind.f64.decode c15 = .number false (3 * 2 ^ 51) (-52) := by decide
  rw [val_of h]
  show mv (3 * 2 ^ 51) (-52) = _
  rw [mv_shift]
  have e : (-52 + ((51 : Nat) : Int)) = -1 := by decide
  rw [e]
  unfold mv
  rw [p2_m1]
  grind
theorem val_075 : val .f64 c075 = 3 / 4 := by
  have h : FloatKind.f64.decode c075 = .number false (3 * 2 ^ 51) (-53) := by decide
  rw [val_of h]
  show mv (3 * 2 ^ 51) (-53) = _
  rw [mv_shift]
  have e : (-53 + ((51 : Nat) : Int)) = -2 := by decide
  rw [e]
  unfold mv
  rw [p2_m2]
  grind
theorem val_ln : 0 ≤ val .f64 cLn ∧ val .f64 cLn ≤ 1 := by
  have h : FloatKind.f64.decode cLn = .number false 6243314768165359 (-53) := by decide
  rw [val_of h]
  have h2 : mv 6243314768165359 (-53) ≤ mv (2 ^ 53) (-53) := mv_le (by decide)
  rw [mv_p2] at h2
  exact ⟨mv_nonneg _ _, h2⟩
theorem val_ten : 0 ≤ val .f64 cTen ∧ val .f64 cTen ≤ p2 6 := by
  have h : FloatKind.f64.decode cTen = .number false 6112151458964211 (-47) := by decide
  rw [val_of h]
  have h2 : mv 6112151458964211 (-47) ≤ mv (2 ^ 53) (-47) := mv_le (by decide)
  rw [mv_p2] at h2
  exact ⟨mv_nonneg _ _, h2⟩

-- the ways up and down
def hH (y : Nat) : Nat → Nat
  | 0 => y
  | i + 1 => hH (pa .quo .f64 y cTwo) i
theorem hH_succ (y i : Nat) : hH y (i + 1) = pa .quo .f64 (hH y i) cTwo := by
  induction i generalizing y with
  | zero => rfl
  | succ i ih => exact ih _
structure UpOk (y n : Nat) : Prop where
  step : ∀ i, i < n → (FloatKind.f64.format.order (hH y i) c15 == some .gt || FloatKind.f64.format.order (hH y i) c15 == some .eq) = true ∧ floatBits .quo .f64 (hH y i) cTwo = some (hH y (i + 1))
  stop : (FloatKind.f64.format.order (hH y n) c15 == some .gt || FloatKind.f64.format.order (hH y n) c15 == some .eq) = false
  isfin : fin .f64 (hH y n) = true
  hi : val .f64 (hH y n) < 3 / 2
  lo : (n = 0 ∧ hH y n = y) ∨ 3 / 4 ≤ val .f64 (hH y n)
theorem rep_34' : Rep .f64 (3 / 4) := ⟨3, -2, by decide, by decide, Or.inl (by unfold mv; rw [p2_m2]; grind)⟩
theorem rep_32 : Rep .f64 (3 / 2) := ⟨3, -1, by decide, by decide, Or.inl (by unfold mv; rw [p2_m1]; grind)⟩
theorem up_ok : ∀ (b y : Nat), b ≤ 200 → fin .f64 y = true → 0 < val .f64 y → val .f64 y ≤ p2 b → ∃ n, n ≤ b ∧ UpOk y n
  | 0, y, _, hy, h0, h1 => by
    refine ⟨0, Nat.le_refl _, fun i hi => absurd hi (by omega), ?_, hy, ?_, Or.inl ⟨rfl, rfl⟩⟩
    · have e : p2 ((0 : Nat) : Int) = 1 := p2_zero
      rw [e] at h1
      show (FloatKind.f64.format.order y c15 == some .gt || FloatKind.f64.format.order y c15 == some .eq) = false
      rw [geq_num hy fin_15, val_15]
      have : ¬ (3 / 2 : Rat) ≤ val .f64 y := by grind
      simpa using this
    · have e : p2 ((0 : Nat) : Int) = 1 := p2_zero
      rw [e] at h1
      show val .f64 y < 3 / 2
      grind
  | b + 1, y, hb, hy, h0, h1 => by
    have hg := geq_num hy fin_15
    rw [val_15] at hg
    by_cases hh : (3 / 2 : Rat) ≤ val .f64 y
    · have e3 : p2 ((b + 1 : Nat) : Int) = p2 b * 2 := by rw [Int.natCast_add, p2_add]; rfl
      rw [e3] at h1
      have hd := div_abs (x := val .f64 y) (c := 2) (M := p2 b) (by decide) (by grind) h1
      obtain ⟨z, hz, hR, z1, z2⟩ := div_b hy fin_two (by rw [val_two]; decide) (b : Int) (by omega) (by omega) (by rw [val_two]; exact hd.1) (by rw [val_two]; exact hd.2)
      have e2 : val .f64 y / 2 * 2 = val .f64 y := Rat.div_mul_cancel (by decide)
      have hlo : 3 / 4 ≤ val .f64 z := hR.2.2 _ rep_34' (by rw [val_two]; grind)
      obtain ⟨n, hn, hU⟩ := up_ok b z (by omega) hR.1 (by grind) z2
      have hs : ∀ i, hH y (i + 1) = hH z i := fun i => by
        show hH (pa .quo .f64 y cTwo) i = _
        rw [(ar_some hz).2.2]
      refine ⟨n + 1, by omega, fun i hi => ?_, by rw [hs]; exact hU.stop, by rw [hs]; exact hU.isfin, by rw [hs]; exact hU.hi, Or.inr ?_⟩
      · match i, hi with
        | 0, _ => exact ⟨by show (FloatKind.f64.format.order y c15 == some .gt || FloatKind.f64.format.order y c15 == some .eq) = true
                            rw [hg]; simpa using hh, by rw [hs]; exact hz⟩
        | i + 1, hi => rw [hs, hs]; exact hU.step i (by omega)
      · rw [hs]
        rcases hU.lo with ⟨_, h⟩ | h
        · rw [h]; exact hlo
        · exact h
    · refine ⟨0, by omega, fun i hi => absurd hi (by omega), ?_, hy, Rat.not_le.1 hh, Or.inl ⟨rfl, rfl⟩⟩
      show (FloatKind.f64.format.order y c15 == some .gt || FloatKind.f64.format.order y c15 == some .eq) = false
      rw [hg]
      simpa using hh

def hK (y : Nat) : Nat → Nat
  | 0 => y
  | i + 1 => hK (pa .mul .f64 y cTwo) i
theorem hK_succ (y i : Nat) : hK y (i + 1) = pa .mul .f64 (hK y i) cTwo := by
  induction i generalizing y with
  | zero => rfl
  | succ i ih => exact ih _
structure DownOk (y n : Nat) : Prop where
  step : ∀ i, i < n → (FloatKind.f64.format.order (hK y i) c075 == some .lt) = true ∧ floatBits .mul .f64 (hK y i) cTwo = some (hK y (i + 1))
  stop : (FloatKind.f64.format.order (hK y n) c075 == some .lt) = false
  isfin : fin .f64 (hK y n) = true
  lo : 3 / 4 ≤ val .f64 (hK y n)
  hi : val .f64 (hK y n) ≤ 3 / 2
theorem down_ok : ∀ (b y : Nat), b ≤ 200 → fin .f64 y = true → p2 (-(b : Int)) ≤ val .f64 y → val .f64 y ≤ 3 / 2 → ∃ n, n ≤ b ∧ DownOk y n
  | 0, y, _, hy, h0, h1 => by
    have e : p2 (-((0 : Nat) : Int)) = 1 := p2_zero
    rw [e] at h0
    refine ⟨0, Nat.le_refl _, fun i hi => absurd hi (by omega), ?_, hy, ?_, h1⟩
    · show (FloatKind.f64.format.order y c075 == some .lt) = false
      rw [lss_num hy fin_075, val_075]
      have : ¬ val .f64 y < 3 / 4 := by grind
      simpa using this
    · show 3 / 4 ≤ val .f64 y
      grind
  | b + 1, y, hb, hy, h0, h1 => by
    have hg := lss_num hy fin_075
    rw [val_075] at hg
    by_cases hh : val .f64 y < 3 / 4
    · have e3 : p2 (-(b : Int)) = p2 (-((b + 1 : Nat) : Int)) * 2 := by
        rw [← p2_one, ← p2_add]
        congr 1
        omega
      have hp := p2_pos (-((b + 1 : Nat) : Int))
      have hpb := p2_pos (-(b : Int))
      have e1 : p2 1 = 2 := p2_one
      obtain ⟨z, hz, hR, z1, z2⟩ := mul_b hy fin_two 1 (by decide) (by decide) (by rw [val_two, e1]; grind) (by rw [val_two, e1]; grind)
      have hlo : p2 (-(b : Int)) ≤ val .f64 z := hR.2.2 _ (rep64 _ (by omega)) (by rw [val_two]; grind)
      have hhi : val .f64 z ≤ 3 / 2 := hR.2.1 _ rep_32 (by rw [val_two]; grind)
      obtain ⟨n, hn, hU⟩ := down_ok b z (by omega) hR.1 hlo hhi
      have hs : ∀ i, hK y (i + 1) = hK z i := fun i => by
        show hK (pa .mul .f64 y cTwo) i = _
        rw [(ar_some hz).2.2]
      refine ⟨n + 1, by omega, fun i hi => ?_, by rw [hs]; exact hU.stop, by rw [hs]; exact hU.isfin, by rw [hs]; exact hU.lo, by rw [hs]; exact hU.hi⟩
      match i, hi with
      | 0, _ => exact ⟨by show (FloatKind.f64.format.order y c075 == some .lt) = true
                          rw [hg]; simpa using hh, by rw [hs]; exact hz⟩
      | i + 1, hi => rw [hs, hs]; exact hU.step i (by omega)
    · refine ⟨0, by omega, fun i hi => absurd hi (by omega), ?_, hy, Rat.not_lt.1 hh, h1⟩
      show (FloatKind.f64.format.order y c075 == some .lt) = false
      rw [hg]
      simpa using hh

-- the row
/-- step i of the row for k = 25 - 2 i. -/
def serP (u : Nat) : Nat → Nat
  | 0 => 0
  | i + 1 => pa .add .f64 (pa .quo .f64 cOne (floatOfInt .f64 (25 - 2 * (i : Int)))) (pa .mul .f64 u (serP u i))
structure SerOk (u q q' : Nat) (n : Int) (a b : Nat) : Prop where
  quo : floatBits .quo .f64 cOne (floatOfInt .f64 n) = some a
  mul : floatBits .mul .f64 u q = some b
  add : floatBits .add .f64 a b = some q'
theorem ser_step {u q : Nat} (hu : fin .f64 u = true) (h0 : 0 ≤ val .f64 u) (h1 : val .f64 u ≤ 1) (hq : fin .f64 q = true) (i : Nat) (hi : i ≤ 12) (q1 : -p2 i ≤ val .f64 q) (q2 : val .f64 q ≤ p2 i) (n : Int) (hn : 1 ≤ n) (hn2 : n < 1000) :
    ∃ a b q', SerOk u q q' n a b ∧ fin .f64 q' = true ∧ -p2 (i + 1 : Nat) ≤ val .f64 q' ∧ val .f64 q' ≤ p2 (i + 1 : Nat) := by
  obtain ⟨hf, hfv⟩ := ofInt_val n (by omega)
  have hn1 : (1 : Rat) ≤ (n : Rat) := by exact_mod_cast hn
  have hd := div_abs (x := val .f64 cOne) (c := (n : Rat)) (M := 1) (by grind) (by rw [val_one]; grind) (by rw [val_one]; grind)
  obtain ⟨a, ha, hRa, a1, a2⟩ := div_b fin_one hf (by rw [hfv]; grind) 0 (by decide) (by decide) (by rw [hfv, p2_zero]; exact hd.1) (by rw [hfv, p2_zero]; exact hd.2)
  rw [p2_zero] at a1 a2
  have hm := mul_abs (x := val .f64 u) (y := val .f64 q) (a := 1) (b := p2 i) (by grind) h1 q1 q2
  obtain ⟨b, hb, hRb, b1, b2⟩ := mul_b hu hq (i : Int) (by omega) (by omega) (by grind) (by grind)
  have e3 : p2 ((i + 1 : Nat) : Int) = p2 i * 2 := by rw [Int.natCast_add, p2_add]; rfl
  have h1i : 1 ≤ p2 i := by rw [← p2_zero]; exact p2_le (by omega)
  obtain ⟨q', hq', hRq, c1, c2⟩ := add_b hRa.1 hRb.1 ((i + 1 : Nat) : Int) (by omega) (by omega) (by rw [e3]; grind) (by rw [e3]; grind)
  exact ⟨a, b, q', ⟨ha, hb, hq'⟩, hRq.1, c1, c2⟩
theorem ser_fin {u : Nat} (hu : fin .f64 u = true) (h0 : 0 ≤ val .f64 u) (h1 : val .f64 u ≤ 1) : ∀ i : Nat, i ≤ 13 → fin .f64 (serP u i) = true ∧ -p2 i ≤ val .f64 (serP u i) ∧ val .f64 (serP u i) ≤ p2 i := by
  intro i
  induction i with
  | zero =>
    intro _
    have hp := p2_pos ((0 : Nat) : Int)
    refine ⟨fin_c0, ?_, ?_⟩
    · show _ ≤ val .f64 0
      rw [val_c0]; grind
    · show val .f64 0 ≤ _
      rw [val_c0]; grind
  | succ i ih =>
    intro hi
    obtain ⟨g1, g2, g3⟩ := ih (by omega)
    obtain ⟨a, b, q', hS, hf, c1, c2⟩ := ser_step hu h0 h1 g1 i (by omega) g2 g3 (25 - 2 * (i : Int)) (by omega) (by omega)
    have e : serP u (i + 1) = q' := by
      show pa .add .f64 (pa .quo .f64 cOne (floatOfInt .f64 (25 - 2 * (i : Int)))) (pa .mul .f64 u (serP u i)) = q'
      rw [(ar_some hS.quo).2.2, (ar_some hS.mul).2.2, (ar_some hS.add).2.2]
    rw [e]
    exact ⟨hf, c1, c2⟩
theorem ser_steps {u : Nat} (hu : fin .f64 u = true) (h0 : 0 ≤ val .f64 u) (h1 : val .f64 u ≤ 1) (i : Nat) (hi : i < 13) : ∃ a b, SerOk u (serP u i) (serP u (i + 1)) (25 - 2 * (i : Int)) a b := by
  obtain ⟨g1, g2, g3⟩ := ser_fin hu h0 h1 i (by omega)
  obtain ⟨a, b, q', hS, _⟩ := ser_step hu h0 h1 g1 i (by omega) g2 g3 (25 - 2 * (i : Int)) (by omega) (by omega)
  refine ⟨a, b, ?_⟩
  have e : serP u (i + 1) = q' := by
    show pa .add .f64 (pa .quo .f64 cOne (floatOfInt .f64 (25 - 2 * (i : Int)))) (pa .mul .f64 u (serP u i)) = q'
    rw [(ar_some hS.quo).2.2, (ar_some hS.mul).2.2, (ar_some hS.add).2.2]
  rw [e]
  exact hS

-- whole numbers from a float
theorem zero_cut (s : Bool) (m : Nat) (e : Int) : mv (Toward.zero.cut s (m <<< e.toNat) (-e).toNat) 0 ≤ mv m e := by
  unfold Toward.cut
  simp only [Nat.shiftLeft_eq, Nat.one_mul, Bool.toNat_false, Nat.add_zero]
  by_cases he : 0 ≤ e
  · obtain ⟨n, rfl⟩ : ∃ n : Nat, e = n := ⟨e.toNat, by omega⟩
    have e1 : ((n : Int)).toNat = n := by omega
    have e2 : (-(n : Int)).toNat = 0 := by omega
    rw [e1, e2]
    simp only [Nat.zero_le, Nat.min_eq_left, Nat.pow_zero, Nat.div_one]
    rw [show mv m (n : Int) = mv m (0 + (n : Int)) by rw [Int.zero_add], ← mv_shift]
    exact Rat.le_refl
  · obtain ⟨n, rfl⟩ : ∃ n : Nat, e = -(n : Int) := ⟨(-e).toNat, by omega⟩
    have e1 : (-(n : Int)).toNat = 0 := by omega
    have e2 : (-(-(n : Int))).toNat = n := by omega
    rw [e1, e2, Nat.pow_zero, Nat.mul_one]
    have hq : m / 2 ^ min n (m.log2 + 2) = m / 2 ^ n := by
      by_cases hn : n ≤ m.log2 + 2
      · rw [Nat.min_eq_left hn]
      · rw [Nat.min_eq_right (by omega)]
        have hlt : m < 2 ^ (m.log2 + 1) := Nat.lt_log2_self
        rw [Nat.div_eq_of_lt, Nat.div_eq_of_lt]
        · exact Nat.lt_of_lt_of_le hlt (Nat.pow_le_pow_right (by decide) (by omega))
        · exact Nat.lt_of_lt_of_le hlt (Nat.pow_le_pow_right (by decide) (by omega))
    rw [hq]
    have h0 : (0 : Int) = -(n : Int) + (n : Int) := by omega
    have hdm := Nat.div_add_mod m (2 ^ n)
    rw [show mv (m / 2 ^ n) 0 = mv (m / 2 ^ n) (-(n : Int) + (n : Int)) by rw [← h0], ← mv_shift]
    exact mv_le (by rw [Nat.mul_comm]; omega)
theorem down_cut (s : Bool) (n d : Nat) : Toward.down.cut s n d ≤ Toward.zero.cut s n d + 1 := by
  unfold Toward.cut
  simp only [Bool.toNat_false, Nat.add_zero]
  have := Bool.toNat_le (s && n % (1 <<< min d (n.log2 + 2)) != 0)
  omega
/-- math.Floor of a number. -/
def flo (x : Nat) : Nat := FloatKind.f64.encode ((FloatKind.f64.decode x).integral .down)
theorem flo_fin {x : Nat} (hx : fin .f64 x = true) (b : Nat) (hb : b ≤ 40) (h1 : -p2 b ≤ val .f64 x) (h2 : val .f64 x ≤ p2 b) : fin .f64 (flo x) = true ∧ -p2 (b + 1 : Nat) ≤ val .f64 (flo x) ∧ val .f64 (flo x) ≤ p2 (b + 1 : Nat) := by
  obtain ⟨s, m, e, hd, hv, _⟩ := fin_form hx
  rw [hv] at h1 h2
  have hm := sv_le (mv_nonneg m e) h1 h2
  have hz := zero_cut s m e
  have hdc := down_cut s (m <<< e.toNat) (-e).toNat
  have e1 : flo x = FloatKind.f64.encode (.number s (Toward.down.cut s (m <<< e.toNat) (-e).toNat) 0) := by
    unfold flo
    rw [hd]
    rfl
  generalize Toward.down.cut s (m <<< e.toNat) (-e).toNat = q at e1 hdc
  have e3 : p2 ((b + 1 : Nat) : Int) = p2 b * 2 := by rw [Int.natCast_add, p2_add]; rfl
  have h1b : 1 ≤ p2 b := by rw [← p2_zero]; exact p2_le (by omega)
  have hq : mv q 0 ≤ p2 (b + 1 : Nat) := by
    have k1 := mv_le (e := 0) hdc
    have k2 : mv (Toward.zero.cut s (m <<< e.toNat) (-e).toNat + 1) 0 = mv (Toward.zero.cut s (m <<< e.toNat) (-e).toNat) 0 + 1 := by
      unfold mv
      rw [p2_zero, Rat.mul_one, Rat.mul_one, Rat.natCast_add]; rfl
    rw [k2] at k1
    rw [e3]
    grind
  have hR := encode_rnd .f64 s q 0 (p2 (b + 1 : Nat)) (rep64 _ (by omega)) hq (lt_top64 _ (by omega))
  rw [← e1] at hR
  have h0 := mv_nonneg q 0
  refine ⟨hR.1, hR.2.2 _ (rep64 _ (by omega)).neg ?_, hR.2.1 _ (rep64 _ (by omega)) ?_⟩
  · unfold sv; cases s <;> simp <;> grind
  · unfold sv; cases s <;> simp <;> grind

/-- ALL BEHIND THE WAYS UP AND DOWN. -/
structure TenOk (x : Nat) (e n : Int) (a b s u c d f l g h : Nat) : Prop where
  sub : floatBits .sub .f64 x cOne = some a
  add : floatBits .add .f64 x cOne = some b
  quo : floatBits .quo .f64 a b = some s
  sq : floatBits .mul .f64 s s = some u
  steps : ∀ i, i < 13 → ∃ a b, SerOk u (serP u i) (serP u (i + 1)) (25 - 2 * (i : Int)) a b
  mul : floatBits .mul .f64 s (serP u 13) = some c
  two : floatBits .mul .f64 cTwo c = some d
  ln : floatBits .mul .f64 (floatOfInt .f64 e) cLn = some f
  log : floatBits .add .f64 d f = some l
  ten : floatBits .mul .f64 l cTen = some g
  half : floatBits .add .f64 g cHalf = some h
  conv : floatToIntVal .f64 (flo h) .i64 = some n
  isfin : fin .f64 h = true
theorem ten_ok {x : Nat} (hx : fin .f64 x = true) (h1 : 3 / 4 ≤ val .f64 x) (h2 : val .f64 x ≤ 3 / 2) (e : Int) (he : e.natAbs ≤ 200) : ∃ n a b s u c d f l g h, TenOk x e n a b s u c d f l g h := by
  obtain ⟨a, ha, hRa, a1, a2⟩ := sub_b hx fin_one 0 (by decide) (by decide) (by rw [val_one, p2_zero]; grind) (by rw [val_one, p2_zero]; grind)
  rw [p2_zero] at a1 a2
  have ep2 : p2 2 = 4 := by rw [show (2 : Int) = 1 + 1 from rfl, p2_add, p2_one]; grind
  obtain ⟨b, hb, hRb, b1, b2⟩ := add_b hx fin_one 2 (by decide) (by decide) (by rw [val_one, ep2]; grind) (by rw [val_one, ep2]; grind)
  have bl : 1 ≤ val .f64 b := hRb.2.2 1 rep_one (by rw [val_one]; grind)
  have hd := div_abs (x := val .f64 a) (c := val .f64 b) (M := 1) (by grind) (by grind) (by grind)
  obtain ⟨s, hs, hRs, s1, s2⟩ := div_b hRa.1 hRb.1 (by grind) 0 (by decide) (by decide) (by rw [p2_zero]; exact hd.1) (by rw [p2_zero]; exact hd.2)
  rw [p2_zero] at s1 s2
  have hm := mul_abs (x := val .f64 s) (y := val .f64 s) (a := 1) (b := 1) s1 s2 s1 s2
  obtain ⟨u, hu, hRu, u1, u2⟩ := mul_b hRs.1 hRs.1 0 (by decide) (by decide) (by rw [p2_zero]; grind) (by rw [p2_zero]; grind)
  rw [p2_zero] at u2
  have hsq : 0 ≤ val .f64 s * val .f64 s := by
    rcases Rat.le_total (a := 0) (b := val .f64 s) with h | h
    · exact Rat.mul_nonneg h h
    · have := Rat.mul_nonneg (show 0 ≤ -val .f64 s by grind) (show 0 ≤ -val .f64 s by grind)
      grind
  have hu0 : 0 ≤ val .f64 u := hRu.2.2 0 (rep_zero _) hsq
  obtain ⟨g1, g2, g3⟩ := ser_fin hRu.1 hu0 u2 13 (by decide)
  have e13 : p2 ((13 : Nat) : Int) = p2 13 := rfl
  rw [e13] at g2 g3
  have hm2 := mul_abs (x := val .f64 s) (y := val .f64 (serP u 13)) (a := 1) (b := p2 13) s1 s2 g2 g3
  obtain ⟨c, hc, hRc, c1, c2⟩ := mul_b hRs.1 g1 13 (by decide) (by decide) (by grind) (by grind)
  have e14 : p2 14 = 2 * p2 13 := by rw [show (14 : Int) = 1 + 13 from rfl, p2_add, p2_one]
  obtain ⟨d, hd2, hRd, d1, d2⟩ := mul_b fin_two hRc.1 14 (by decide) (by decide) (by rw [val_two, e14]; grind) (by rw [val_two, e14]; grind)
  obtain ⟨hf, hfv⟩ := ofInt_val e (by omega)
  have he1 : (e : Rat) ≤ ((200 : Int) : Rat) := Rat.intCast_le_intCast.2 (by omega)
  have he2 : ((-200 : Int) : Rat) ≤ (e : Rat) := Rat.intCast_le_intCast.2 (by omega)
  have e8 : p2 14 = 16384 := by decide
  have c200 : ((200 : Int) : Rat) = 200 := rfl
  have c200m : ((-200 : Int) : Rat) = -200 := rfl
  rw [c200] at he1
  rw [c200m] at he2
  obtain ⟨l1, l2⟩ := val_ln
  have hm3 := mul_abs (x := (e : Rat)) (y := val .f64 cLn) (a := 200) (b := 1) he2 he1 (by grind) l2
  obtain ⟨f, hff, hRf, f1, f2⟩ := mul_b hf fin_ln 14 (by decide) (by decide) (by rw [hfv, e8]; grind) (by rw [hfv, e8]; grind)
  have e15 : p2 15 = p2 14 * 2 := by rw [show (15 : Int) = 14 + 1 from rfl, p2_add, p2_one]
  obtain ⟨l, hl, hRl, m1, m2⟩ := add_b hRd.1 hRf.1 15 (by decide) (by decide) (by rw [e15]; grind) (by rw [e15]; grind)
  obtain ⟨t1, t2⟩ := val_ten
  have hp6 := p2_pos 6
  have hm4 := mul_abs (x := val .f64 l) (y := val .f64 cTen) (a := p2 15) (b := p2 6) m1 m2 (by grind) t2
  have e21 : p2 21 = p2 15 * p2 6 := by rw [← p2_add]; rfl
  obtain ⟨g, hg, hRg, n1, n2⟩ := mul_b hRl.1 fin_ten 21 (by decide) (by decide) (by rw [e21]; exact hm4.1) (by rw [e21]; exact hm4.2)
  have e22 : p2 22 = p2 21 * 2 := by rw [show (22 : Int) = 21 + 1 from rfl, p2_add, p2_one]
  have h21 : 1 ≤ p2 21 := by rw [← p2_zero]; exact p2_le (by decide)
  obtain ⟨h, hh, hRh, o1, o2⟩ := add_b hRg.1 fin_half 22 (by decide) (by decide) (by rw [val_half, e22]; grind) (by rw [val_half, e22]; grind)
  have e22' : p2 ((22 : Nat) : Int) = p2 22 := rfl
  obtain ⟨k1, k2, k3⟩ := flo_fin hRh.1 22 (by decide) (by rw [e22']; exact o1) (by rw [e22']; exact o2)
  have e24 : p2 ((24 : Nat) : Int) = p2 ((22 + 1 : Nat) : Int) * 2 := by rw [show ((24 : Nat) : Int) = ((22 + 1 : Nat) : Int) + 1 from rfl, p2_add, p2_one]
  have hp23 := p2_pos ((22 + 1 : Nat) : Int)
  obtain ⟨n, hn, _⟩ := trunc_val k1 24 (by decide) (by rw [e24]; grind) (by rw [e24]; grind)
  exact ⟨n, a, b, s, u, c, d, f, l, g, h, ha, hb, hs, hu, fun i hi => ser_steps hRu.1 hu0 u2 i hi, hc, hd2, hff, hl, hg, hh, hn, hRh.1⟩
end Go.Proofs.Ytdlaafeagcbpaaa
