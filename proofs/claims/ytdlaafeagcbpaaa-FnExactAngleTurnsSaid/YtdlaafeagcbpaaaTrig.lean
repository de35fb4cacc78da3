/-
  The sine of a number of turns and its parts, on finite numbers: each operation is valid, and how great its result can be. No program in sight.
-/
import Derived.Test.YtdlaafeagcbpaaaArith
namespace Go.Proofs.Ytdlaafeagcbpaaa
open Go Ieee

/-- a valid operation: what the model gives, whatever the tape; nothing is drawn. -/
theorem ar_some {op : BinOp} {k : FloatKind} {x y r : Nat} (h : floatBits op k x y = some r) : (∀ w, ar op k x y w = r) ∧ arN op k x y = 0 ∧ pa op k x y = r := by
  unfold ar arN pa
  rw [h]
  exact ⟨fun _ => rfl, rfl, rfl⟩

abbrev c0 : Nat := 0
abbrev cOne : Nat := 4607182418800017408
abbrev cHalf : Nat := 4602678819172646912
abbrev cQuart : Nat := 4598175219545276416
abbrev cCirc : Nat := 4618760256179416344
theorem fin_c0 : fin .f64 0 = true := by decide
theorem fin_one : fin .f64 cOne = true := by decide
theorem fin_half : fin .f64 cHalf = true := by decide
theorem fin_quart : fin .f64 cQuart = true := by decide
theorem fin_circ : fin .f64 cCirc = true := by decide
theorem val_c0 : val .f64 0 = 0 := by
  have h : FloatKind.f64.decode 0 = .number false 0 (-1074) := by decide
  rw [val_of h, mv_zero]; rfl
theorem mv_p2 (n : Nat) (e : Int) : mv (2 ^ n) e = p2 (e + n) := by
  rw [show 2 ^ n = 1 * 2 ^ n by omega, mv_shift]
  simp [mv]
theorem val_one : val .f64 cOne = 1 := by
  have h : FloatKind.f64.decode cOne = .number false (2 ^ 52) (-52) := by decide
  rw [val_of h]
  show mv (2 ^ 52) (-52) = 1
  rw [mv_p2]; rfl
theorem p2_m1 : p2 (-1) = 1 / 2 := by
  have h := p2_add (-1) 1
  rw [p2_one, show (-1 + 1 : Int) = 0 from rfl, p2_zero] at h
  grind
theorem p2_m2 : p2 (-2) = 1 / 4 := by
  have h := p2_add (-2) 1
  rw [p2_one, show (-2 + 1 : Int) = -1 from rfl, p2_m1] at h
  grind
theorem val_half : val .f64 cHalf = 1 / 2 := by
  have h : FloatKind.f64.decode cHalf = .number false (2 ^ 52) (-53) := by decide
  rw [val_of h]
  show mv (2 ^ 52) (-53) = _
  rw [mv_p2]; exact p2_m1
theorem val_quart : val .f64 cQuart = 1 / 4 := by
  have h : FloatKind.f64.decode cQuart = .number false (2 ^ 52) (-54) := by decide
  rw [val_of h]
  show mv (2 ^ 52) (-54) = _
  rw [mv_p2]; exact p2_m2
theorem val_circ : 4 ≤ val .f64 cCirc ∧ val .f64 cCirc ≤ 8 := by
  have h : FloatKind.f64.decode cCirc = .number false 7074237752028440 (-50) := by decide
  rw [val_of h]
  have h1 : mv (2 ^ 52) (-50) ≤ mv 7074237752028440 (-50) := mv_le (by decide)
  have h2 : mv 7074237752028440 (-50) ≤ mv (2 ^ 53) (-50) := mv_le (by decide)
  rw [mv_p2] at h1 h2
  have e1 : p2 (-50 + ((52 : Nat) : Int)) = 4 := by rfl
  have e2 : p2 (-50 + ((53 : Nat) : Int)) = 8 := by rfl
  rw [e1] at h1
  rw [e2] at h2
  exact ⟨h1, h2⟩

theorem leastP : FloatKind.f64.format.leastPlace = -1074 := rfl
theorem rep64 (b : Int) (h : -1074 ≤ b) : Rep .f64 (p2 b) := rep_p2 .f64 b (by rw [leastP]; exact h)
theorem lt_top64 (b : Int) (h : b < 1024) : p2 b < top .f64 := by
  rw [top64]
  have h3 : p2 (b + 1) ≤ p2 1024 := p2_le (by omega)
  have h4 : p2 (b + 1) = p2 b * 2 := by rw [p2_add, p2_one]
  have h5 := p2_pos b
  grind
theorem rep_one : Rep .f64 1 := rep64 0 (by decide)
theorem rep_half : Rep .f64 (1 / 2) := p2_m1 ▸ rep64 (-1) (by decide)
theorem rep_quart : Rep .f64 (1 / 4) := p2_m2 ▸ rep64 (-2) (by decide)
theorem one_top : (1 : Rat) < top .f64 := lt_top64 0 (by decide)

/-- the sum, difference, product under a bound that is a power of two. -/
theorem add_b {x y : Nat} (hx : fin .f64 x = true) (hy : fin .f64 y = true) (b : Int) (h0 : -1074 ≤ b) (hb : b < 1024) (h1 : -p2 b ≤ val .f64 x + val .f64 y) (h2 : val .f64 x + val .f64 y ≤ p2 b) :
    ∃ r, floatBits .add .f64 x y = some r ∧ Rnd .f64 (val .f64 x + val .f64 y) r ∧ -p2 b ≤ val .f64 r ∧ val .f64 r ≤ p2 b := by
  obtain ⟨r, hr, hR⟩ := add_rnd hx hy (p2 b) (rep64 b h0) h1 h2 (lt_top64 b hb)
  exact ⟨r, hr, hR, hR.2.2 _ (rep64 b h0).neg h1, hR.2.1 _ (rep64 b h0) h2⟩
theorem sub_b {x y : Nat} (hx : fin .f64 x = true) (hy : fin .f64 y = true) (b : Int) (h0 : -1074 ≤ b) (hb : b < 1024) (h1 : -p2 b ≤ val .f64 x - val .f64 y) (h2 : val .f64 x - val .f64 y ≤ p2 b) :
    ∃ r, floatBits .sub .f64 x y = some r ∧ Rnd .f64 (val .f64 x - val .f64 y) r ∧ -p2 b ≤ val .f64 r ∧ val .f64 r ≤ p2 b := by
  obtain ⟨r, hr, hR⟩ := sub_rnd hx hy (p2 b) (rep64 b h0) h1 h2 (lt_top64 b hb)
  exact ⟨r, hr, hR, hR.2.2 _ (rep64 b h0).neg h1, hR.2.1 _ (rep64 b h0) h2⟩
theorem mul_b {x y : Nat} (hx : fin .f64 x = true) (hy : fin .f64 y = true) (b : Int) (h0 : -1074 ≤ b) (hb : b < 1024) (h1 : -p2 b ≤ val .f64 x * val .f64 y) (h2 : val .f64 x * val .f64 y ≤ p2 b) :
    ∃ r, floatBits .mul .f64 x y = some r ∧ Rnd .f64 (val .f64 x * val .f64 y) r ∧ -p2 b ≤ val .f64 r ∧ val .f64 r ≤ p2 b := by
  obtain ⟨r, hr, hR⟩ := mul_rnd hx hy (p2 b) (rep64 b h0) h1 h2 (lt_top64 b hb)
  exact ⟨r, hr, hR, hR.2.2 _ (rep64 b h0).neg h1, hR.2.1 _ (rep64 b h0) h2⟩
theorem div_b {x y : Nat} (hx : fin .f64 x = true) (hy : fin .f64 y = true) (hy0 : val .f64 y ≠ 0) (b : Int) (h0 : -1074 ≤ b) (hb : b < 1024) (h1 : -p2 b ≤ val .f64 x / val .f64 y) (h2 : val .f64 x / val .f64 y ≤ p2 b) :
    ∃ r, floatBits .quo .f64 x y = some r ∧ Rnd .f64 (val .f64 x / val .f64 y) r ∧ -p2 b ≤ val .f64 r ∧ val .f64 r ≤ p2 b := by
  obtain ⟨r, hr, hR⟩ := div_rnd hx hy hy0 (p2 b) (rep64 b h0) h1 h2 (lt_top64 b hb)
  exact ⟨r, hr, hR, hR.2.2 _ (rep64 b h0).neg h1, hR.2.1 _ (rep64 b h0) h2⟩
theorem mul_abs {x y a b : Rat} (ha : -a ≤ x) (ha' : x ≤ a) (hb : -b ≤ y) (hb' : y ≤ b) : -(a * b) ≤ x * y ∧ x * y ≤ a * b := by
  have h1 := Rat.mul_nonneg (show 0 ≤ a - x by grind) (show 0 ≤ b + y by grind)
  have h2 := Rat.mul_nonneg (show 0 ≤ a + x by grind) (show 0 ≤ b - y by grind)
  have h3 := Rat.mul_nonneg (show 0 ≤ a - x by grind) (show 0 ≤ b - y by grind)
  have h4 := Rat.mul_nonneg (show 0 ≤ a + x by grind) (show 0 ≤ b + y by grind)
  constructor <;> grind

-- comparisons of finite numbers, as the walk spells them
theorem lss_num {x y : Nat} (hx : fin .f64 x = true) (hy : fin .f64 y = true) : (FloatKind.f64.format.order x y == some .lt) = decide (val .f64 x < val .f64 y) := by
  rw [order_num hx hy]
  by_cases h : val .f64 x < val .f64 y
  · simp [h]
  · by_cases h2 : val .f64 x = val .f64 y
    · simp [h2]
    · simp [h, h2]
theorem gtr_num {x y : Nat} (hx : fin .f64 x = true) (hy : fin .f64 y = true) : (FloatKind.f64.format.order x y == some .gt) = decide (val .f64 y < val .f64 x) := by
  rw [order_num hx hy]
  by_cases h : val .f64 x < val .f64 y
  · have : ¬ val .f64 y < val .f64 x := by grind
    simp [h, this]
  · by_cases h2 : val .f64 x = val .f64 y
    · simp [h2]
    · have : val .f64 y < val .f64 x := by grind
      simp [h, h2, this]
theorem eql_fin {x y : Nat} (hx : fin .f64 x = true) (hy : fin .f64 y = true) : (FloatKind.f64.format.order x y == some .eq) = decide (val .f64 x = val .f64 y) := by
  rw [order_num hx hy]
  by_cases h : val .f64 x < val .f64 y
  · have : val .f64 x ≠ val .f64 y := by grind
    simp [h, this]
  · by_cases h2 : val .f64 x = val .f64 y
    · simp [h2]
    · simp [h, h2]
theorem geq_num {x y : Nat} (hx : fin .f64 x = true) (hy : fin .f64 y = true) : (FloatKind.f64.format.order x y == some .gt || FloatKind.f64.format.order x y == some .eq) = decide (val .f64 y ≤ val .f64 x) := by
  rw [gtr_num hx hy, eql_fin hx hy]
  rw [Bool.eq_iff_iff]
  simp
  grind
theorem leq_num {x y : Nat} (hx : fin .f64 x = true) (hy : fin .f64 y = true) : (FloatKind.f64.format.order x y == some .lt || FloatKind.f64.format.order x y == some .eq) = decide (val .f64 x ≤ val .f64 y) := by
  rw [lss_num hx hy, eql_fin hx hy]
  rw [Bool.eq_iff_iff]
  simp
  grind

-- whole numbers
theorem ofInt_val (n : Int) (h : n.natAbs < 9007199254740992) : fin .f64 (floatOfInt .f64 n) = true ∧ val .f64 (floatOfInt .f64 n) = (n : Rat) := by
  have hrep : Rep .f64 (mv n.natAbs 0) := ⟨n.natAbs, 0, h, by decide, Or.inl rfl⟩
  have hlt : mv n.natAbs 0 < top .f64 := by
    have h1 : mv n.natAbs 0 < mv (2 ^ 53) 0 := mv_lt h
    rw [mv_p2] at h1
    have h2 := lt_top64 53 (by decide)
    have e : (0 : Int) + ((53 : Nat) : Int) = 53 := rfl
    rw [e] at h1
    grind
  have hr := encode_rnd .f64 (decide (n < 0)) n.natAbs 0 _ hrep Rat.le_refl hlt
  have e1 : floatOfInt .f64 n = FloatKind.f64.encode (.number (decide (n < 0)) n.natAbs 0) := rfl
  rw [e1]
  refine ⟨hr.1, ?_⟩
  have e2 : sv (decide (n < 0)) (mv n.natAbs 0) = (n : Rat) := by
    have := sv_nat false n 0
    rw [p2_zero, Rat.mul_one] at this
    rw [← this]
    by_cases h0 : n = 0
    · subst h0; simp
    · rw [if_neg h0]
  rw [hr.exact, e2]
  unfold sv
  split
  · exact hrep.neg
  · exact hrep

theorem trunc_val {y : Nat} (hy : fin .f64 y = true) (b : Nat) (hb : b ≤ 52) (h1 : -p2 b < val .f64 y) (h2 : val .f64 y < p2 b) :
    ∃ n : Int, floatToIntVal .f64 y .i64 = some n ∧ n.natAbs < 2 ^ b ∧ -1 < val .f64 y - (n : Rat) ∧ val .f64 y - (n : Rat) < 1 := by
  obtain ⟨s, m, e, hd, hv, _⟩ := fin_form hy
  -- the whole part of the magnitude
  have hm : ∃ q : Nat, Toward.zero.cut s (m <<< e.toNat) (-e).toNat = q ∧ mv q 0 ≤ mv m e ∧ mv m e < mv (q + 1) 0 := by
    refine ⟨_, rfl, ?_⟩
    unfold Toward.cut
    simp only [Nat.shiftLeft_eq, Nat.one_mul, Bool.toNat_false, Nat.add_zero]
    by_cases he : 0 ≤ e
    · obtain ⟨n, rfl⟩ : ∃ n : Nat, e = n := ⟨e.toNat, by omega⟩
      have e1 : ((n : Int)).toNat = n := by omega
      have e2 : (-(n : Int)).toNat = 0 := by omega
      rw [e1, e2]
      simp only [Nat.zero_le, Nat.min_eq_left, Nat.pow_zero, Nat.div_one]
      rw [show (n : Int) = 0 + (n : Int) by omega, ← mv_shift]
      exact ⟨Rat.le_refl, mv_lt (by omega)⟩
    · obtain ⟨n, rfl⟩ : ∃ n : Nat, e = -(n : Int) := ⟨(-e).toNat, by omega⟩
      have e1 : (-(n : Int)).toNat = 0 := by omega
      have e2 : (-(-(n : Int))).toNat = n := by omega
      rw [e1, e2, Nat.pow_zero, Nat.mul_one]
      have hq : m / 2 ^ min n (m.log2 + 2) = m / 2 ^ n := by
        by_cases hn : n ≤ m.log2 + 2
        · rw [Nat.min_eq_left hn]
        · rw [Nat.min_eq_right (by omega)]
          have hlt : m < 2 ^ (m.log2 + 1) := Nat.lt_log2_self
          rw [Nat.div_eq_of_lt, Nat.div_eq_of_lt]
          · exact Nat.lt_of_lt_of_le hlt (Nat.pow_le_pow_right (by decide) (by omega))
          · exact Nat.lt_of_lt_of_le hlt (Nat.pow_le_pow_right (by decide) (by omega))
      rw [hq]
      have h0 : (0 : Int) = -(n : Int) + (n : Int) := by omega
      have hp := Nat.two_pow_pos n
      have hdm := Nat.div_add_mod m (2 ^ n)
      have hmod := Nat.mod_lt m hp
      rw [h0, ← mv_shift, ← mv_shift]
      constructor
      · exact mv_le (by rw [Nat.mul_comm]; omega)
      · exact mv_lt (by rw [Nat.add_mul, Nat.mul_comm]; omega)
  obtain ⟨q, hq, hq1, hq2⟩ := hm
  have hqb : mv q 0 < mv (2 ^ b) 0 := by
    rw [mv_p2]
    have e0 : (0 : Int) + (b : Int) = b := by omega
    rw [e0]
    have hm0 := mv_nonneg m e
    rw [hv] at h1 h2
    unfold sv at h1 h2
    cases s
    · simp only [Bool.false_eq_true, if_false] at h1 h2; grind
    · simp only [if_true] at h1 h2; grind
  have hqb' := lt_of_mv hqb
  have hpow : 2 ^ b ≤ 2 ^ 52 := Nat.pow_le_pow_right (by decide) hb
  have hmq : mv q 0 = (q : Rat) := by unfold mv; rw [p2_zero, Rat.mul_one]
  have hmq1 : mv (q + 1) 0 = (q : Rat) + 1 := by unfold mv; rw [p2_zero, Rat.mul_one, Rat.natCast_add]; rfl
  rw [hmq] at hq1
  rw [hmq1] at hq2
  have hti : (FloatKind.f64.decode y).toInt .zero = some (signed s q 0) := by
    rw [hd]
    simp only [Datum.toInt, Datum.integral, hq]
  have hn : (signed s q 0).natAbs = q := by
    unfold signed
    rw [Nat.shiftLeft_eq, Nat.pow_zero, Nat.mul_one]
    cases s <;> simp
  have hnr : ((signed s q 0 : Int) : Rat) = sv s (q : Rat) := by
    unfold signed sv
    rw [Nat.shiftLeft_eq, Nat.pow_zero, Nat.mul_one]
    cases s
    · simp [Rat.intCast_natCast]
    · simp only [if_true]; rw [Rat.intCast_neg, Rat.intCast_natCast]
  refine ⟨signed s q 0, ?_, by rw [hn]; exact hqb', ?_, ?_⟩
  · unfold floatToIntVal
    rw [hti]
    have hmin : IntKind.i64.min = -9223372036854775808 := by rfl
    have hmax : IntKind.i64.max = 9223372036854775807 := by rfl
    dsimp only
    rw [if_pos (by rw [hmin, hmax]; omega)]
  · rw [hnr, hv]
    unfold sv
    cases s
    · simp only [Bool.false_eq_true, if_false]; grind
    · simp only [if_true]; grind
  · rw [hnr, hv]
    unfold sv
    cases s
    · simp only [Bool.false_eq_true, if_false]; grind
    · simp only [if_true]; grind
end Go.Proofs.Ytdlaafeagcbpaaa
