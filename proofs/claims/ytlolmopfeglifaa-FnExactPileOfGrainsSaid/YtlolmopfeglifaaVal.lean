/-
  Finite floating-point numbers as rational numbers: what + - * / do to them, up to one rounding that does not pass a number of the format.
-/
import Derived.Test.YtlolmopfeglifaaFl
import Derived.Test.YtlolmopfeglifaaIe
namespace Go.Proofs.Ytlolmopfeglifaa
open Go Ieee

def kE : FloatKind → Nat
  | .f32 => 254
  | .f64 => 2046
theorem infRung_k (k : FloatKind) : k.format.infRung = (kE k + 1) * k.format.binade := by cases k <;> rfl
theorem exp_k (k : FloatKind) : 2 ≤ 2 ^ k.format.exponentBits := by cases k <;> decide
/-- two to the power behind the greatest finite number. -/
def top (k : FloatKind) : Rat := p2 (k.format.leastPlace + kE k + k.format.fractionBits)
theorem top32 : top .f32 = p2 128 := rfl
theorem top64 : top .f64 = p2 1024 := rfl

def sgv (s : Bool) (v : Rat) : Rat := if s then -v else v
def val (k : FloatKind) (x : Nat) : Rat :=
  match k.decode x with
  | .number s m e => sgv s (mv m e)
  | _ => 0
def fin (k : FloatKind) (x : Nat) : Bool :=
  match k.decode x with
  | .number _ _ _ => true
  | _ => false
/-- a number that the format has, but for its bound. -/
def Rep (k : FloatKind) (q : Rat) : Prop := ∃ K j, K < 2 * k.format.binade ∧ k.format.leastPlace ≤ j ∧ (q = mv K j ∨ q = -mv K j)
theorem Rep.neg {k : FloatKind} {q : Rat} (h : Rep k q) : Rep k (-q) := by
  obtain ⟨K, j, h1, h2, h | h⟩ := h
  · exact ⟨K, j, h1, h2, Or.inr (by rw [h])⟩
  · exact ⟨K, j, h1, h2, Or.inl (by rw [h]; exact Rat.neg_neg _)⟩
theorem rep_p2 (k : FloatKind) (b : Int) (h : k.format.leastPlace ≤ b) : Rep k (p2 b) :=
  ⟨1, b, by have := binade_pos k.format; omega, h, Or.inl (by simp [mv])⟩
theorem rep_zero (k : FloatKind) : Rep k 0 := ⟨0, k.format.leastPlace, by have := binade_pos k.format; omega, Int.le_refl _, Or.inl (by simp [mv])⟩

theorem read_form (k : FloatKind) {x : Nat} {s : Bool} {m : Nat} {e : Int} (h : k.decode x = .number s m e) :
    m < 2 * k.format.binade ∧ k.format.leastPlace ≤ e ∧ mv m e < top k := by
  have hb := binade_pos k.format
  have hi := infRung_k k
  unfold FloatKind.decode Format.read at h
  generalize x % k.format.signWeight = rung at h
  dsimp only at h
  split at h
  · rename_i hlt
    cases h
    refine ⟨by omega, Int.le_refl _, ?_⟩
    have h1 := mv_lt (e := k.format.leastPlace) hlt
    rw [one_binade] at h1
    have h2 : p2 (k.format.leastPlace + k.format.fractionBits) ≤ top k := p2_le (by omega)
    grind
  · split at h
    · rename_i hge hlt
      cases h
      have hmod := Nat.mod_lt rung hb
      refine ⟨by omega, by omega, ?_⟩
      have h1 := mv_lt (e := k.format.leastPlace + ((rung / k.format.binade - 1 : Nat) : Int)) (show k.format.binade + rung % k.format.binade < 2 * k.format.binade by omega)
      rw [two_binade] at h1
      have hd : rung / k.format.binade < kE k + 1 := by
        rw [hi] at hlt
        exact Nat.div_lt_of_lt_mul (by rw [Nat.mul_comm]; exact hlt)
      have hd1 : 0 < rung / k.format.binade := Nat.div_pos (by omega) hb
      have h2 : p2 (k.format.leastPlace + ((rung / k.format.binade - 1 : Nat) : Int) + 1 + k.format.fractionBits) ≤ top k := p2_le (by omega)
      grind
    · split at h <;> cases h

theorem fin_form {k : FloatKind} {x : Nat} (h : fin k x = true) : ∃ s m e, k.decode x = .number s m e ∧ val k x = sgv s (mv m e) ∧ m < 2 * k.format.binade ∧ k.format.leastPlace ≤ e ∧ mv m e < top k := by
  unfold fin at h
  cases hd : k.decode x with
  | nan s t => rw [hd] at h; cases h
  | infinity s => rw [hd] at h; cases h
  | number s m e =>
    obtain ⟨h1, h2, h3⟩ := read_form k hd
    exact ⟨s, m, e, rfl, by unfold val; rw [hd], h1, h2, h3⟩
theorem fin_nan {k : FloatKind} {x : Nat} (h : fin k x = true) : isN k x = false := by
  obtain ⟨s, m, e, hd, _⟩ := fin_form h
  unfold isN
  rw [hd]
  rfl
theorem sv_abs {s : Bool} {v t : Rat} (h0 : 0 ≤ v) (h : v < t) : -t < sgv s v ∧ sgv s v < t := by
  unfold sgv
  cases s <;> simp <;> constructor <;> grind
theorem val_top {k : FloatKind} {x : Nat} (h : fin k x = true) : -top k < val k x ∧ val k x < top k := by
  obtain ⟨s, m, e, hd, hv, _, _, h3⟩ := fin_form h
  rw [hv]
  exact sv_abs (mv_nonneg m e) h3
theorem rep_val {k : FloatKind} {x : Nat} (h : fin k x = true) : Rep k (val k x) := by
  obtain ⟨s, m, e, hd, hv, h1, h2, _⟩ := fin_form h
  refine ⟨m, e, h1, h2, ?_⟩
  rw [hv]
  unfold sgv
  cases s
  · exact Or.inl rfl
  · exact Or.inr rfl

/-- r is v rounded, as far as the format's numbers tell. -/
def Rnd (k : FloatKind) (v : Rat) (r : Nat) : Prop :=
  fin k r = true ∧ (∀ q, Rep k q → v ≤ q → val k r ≤ q) ∧ (∀ q, Rep k q → q ≤ v → q ≤ val k r)

theorem encode_zero (k : FloatKind) (s : Bool) (e : Int) : k.decode (k.encode (.number s 0 e)) = .number s 0 k.format.leastPlace := by
  show k.format.read (k.format.nearest s 0 e) = _
  unfold Format.nearest
  rw [if_pos rfl, read_word]
  · rw [if_pos (binade_pos _)]
  · rw [infRung_k]
    have := binade_pos k.format
    exact Nat.mul_pos (by omega) this

theorem round_datum (k : FloatKind) (s : Bool) (m : Nat) (e : Int) (K : Nat) (j : Int) (hK : K < 2 * k.format.binade) (hj : k.format.leastPlace ≤ j) (h : mv m e ≤ mv K j) (hbig : mv K j < top k) :
    ∃ m' e', k.decode (k.encode (.number s m e)) = .number s m' e' ∧ (∀ K' j', K' < 2 * k.format.binade → k.format.leastPlace ≤ j' → mv m e ≤ mv K' j' → mv m' e' ≤ mv K' j') ∧
      (∀ K' j', K' < 2 * k.format.binade → k.format.leastPlace ≤ j' → mv K' j' ≤ mv m e → mv K' j' ≤ mv m' e') := by
  by_cases hm : m = 0
  · subst hm
    refine ⟨0, _, encode_zero k s e, fun K' j' _ _ _ => ?_, fun K' j' _ _ h' => ?_⟩
    · rw [mv_zero]; exact mv_nonneg _ _
    · rw [mv_zero] at h' ⊢; exact h'
  · have hr : rungOf k.format s m e < k.format.infRung := by
      apply Nat.lt_of_not_le
      intro hle
      have h1 := rung_big k.format s hm e (kE k) (infRung_k k) hle
      have h2 := keptv_le k.format s hm e K j hK hj h
      unfold top at hbig
      grind
    obtain ⟨m', e', hd, hv⟩ := read_nearest k.format s hm e hr
    refine ⟨m', e', hd, fun K' j' h1 h2 h3 => ?_, fun K' j' h1 h2 h3 => ?_⟩
    · rw [hv]; exact keptv_le k.format s hm e K' j' h1 h2 h3
    · rw [hv]; exact keptv_ge k.format s hm e K' j' h1 h2 h3

theorem sv_neg (s : Bool) (v : Rat) : sgv (!s) v = -sgv s v := by
  unfold sgv
  cases s
  · rfl
  · simp [Rat.neg_neg]

theorem val_of {k : FloatKind} {x : Nat} {s : Bool} {m : Nat} {e : Int} (h : k.decode x = .number s m e) : val k x = sgv s (mv m e) := by unfold val; rw [h]
theorem fin_of {k : FloatKind} {x : Nat} {s : Bool} {m : Nat} {e : Int} (h : k.decode x = .number s m e) : fin k x = true := by unfold fin; rw [h]

/-- A NUMBER WRITTEN: its value is the number rounded. -/
theorem encode_rnd (k : FloatKind) (s : Bool) (m : Nat) (e : Int) (M : Rat) (hM : Rep k M) (h : mv m e ≤ M) (hbig : M < top k) : Rnd k (sgv s (mv m e)) (k.encode (.number s m e)) := by
  obtain ⟨K, j, hK, hj, hq⟩ := hM
  have h0 := mv_nonneg m e
  have hM' : mv m e ≤ mv K j ∧ mv K j < top k := by
    rcases hq with rfl | rfl
    · exact ⟨h, hbig⟩
    · have h1 := mv_nonneg K j
      have h2 : mv K j = 0 := by grind
      have h3 : 0 < top k := p2_pos _
      constructor <;> grind
  obtain ⟨m', e', hd, hle, hge⟩ := round_datum k s m e K j hK hj hM'.1 hM'.2
  have h0' := mv_nonneg m' e'
  refine ⟨fin_of hd, ?_, ?_⟩
  · rintro q ⟨K', j', h1, h2, hq'⟩ hv
    rw [val_of hd]
    have hp := mv_nonneg K' j'
    have a := hle K' j' h1 h2
    have b := hge K' j' h1 h2
    unfold sgv at hv ⊢
    cases s
    · simp only [Bool.false_eq_true, if_false] at hv ⊢
      rcases hq' with rfl | rfl
      · exact a hv
      · have z : mv m e = 0 := by grind
        have z' : mv m' e' ≤ mv 0 k.format.leastPlace := hle 0 k.format.leastPlace (by have := binade_pos k.format; omega) (Int.le_refl _) (by rw [mv_zero]; grind)
        rw [mv_zero] at z'
        grind
    · simp only [if_true] at hv ⊢
      rcases hq' with rfl | rfl
      · grind
      · have : mv K' j' ≤ mv m e := by grind
        have := b this
        grind
  · rintro q ⟨K', j', h1, h2, hq'⟩ hv
    rw [val_of hd]
    have hp := mv_nonneg K' j'
    have a := hle K' j' h1 h2
    have b := hge K' j' h1 h2
    unfold sgv at hv ⊢
    cases s
    · simp only [Bool.false_eq_true, if_false] at hv ⊢
      rcases hq' with rfl | rfl
      · exact b hv
      · grind
    · simp only [if_true] at hv ⊢
      rcases hq' with rfl | rfl
      · have z : mv m e = 0 := by grind
        have z' : mv m' e' ≤ mv 0 k.format.leastPlace := hle 0 k.format.leastPlace (by have := binade_pos k.format; omega) (Int.le_refl _) (by rw [mv_zero]; grind)
        rw [mv_zero] at z'
        grind
      · have : mv m e ≤ mv K' j' := by grind
        have := a this
        grind

/-- a number that the format has is kept. -/
theorem Rnd.exact {k : FloatKind} {v : Rat} {r : Nat} (h : Rnd k v r) (hv : Rep k v) : val k r = v := by
  have h1 := h.2.1 v hv Rat.le_refl
  have h2 := h.2.2 v hv Rat.le_refl
  exact Rat.le_antisymm h1 h2

-- widening
theorem rep_wide {q : Rat} (h : Rep .f32 q) : Rep .f64 q := by
  obtain ⟨K, j, h1, h2, h3⟩ := h
  refine ⟨K, j, Nat.lt_of_lt_of_le h1 (by decide), Int.le_trans (by decide) h2, h3⟩
theorem wid_num {x : Nat} (h : fin .f32 x = true) : fin .f64 (wid x) = true ∧ val .f64 (wid x) = val .f32 x := by
  obtain ⟨s, m, e, hd, hv, h1, h2, h3⟩ := fin_form h
  have e1 : wid x = FloatKind.f64.encode (.number s m e) := by unfold wid; rw [hd]
  have hrep : Rep .f64 (mv m e) := rep_wide ⟨m, e, h1, h2, Or.inl rfl⟩
  have ht : top .f32 ≤ top .f64 := by rw [top32, top64]; exact p2_le (by decide)
  have hr := encode_rnd .f64 s m e (mv m e) hrep Rat.le_refl (by grind)
  rw [e1]
  refine ⟨hr.1, ?_⟩
  rw [hv]
  apply hr.exact
  unfold sgv
  cases s
  · exact hrep
  · exact hrep.neg

section
variable {P : Program} (w : World)
theorem run_widen0 (x : Nat) : (Conv.floatToFloat .f32 x .f64).run P w = .ok (.float .f64 (widV x w)) (w.drewN (widN x)) := by
  have hne : ¬ FloatKind.f32 = FloatKind.f64 := by decide
  unfold Conv.floatToFloat widV widN
  rw [if_neg hne]
  cases hd : FloatKind.f32.decode x with
  | nan s t => simp [ask, Question.forced, World.drew_is_drewN]
  | infinity s => simp [World.drewN_zero]
  | number s m e =>
    dsimp only
    have hw := (wid_num (fin_of hd)).1
    have e1 : wid x = FloatKind.f64.encode (.number s m e) := by unfold wid; rw [hd]
    rw [e1] at hw
    have ho : (FloatKind.f64.decode (FloatKind.f64.encode (.number s m e))).isInfinity = false := by
      unfold fin at hw
      revert hw
      cases FloatKind.f64.decode (FloatKind.f64.encode (.number s m e)) <;> intro hw <;> first | rfl | cases hw
    rw [ho]
    simp [World.drewN_zero]
@[go_sem] theorem run_widen (src dst : TypeId) (x : Nat) (hs : (P.underlying src).isSome = true) (hd : P.underlying dst = some (.float .f64)) :
    (convert src dst (.float .f32 x)).run P w = .ok (.float .f64 (widV x w)) (w.drewN (widN x)) := by
  obtain ⟨u, hs'⟩ := Option.isSome_iff_exists.1 hs
  rw [← run_widen0 (P := P) w x]
  cases u <;> simp [convert, run_underlying hs', run_underlying hd]
end

-- order
theorem sv_signed (s : Bool) (m n : Nat) (b : Int) : sgv s (mv m (b + n)) = ((signed s m n : Int) : Rat) * p2 b := by
  rw [← mv_shift]
  unfold sgv signed mv
  rw [Nat.shiftLeft_eq]
  cases s
  · simp [Rat.intCast_natCast]
  · simp only [if_true]
    rw [Rat.intCast_neg, Rat.intCast_natCast]
    grind
theorem order_num {k : FloatKind} {x y : Nat} (hx : fin k x = true) (hy : fin k y = true) :
    k.format.order x y = some (if val k x < val k y then .lt else if val k x = val k y then .eq else .gt) := by
  obtain ⟨s, m, i, hdx, hvx, _⟩ := fin_form hx
  obtain ⟨t, n, j, hdy, hvy, _⟩ := fin_form hy
  have hdx' : k.format.read x = .number s m i := hdx
  have hdy' : k.format.read y = .number t n j := hdy
  unfold Format.order
  rw [hdx', hdy', hvx, hvy]
  unfold Datum.order
  dsimp only
  generalize hb : min i j = b
  obtain ⟨p, rfl⟩ : ∃ p : Nat, i = b + p := ⟨(i - b).toNat, by omega⟩
  obtain ⟨q, rfl⟩ : ∃ q : Nat, j = b + q := ⟨(j - b).toNat, by omega⟩
  have e1 : (b + (p : Int) - b).toNat = p := by omega
  have e2 : (b + (q : Int) - b).toNat = q := by omega
  rw [e1, e2, sv_signed, sv_signed]
  generalize signed s m p = u
  generalize signed t n q = v
  have hp := p2_pos b
  have hlt : ((u : Rat) * p2 b < (v : Rat) * p2 b) ↔ u < v := by
    rw [Rat.mul_lt_mul_right hp]
    exact Rat.intCast_lt_intCast
  have heq : ((u : Rat) * p2 b = (v : Rat) * p2 b) ↔ u = v := by
    constructor
    · intro h
      have h1 : ¬ u < v := fun hh => absurd h (Rat.ne_of_lt (hlt.2 hh))
      have h2 : ¬ v < u := fun hh => by
        have : ((v : Rat) * p2 b < (u : Rat) * p2 b) := (Rat.mul_lt_mul_right hp).2 (Rat.intCast_lt_intCast.2 hh)
        exact absurd h.symm (Rat.ne_of_lt this)
      omega
    · intro h; rw [h]
  congr 1
  simp only [hlt, heq]
  unfold compare
  simp only [instOrdInt, compareOfLessAndEq]
end Go.Proofs.Ytlolmopfeglifaa
