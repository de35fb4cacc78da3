/-
  The angle of a point, step by step: each operation is valid and its result bounded. No program in sight.
-/
import Derived.Test.YtdlaafeagcbpaaaLog
namespace Go.Proofs.Ytdlaafeagcbpaaa
open Go Ieee

abbrev cEight : Nat := 4620693217682128896
theorem fin_eight : fin .f64 cEight = true := by decide
theorem val_eight : val .f64 cEight = 8 := by
  have h : FloatKind.f64.decode cEight = .number false (2 ^ 52) (-49) := by decide
  rw [val_of h]
  show mv (2 ^ 52) (-49) = _
  rw [mv_p2]; rfl

/-- numbers of one value that have no sign are one number. -/
theorem rung_lt {x y : Nat} (hxy : x < y) (hy : y < 9223372036854775808) {s t : Bool} {m n : Nat} {e f : Int} (hx : FloatKind.f64.decode x = .number s m e) (hy' : FloatKind.f64.decode y = .number t n f) : mv m e < mv n f := by
  have hB : FloatKind.f64.format.binade = 2 ^ 52 := rfl
  have hS : FloatKind.f64.format.signWeight = 9223372036854775808 := rfl
  have hL : FloatKind.f64.format.leastPlace = -1074 := rfl
  have two := two_binade FloatKind.f64.format
  have one := one_binade FloatKind.f64.format
  unfold FloatKind.decode Format.read at hx hy'
  rw [hS, hB, hL] at hx hy'
  rw [hB] at two one
  have hf : FloatKind.f64.format.fractionBits = 52 := rfl
  rw [hf] at two one
  rw [Nat.mod_eq_of_lt hy] at hy'
  rw [Nat.mod_eq_of_lt (show x < 9223372036854775808 by omega)] at hx
  dsimp only at hx hy'
  split at hx
  · rename_i h1
    cases hx
    split at hy'
    · cases hy'
      exact mv_lt hxy
    · split at hy'
      · cases hy'
        have k1 := mv_lt (e := -1074) h1
        have k2 : mv (2 ^ 52) (-1074) ≤ mv (2 ^ 52 + y % 2 ^ 52) (-1074 + ((y / 2 ^ 52 - 1 : Nat) : Int)) := by
          rw [← mv_shift]
          apply mv_le
          have := Nat.one_le_two_pow (n := y / 2 ^ 52 - 1)
          have h5 : (2 ^ 52 + y % 2 ^ 52) * 1 ≤ (2 ^ 52 + y % 2 ^ 52) * 2 ^ (y / 2 ^ 52 - 1) := Nat.mul_le_mul_left _ this
          omega
        grind
      · split at hy' <;> cases hy'
  · rename_i h1
    split at hx
    · cases hx
      split at hy'
      · omega
      · split at hy'
        · cases hy'
          by_cases hj : x / 2 ^ 52 = y / 2 ^ 52
          · rw [hj]
            apply mv_lt
            have a1 := Nat.div_add_mod x (2 ^ 52)
            have a2 := Nat.div_add_mod y (2 ^ 52)
            rw [hj] at a1
            omega
          · have hle : x / 2 ^ 52 ≤ y / 2 ^ 52 := Nat.div_le_div_right (Nat.le_of_lt hxy)
            have hx1 : 1 ≤ x / 2 ^ 52 := by omega
            have k1 : mv (2 ^ 52 + x % 2 ^ 52) (-1074 + ((x / 2 ^ 52 - 1 : Nat) : Int)) < mv (2 * 2 ^ 52) (-1074 + ((x / 2 ^ 52 - 1 : Nat) : Int)) := mv_lt (by have := Nat.mod_lt x (show 0 < 2 ^ 52 by decide); omega)
            have k2 : mv (2 ^ 52) (-1074 + ((y / 2 ^ 52 - 1 : Nat) : Int)) ≤ mv (2 ^ 52 + y % 2 ^ 52) (-1074 + ((y / 2 ^ 52 - 1 : Nat) : Int)) := mv_le (by omega)
            rw [two] at k1
            rw [one] at k2
            have k3 : p2 (-1074 + ((x / 2 ^ 52 - 1 : Nat) : Int) + 1 + ((52 : Nat) : Int)) ≤ p2 (-1074 + ((y / 2 ^ 52 - 1 : Nat) : Int) + ((52 : Nat) : Int)) := p2_le (by omega)
            grind
        · split at hy' <;> cases hy'
    · split at hx <;> cases hx
theorem val_inj {x y : Nat} (hx : fin .f64 x = true) (hy : fin .f64 y = true) (hx2 : x < 9223372036854775808) (hy2 : y < 9223372036854775808) (h : val .f64 x = val .f64 y) : x = y := by
  obtain ⟨s, m, e, hd, hv, _⟩ := fin_form hx
  obtain ⟨t, n, f, hd', hv', _⟩ := fin_form hy
  have pos : ∀ (z : Nat) (s : Bool) (m : Nat) (e : Int), z < 9223372036854775808 → FloatKind.f64.decode z = .number s m e → s = false := by
    intro z s m e hz hd
    unfold FloatKind.decode Format.read at hd
    have hS : FloatKind.f64.format.signWeight = 9223372036854775808 := rfl
    rw [hS, Nat.div_eq_of_lt hz] at hd
    dsimp only at hd
    split at hd
    · cases hd; rfl
    · split at hd
      · cases hd; rfl
      · split at hd <;> cases hd
  obtain rfl := pos _ _ _ _ hx2 hd
  obtain rfl := pos _ _ _ _ hy2 hd'
  have hmv : mv m e = mv n f := by
    rw [hv, hv'] at h
    exact h
  rcases Nat.lt_trichotomy x y with h1 | h1 | h1
  · have := rung_lt h1 hy2 hd hd'
    grind
  · exact h1
  · have := rung_lt h1 hx2 hd' hd
    grind

/-- ONE HALVING OF THE ANGLE. -/
structure IterOk (t t' a b c d : Nat) : Prop where
  sq : floatBits .mul .f64 t t = some a
  one : floatBits .add .f64 cOne a = some b
  root : FloatKind.f64.format.sqrt b = some c
  two : floatBits .add .f64 cOne c = some d
  quo : floatBits .quo .f64 t d = some t'
theorem iter_ok {t : Nat} (ht : fin .f64 t = true) (h0 : 0 ≤ val .f64 t) (h1 : val .f64 t ≤ 1) : ∃ t' a b c d, IterOk t t' a b c d ∧ fin .f64 t' = true ∧ 0 ≤ val .f64 t' ∧ val .f64 t' ≤ 1 := by
  have hm := mul_abs (x := val .f64 t) (y := val .f64 t) (a := 1) (b := 1) (by grind) h1 (by grind) h1
  obtain ⟨a, ha, hRa, _, a2⟩ := mul_b ht ht 0 (by decide) (by decide) (by rw [p2_zero]; grind) (by rw [p2_zero]; grind)
  rw [p2_zero] at a2
  have a0 : 0 ≤ val .f64 a := hRa.2.2 0 (rep_zero _) (Rat.mul_nonneg h0 h0)
  have e1 : p2 1 = 2 := p2_one
  have e2 : p2 2 = 4 := by rw [show (2 : Int) = 1 + 1 from rfl, p2_add, p2_one]; grind
  obtain ⟨b, hb, hRb, _, b2⟩ := add_b fin_one hRa.1 1 (by decide) (by decide) (by rw [e1, val_one]; grind) (by rw [e1, val_one]; grind)
  have b1 : 1 ≤ val .f64 b := hRb.2.2 1 rep_one (by rw [val_one]; grind)
  obtain ⟨c, hc, hfc, c1, c2⟩ := sqrt_rnd hRb.1 (by grind) 1 (by decide) (by decide) (by
    show val .f64 b ≤ p2 2
    rw [e2]
    rw [e1] at b2
    grind)
  rw [e1] at c2
  obtain ⟨d, hd, hRd, _, d2⟩ := add_b fin_one hfc 2 (by decide) (by decide) (by rw [e2, val_one]; grind) (by rw [e2, val_one]; grind)
  have d1 : 1 ≤ val .f64 d := hRd.2.2 1 rep_one (by rw [val_one]; grind)
  have hdv := div_abs (x := val .f64 t) (c := val .f64 d) (M := 1) (by grind) (by grind) (by grind)
  obtain ⟨t', ht', hRt, _, t2⟩ := div_b ht hRd.1 (by grind) 0 (by decide) (by decide) (by rw [p2_zero]; exact hdv.1) (by rw [p2_zero]; exact hdv.2)
  rw [p2_zero] at t2
  have hq0 : 0 ≤ val .f64 t / val .f64 d := by
    rw [Rat.div_def]
    exact Rat.mul_nonneg h0 (Rat.le_of_lt (Rat.inv_pos.2 (by grind)))
  exact ⟨t', a, b, c, d, ⟨ha, hb, hc, hd, ht'⟩, hRt.1, hRt.2.2 0 (rep_zero _) hq0, t2⟩

/-- step i of the row for k = 15 - 2 i. -/
def arcP (u : Nat) : Nat → Nat
  | 0 => 0
  | i + 1 => pa .sub .f64 (pa .quo .f64 cOne (floatOfInt .f64 (15 - 2 * (i : Int)))) (pa .mul .f64 u (arcP u i))
structure ArcOk (u q q' : Nat) (n : Int) (a b : Nat) : Prop where
  quo : floatBits .quo .f64 cOne (floatOfInt .f64 n) = some a
  mul : floatBits .mul .f64 u q = some b
  sub : floatBits .sub .f64 a b = some q'
theorem arc_step {u q : Nat} (hu : fin .f64 u = true) (h0 : 0 ≤ val .f64 u) (h1 : val .f64 u ≤ 1) (hq : fin .f64 q = true) (i : Nat) (hi : i ≤ 12) (q1 : -p2 i ≤ val .f64 q) (q2 : val .f64 q ≤ p2 i) (n : Int) (hn : 1 ≤ n) (hn2 : n < 1000) :
    ∃ a b q', ArcOk u q q' n a b ∧ fin .f64 q' = true ∧ -p2 (i + 1 : Nat) ≤ val .f64 q' ∧ val .f64 q' ≤ p2 (i + 1 : Nat) := by
  obtain ⟨hf, hfv⟩ := ofInt_val n (by omega)
  have hn1 : (1 : Rat) ≤ (n : Rat) := by exact_mod_cast hn
  have hd := div_abs (x := val .f64 cOne) (c := (n : Rat)) (M := 1) (by grind) (by rw [val_one]; grind) (by rw [val_one]; grind)
  obtain ⟨a, ha, hRa, a1, a2⟩ := div_b fin_one hf (by rw [hfv]; grind) 0 (by decide) (by decide) (by rw [hfv, p2_zero]; exact hd.1) (by rw [hfv, p2_zero]; exact hd.2)
  rw [p2_zero] at a1 a2
  have hm := mul_abs (x := val .f64 u) (y := val .f64 q) (a := 1) (b := p2 i) (by grind) h1 q1 q2
  obtain ⟨b, hb, hRb, b1, b2⟩ := mul_b hu hq (i : Int) (by omega) (by omega) (by grind) (by grind)
  have e3 : p2 ((i + 1 : Nat) : Int) = p2 i * 2 := by rw [Int.natCast_add, p2_add]; rfl
  have h1i : 1 ≤ p2 i := by rw [← p2_zero]; exact p2_le (by omega)
  obtain ⟨q', hq', hRq, c1, c2⟩ := sub_b hRa.1 hRb.1 ((i + 1 : Nat) : Int) (by omega) (by omega) (by rw [e3]; grind) (by rw [e3]; grind)
  exact ⟨a, b, q', ⟨ha, hb, hq'⟩, hRq.1, c1, c2⟩
theorem arc_fin {u : Nat} (hu : fin .f64 u = true) (h0 : 0 ≤ val .f64 u) (h1 : val .f64 u ≤ 1) : ∀ i : Nat, i ≤ 8 → fin .f64 (arcP u i) = true ∧ -p2 i ≤ val .f64 (arcP u i) ∧ val .f64 (arcP u i) ≤ p2 i := by
  intro i
  induction i with
  | zero =>
    intro _
    have hp := p2_pos ((0 : Nat) : Int)
    refine ⟨fin_c0, ?_, ?_⟩
    · show _ ≤ val .f64 0
      rw [val_c0]; grind
    · show val .f64 0 ≤ _
      rw [val_c0]; grind
  | succ i ih =>
    intro hi
    obtain ⟨g1, g2, g3⟩ := ih (by omega)
    obtain ⟨a, b, q', hS, hf, c1, c2⟩ := arc_step hu h0 h1 g1 i (by omega) g2 g3 (15 - 2 * (i : Int)) (by omega) (by omega)
    have e : arcP u (i + 1) = q' := by
      show pa .sub .f64 (pa .quo .f64 cOne (floatOfInt .f64 (15 - 2 * (i : Int)))) (pa .mul .f64 u (arcP u i)) = q'
      rw [(ar_some hS.quo).2.2, (ar_some hS.mul).2.2, (ar_some hS.sub).2.2]
    rw [e]
    exact ⟨hf, c1, c2⟩
theorem arc_steps {u : Nat} (hu : fin .f64 u = true) (h0 : 0 ≤ val .f64 u) (h1 : val .f64 u ≤ 1) (i : Nat) (hi : i < 8) : ∃ a b, ArcOk u (arcP u i) (arcP u (i + 1)) (15 - 2 * (i : Int)) a b := by
  obtain ⟨g1, g2, g3⟩ := arc_fin hu h0 h1 i (by omega)
  obtain ⟨a, b, q', hS, _⟩ := arc_step hu h0 h1 g1 i (by omega) g2 g3 (15 - 2 * (i : Int)) (by omega) (by omega)
  refine ⟨a, b, ?_⟩
  have e : arcP u (i + 1) = q' := by
    show pa .sub .f64 (pa .quo .f64 cOne (floatOfInt .f64 (15 - 2 * (i : Int)))) (pa .mul .f64 u (arcP u i)) = q'
    rw [(ar_some hS.quo).2.2, (ar_some hS.mul).2.2, (ar_some hS.sub).2.2]
  rw [e]
  exact hS

/-- FROM THE SMALL TANGENT TO THE ANGLE, before the point's octant is asked. -/
structure AngOk (t u c d a0 : Nat) : Prop where
  sq : floatBits .mul .f64 t t = some u
  steps : ∀ i, i < 8 → ∃ a b, ArcOk u (arcP u i) (arcP u (i + 1)) (15 - 2 * (i : Int)) a b
  mul : floatBits .mul .f64 t (arcP u 8) = some c
  eight : floatBits .mul .f64 cEight c = some d
  quo : floatBits .quo .f64 d cCirc = some a0
  isfin : fin .f64 a0 = true
  lo : -p2 11 ≤ val .f64 a0
  hi : val .f64 a0 ≤ p2 11
theorem ang_ok {t : Nat} (ht : fin .f64 t = true) (h0 : 0 ≤ val .f64 t) (h1 : val .f64 t ≤ 1) : ∃ u c d a0, AngOk t u c d a0 := by
  have hm := mul_abs (x := val .f64 t) (y := val .f64 t) (a := 1) (b := 1) (by grind) h1 (by grind) h1
  obtain ⟨u, hu, hRu, _, u2⟩ := mul_b ht ht 0 (by decide) (by decide) (by rw [p2_zero]; grind) (by rw [p2_zero]; grind)
  rw [p2_zero] at u2
  have u0 : 0 ≤ val .f64 u := hRu.2.2 0 (rep_zero _) (Rat.mul_nonneg h0 h0)
  obtain ⟨g1, g2, g3⟩ := arc_fin hRu.1 u0 u2 8 (by decide)
  have e8 : p2 ((8 : Nat) : Int) = p2 8 := rfl
  rw [e8] at g2 g3
  have hm2 := mul_abs (x := val .f64 t) (y := val .f64 (arcP u 8)) (a := 1) (b := p2 8) (by grind) h1 g2 g3
  obtain ⟨c, hc, hRc, c1, c2⟩ := mul_b ht g1 8 (by decide) (by decide) (by grind) (by grind)
  have e11 : p2 11 = 8 * p2 8 := by
    rw [show (11 : Int) = 3 + 8 from rfl, p2_add]
    have : p2 3 = 8 := by decide
    rw [this]
  obtain ⟨d, hd, hRd, d1, d2⟩ := mul_b fin_eight hRc.1 11 (by decide) (by decide) (by rw [val_eight, e11]; grind) (by rw [val_eight, e11]; grind)
  obtain ⟨k1, k2⟩ := val_circ
  have hp := p2_pos 11
  have hge : p2 11 * 1 ≤ p2 11 * val .f64 cCirc := Rat.mul_le_mul_of_nonneg_left (by grind) (Rat.le_of_lt hp)
  have hdv := div_abs (x := val .f64 d) (c := val .f64 cCirc) (M := p2 11) (by grind) (by grind) (by grind)
  obtain ⟨a0, ha, hRa, a1, a2⟩ := div_b hRd.1 fin_circ (by grind) 11 (by decide) (by decide) hdv.1 hdv.2
  exact ⟨u, c, d, a0, hu, fun i hi => arc_steps hRu.1 u0 u2 i hi, hc, hd, ha, hRa.1, a1, a2⟩

/-- THE OCTANT: over, left of the axis, below it. -/
structure OctOk (a0 : Nat) (over left : Bool) (a1 a2 : Nat) : Prop where
  quarter : (over = true ∧ floatBits .sub .f64 cQuart a0 = some a1) ∨ (over = false ∧ a1 = a0)
  half : (left = true ∧ floatBits .sub .f64 cHalf a1 = some a2) ∨ (left = false ∧ a2 = a1)
  isfin : fin .f64 a2 = true
  lo : -p2 13 ≤ val .f64 a2
  hi : val .f64 a2 ≤ p2 13
theorem oct_ok {a0 : Nat} (h : fin .f64 a0 = true) (h1 : -p2 11 ≤ val .f64 a0) (h2 : val .f64 a0 ≤ p2 11) (over left : Bool) : ∃ a1 a2, OctOk a0 over left a1 a2 := by
  have e12 : p2 12 = p2 11 * 2 := by rw [show (12 : Int) = 11 + 1 from rfl, p2_add, p2_one]
  have e13 : p2 13 = p2 12 * 2 := by rw [show (13 : Int) = 12 + 1 from rfl, p2_add, p2_one]
  have h11 : 1 ≤ p2 11 := by rw [← p2_zero]; exact p2_le (by decide)
  have hq : ∃ a1, ((over = true ∧ floatBits .sub .f64 cQuart a0 = some a1) ∨ (over = false ∧ a1 = a0)) ∧ fin .f64 a1 = true ∧ -p2 12 ≤ val .f64 a1 ∧ val .f64 a1 ≤ p2 12 := by
    cases over
    · exact ⟨a0, Or.inr ⟨rfl, rfl⟩, h, by grind, by grind⟩
    · obtain ⟨a1, ha, hR, b1, b2⟩ := sub_b fin_quart h 12 (by decide) (by decide) (by rw [val_quart, e12]; grind) (by rw [val_quart, e12]; grind)
      exact ⟨a1, Or.inl ⟨rfl, ha⟩, hR.1, b1, b2⟩
  obtain ⟨a1, hq, f1, l1, l2⟩ := hq
  have hh : ∃ a2, ((left = true ∧ floatBits .sub .f64 cHalf a1 = some a2) ∨ (left = false ∧ a2 = a1)) ∧ fin .f64 a2 = true ∧ -p2 13 ≤ val .f64 a2 ∧ val .f64 a2 ≤ p2 13 := by
    cases left
    · exact ⟨a1, Or.inr ⟨rfl, rfl⟩, f1, by grind, by grind⟩
    · obtain ⟨a2, ha, hR, b1, b2⟩ := sub_b fin_half f1 13 (by decide) (by decide) (by rw [val_half, e13]; grind) (by rw [val_half, e13]; grind)
      exact ⟨a2, Or.inl ⟨rfl, ha⟩, hR.1, b1, b2⟩
  obtain ⟨a2, hh, f2, m1, m2⟩ := hh
  exact ⟨a1, a2, hq, hh, f2, m1, m2⟩
end Go.Proofs.Ytdlaafeagcbpaaa
