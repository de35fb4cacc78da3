/-
  What rounding to a format does to a number's value, as a rational number: it does not pass a number that the format has; a number that the format has is kept.
-/
import Ieee.Arith
namespace Go.Proofs.Ytlolmopfeglifaa
open Ieee

/-- two to a power. -/
def p2 (e : Int) : Rat := (2 : Rat) ^ e
theorem p2_pos (e : Int) : 0 < p2 e := Rat.zpow_pos (by decide)
theorem p2_add (a b : Int) : p2 (a + b) = p2 a * p2 b := Rat.zpow_add (by decide) a b
theorem p2_nat (n : Nat) : p2 (n : Int) = ((2 ^ n : Nat) : Rat) := by
  unfold p2
  rw [Rat.zpow_natCast]
  simp
theorem p2_zero : p2 0 = 1 := rfl
theorem p2_one : p2 1 = 2 := by rfl
theorem p2_le {a b : Int} (h : a ≤ b) : p2 a ≤ p2 b := by
  obtain ⟨n, rfl⟩ : ∃ n : Nat, b = a + n := ⟨(b - a).toNat, by omega⟩
  rw [p2_add, p2_nat]
  have h1 : (1 : Rat) ≤ ((2 ^ n : Nat) : Rat) := by
    have : 1 ≤ 2 ^ n := Nat.one_le_two_pow
    exact_mod_cast this
  have := Rat.mul_le_mul_of_nonneg_left h1 (Rat.le_of_lt (p2_pos a))
  simpa using this

/-- the value of a magnitude. -/
def mv (m : Nat) (e : Int) : Rat := (m : Rat) * p2 e
theorem mv_nonneg (m : Nat) (e : Int) : 0 ≤ mv m e := Rat.mul_nonneg (by exact_mod_cast Nat.zero_le m) (Rat.le_of_lt (p2_pos e))
theorem mv_zero (e : Int) : mv 0 e = 0 := by simp [mv]
/-- one value, at a lesser place. -/
theorem mv_shift (m n : Nat) (e : Int) : mv (m * 2 ^ n) e = mv m (e + n) := by
  unfold mv
  rw [p2_add, p2_nat, Rat.natCast_mul]
  grind
theorem mv_le {m n : Nat} {e : Int} (h : m ≤ n) : mv m e ≤ mv n e := by
  unfold mv
  exact Rat.mul_le_mul_of_nonneg_right (by exact_mod_cast h) (Rat.le_of_lt (p2_pos e))
theorem mv_lt {m n : Nat} {e : Int} (h : m < n) : mv m e < mv n e := by
  unfold mv
  exact Rat.mul_lt_mul_of_pos_right (by exact_mod_cast h) (p2_pos e)
theorem le_of_mv {m n : Nat} {e : Int} (h : mv m e ≤ mv n e) : m ≤ n := by
  apply Nat.le_of_not_lt
  intro h'
  exact absurd (mv_lt (e := e) h') (Rat.not_lt.2 h)
theorem lt_of_mv {m n : Nat} {e : Int} (h : mv m e < mv n e) : m < n := by
  apply Nat.lt_of_not_le
  intro h'
  exact absurd (mv_le (e := e) h') (Rat.not_le.2 h)

/-- 'n / 2 ^ drop' made whole does not pass a whole number. -/
theorem cut_le (neg : Bool) (n drop K : Nat) (h : n ≤ K * 2 ^ drop) : Toward.even.cut neg n drop ≤ K := by
  unfold Toward.cut
  simp only [Nat.shiftLeft_eq, Nat.one_mul]
  by_cases hd : drop ≤ n.log2 + 2
  · rw [Nat.min_eq_left hd]
    generalize hg : 2 ^ drop = g at h
    have hg0 : 0 < g := by rw [← hg]; exact Nat.two_pow_pos _
    have hdm := Nat.div_add_mod n g
    have hle : n / g ≤ K := Nat.div_le_of_le_mul (by rw [Nat.mul_comm]; exact h)
    by_cases he : n / g = K
    · have hr : n % g = 0 := by
        rw [he, Nat.mul_comm] at hdm
        omega
      have hg1 : (g == 0) = false := by simp; omega
      simp [hr, he, hg1]
    · have : (decide (g < 2 * (n % g)) || g == 2 * (n % g) && n / g % 2 == 1).toNat ≤ 1 := Bool.toNat_le _
      omega
  · rw [Nat.min_eq_right (by omega)]
    have hlt : n < 2 ^ (n.log2 + 1) := Nat.lt_log2_self
    have h2 : 2 ^ (n.log2 + 2) = 2 * 2 ^ (n.log2 + 1) := by rw [Nat.pow_succ, Nat.mul_comm]
    have hdiv : n / 2 ^ (n.log2 + 2) = 0 := Nat.div_eq_of_lt (by omega)
    have hmod : n % 2 ^ (n.log2 + 2) = n := Nat.mod_eq_of_lt (by omega)
    rw [hdiv, hmod]
    have e1 : decide (2 ^ (n.log2 + 2) < 2 * n) = false := by simp; omega
    have e2 : (2 ^ (n.log2 + 2) == 2 * n) = false := by simp; omega
    simp [e1, e2]

theorem cut_ge (neg : Bool) (n drop K : Nat) (h : K * 2 ^ drop ≤ n) : K ≤ Toward.even.cut neg n drop := by
  unfold Toward.cut
  simp only [Nat.shiftLeft_eq, Nat.one_mul]
  by_cases hd : drop ≤ n.log2 + 2
  · rw [Nat.min_eq_left hd]
    have : K ≤ n / 2 ^ drop := (Nat.le_div_iff_mul_le (Nat.two_pow_pos _)).2 h
    omega
  · by_cases hK : K = 0
    · subst hK; exact Nat.zero_le _
    · exfalso
      have hlt : n < 2 ^ (n.log2 + 1) := Nat.lt_log2_self
      have h2 : 2 ^ (n.log2 + 1) ≤ 2 ^ drop := Nat.pow_le_pow_right (by decide) (by omega)
      have : 1 * 2 ^ drop ≤ K * 2 ^ drop := Nat.mul_le_mul_right _ (by omega)
      omega

/-- the place of the last digit that is kept. -/
def lastOf (f : Format) (m : Nat) (e : Int) : Int := max (e + m.log2 - f.fractionBits) f.leastPlace
/-- what is kept. -/
def keptOf (f : Format) (neg : Bool) (m : Nat) (e : Int) : Nat :=
  Toward.even.cut neg (m <<< (e - lastOf f m e).toNat) (lastOf f m e - e).toNat

theorem kept_le (f : Format) (neg : Bool) (m : Nat) (e : Int) (K : Nat) (h : mv m e ≤ mv K (lastOf f m e)) : keptOf f neg m e ≤ K := by
  unfold keptOf
  generalize lastOf f m e = l at h
  apply cut_le
  rw [Nat.shiftLeft_eq]
  by_cases hl : l ≤ e
  · obtain ⟨n, rfl⟩ : ∃ n : Nat, e = l + n := ⟨(e - l).toNat, by omega⟩
    rw [← mv_shift] at h
    have e1 : (l + (n : Int) - l).toNat = n := by omega
    have e2 : (l - (l + (n : Int))).toNat = 0 := by omega
    rw [e1, e2]
    have := le_of_mv h
    omega
  · obtain ⟨n, rfl⟩ : ∃ n : Nat, l = e + n := ⟨(l - e).toNat, by omega⟩
    rw [← mv_shift] at h
    have e1 : (e - (e + (n : Int))).toNat = 0 := by omega
    have e2 : (e + (n : Int) - e).toNat = n := by omega
    rw [e1, e2]
    have := le_of_mv h
    omega
theorem kept_ge (f : Format) (neg : Bool) (m : Nat) (e : Int) (K : Nat) (h : mv K (lastOf f m e) ≤ mv m e) : K ≤ keptOf f neg m e := by
  unfold keptOf
  generalize lastOf f m e = l at h
  apply cut_ge
  rw [Nat.shiftLeft_eq]
  by_cases hl : l ≤ e
  · obtain ⟨n, rfl⟩ : ∃ n : Nat, e = l + n := ⟨(e - l).toNat, by omega⟩
    rw [← mv_shift] at h
    have e1 : (l + (n : Int) - l).toNat = n := by omega
    have e2 : (l - (l + (n : Int))).toNat = 0 := by omega
    rw [e1, e2]
    have := le_of_mv h
    omega
  · obtain ⟨n, rfl⟩ : ∃ n : Nat, l = e + n := ⟨(l - e).toNat, by omega⟩
    rw [← mv_shift] at h
    have e1 : (e - (e + (n : Int))).toNat = 0 := by omega
    have e2 : (e + (n : Int) - e).toNat = n := by omega
    rw [e1, e2]
    have := le_of_mv h
    omega

theorem mv_hi (m : Nat) (e : Int) : mv m e < p2 (e + m.log2 + 1) := by
  have h : m < 2 ^ (m.log2 + 1) := Nat.lt_log2_self
  have := mv_lt (e := e) h
  rw [show 2 ^ (m.log2 + 1) = 1 * 2 ^ (m.log2 + 1) by omega, mv_shift] at this
  have e1 : e + ((m.log2 + 1 : Nat) : Int) = e + m.log2 + 1 := by omega
  rw [e1] at this
  simpa [mv] using this
theorem mv_lo {m : Nat} (hm : m ≠ 0) (e : Int) : p2 (e + m.log2) ≤ mv m e := by
  have h : 2 ^ m.log2 ≤ m := Nat.log2_self_le hm
  have := mv_le (e := e) h
  rw [show 2 ^ m.log2 = 1 * 2 ^ m.log2 by omega, mv_shift] at this
  simpa [mv] using this

theorem kept_binade (f : Format) (neg : Bool) (m : Nat) (e : Int) : keptOf f neg m e ≤ 2 * f.binade := by
  apply kept_le
  have h := mv_hi m e
  have h2 : p2 (e + m.log2 + 1) ≤ p2 (lastOf f m e + f.fractionBits + 1) := p2_le (by unfold lastOf; omega)
  have h3 : mv (2 * f.binade) (lastOf f m e) = p2 (lastOf f m e + f.fractionBits + 1) := by
    unfold Format.binade
    rw [show 2 * 2 ^ f.fractionBits = 1 * 2 ^ (f.fractionBits + 1) by rw [Nat.pow_succ]; omega, mv_shift]
    have e1 : lastOf f m e + ((f.fractionBits + 1 : Nat) : Int) = lastOf f m e + f.fractionBits + 1 := by omega
    rw [e1]
    simp [mv]
  rw [h3]
  exact Rat.le_trans (Rat.le_of_lt h) h2
theorem kept_normal (f : Format) (neg : Bool) {m : Nat} (hm : m ≠ 0) (e : Int) (hl : f.leastPlace < lastOf f m e) : f.binade ≤ keptOf f neg m e := by
  apply kept_ge
  have h := mv_lo hm e
  have h2 : mv f.binade (lastOf f m e) = p2 (e + m.log2) := by
    unfold Format.binade
    rw [show 2 ^ f.fractionBits = 1 * 2 ^ f.fractionBits by omega, mv_shift]
    have e1 : lastOf f m e + (f.fractionBits : Int) = e + m.log2 := by unfold lastOf at *; omega
    rw [e1]
    simp [mv]
  rw [h2]
  exact h

theorem two_binade (f : Format) (j : Int) : mv (2 * f.binade) j = p2 (j + 1 + f.fractionBits) := by
  unfold Format.binade
  rw [show 2 * 2 ^ f.fractionBits = 1 * 2 ^ (f.fractionBits + 1) by rw [Nat.pow_succ]; omega, mv_shift]
  have e2 : j + ((f.fractionBits + 1 : Nat) : Int) = j + 1 + f.fractionBits := by omega
  rw [e2]
  simp [mv]
theorem one_binade (f : Format) (j : Int) : mv f.binade j = p2 (j + f.fractionBits) := by
  unfold Format.binade
  rw [show 2 ^ f.fractionBits = 1 * 2 ^ f.fractionBits by omega, mv_shift]
  simp [mv]

/-- what is kept does not pass a number that the format has. -/
theorem keptv_le (f : Format) (neg : Bool) {m : Nat} (hm : m ≠ 0) (e : Int) (K : Nat) (j : Int) (hK : K < 2 * f.binade) (hj : f.leastPlace ≤ j) (h : mv m e ≤ mv K j) :
    mv (keptOf f neg m e) (lastOf f m e) ≤ mv K j := by
  by_cases hl : lastOf f m e ≤ j
  · obtain ⟨n, rfl⟩ : ∃ n : Nat, j = lastOf f m e + n := ⟨(j - lastOf f m e).toNat, by omega⟩
    rw [← mv_shift] at h ⊢
    exact mv_le (kept_le f neg m e _ h)
  · exfalso
    have h1 := mv_lo hm e
    have e1 : e + (m.log2 : Int) = lastOf f m e + f.fractionBits := by unfold lastOf at *; omega
    have h2 : p2 (j + 1 + f.fractionBits) ≤ p2 (e + m.log2) := p2_le (by omega)
    have h3 : mv K j < mv (2 * f.binade) j := mv_lt hK
    rw [two_binade] at h3
    grind
theorem keptv_ge (f : Format) (neg : Bool) {m : Nat} (hm : m ≠ 0) (e : Int) (K : Nat) (j : Int) (hK : K < 2 * f.binade) (hj : f.leastPlace ≤ j) (h : mv K j ≤ mv m e) :
    mv K j ≤ mv (keptOf f neg m e) (lastOf f m e) := by
  by_cases hl : lastOf f m e ≤ j
  · obtain ⟨n, rfl⟩ : ∃ n : Nat, j = lastOf f m e + n := ⟨(j - lastOf f m e).toNat, by omega⟩
    rw [← mv_shift] at h ⊢
    exact mv_le (kept_ge f neg m e _ h)
  · have h1 := kept_normal f neg hm e (by omega)
    have h2 := mv_le (e := lastOf f m e) h1
    rw [one_binade] at h2
    have h3 : mv K j < mv (2 * f.binade) j := mv_lt hK
    rw [two_binade] at h3
    have h4 : p2 (j + 1 + f.fractionBits) ≤ p2 (lastOf f m e + f.fractionBits) := p2_le (by omega)
    grind

/-- the rung that is written. -/
def rungOf (f : Format) (neg : Bool) (m : Nat) (e : Int) : Nat := (lastOf f m e - f.leastPlace).toNat * f.binade + keptOf f neg m e
theorem nearest_eq (f : Format) (neg : Bool) {m : Nat} (hm : m ≠ 0) (e : Int) : f.nearest neg m e = f.word neg (min (rungOf f neg m e) f.infRung) := by
  unfold Format.nearest rungOf keptOf lastOf
  rw [if_neg hm]

theorem binade_pos (f : Format) : 0 < f.binade := Nat.two_pow_pos _
theorem inf_lt_sign (f : Format) : f.infRung < f.signWeight := by
  have h : 0 < 2 ^ f.exponentBits := Nat.two_pow_pos _
  have hb := binade_pos f
  unfold Format.infRung Format.signWeight
  rw [Nat.pow_add]
  exact Nat.mul_lt_mul_of_pos_right (by omega) hb

theorem read_word (f : Format) (neg : Bool) (rung : Nat) (h : rung < f.infRung) :
    f.read (f.word neg rung) = if rung < f.binade then .number neg rung f.leastPlace else .number neg (f.binade + rung % f.binade) (f.leastPlace + (rung / f.binade - 1 : Nat)) := by
  have hs := inf_lt_sign f
  have e1 : f.word neg rung % f.signWeight = rung := by
    unfold Format.word
    cases neg
    · simp only [Bool.false_eq_true, if_false]
      exact Nat.mod_eq_of_lt (by omega)
    · simp only [if_true]
      rw [Nat.add_mod_left]
      exact Nat.mod_eq_of_lt (by omega)
  have e2 : (f.word neg rung / f.signWeight % 2 == 1) = neg := by
    unfold Format.word
    cases neg
    · simp only [Bool.false_eq_true, if_false]
      rw [Nat.div_eq_of_lt (show rung < f.signWeight by omega)]
      rfl
    · simp
      rw [Nat.add_div_left _ (by omega), Nat.div_eq_of_lt (by omega)]
  unfold Format.read
  simp only [e1, e2]
  rw [if_pos h]
theorem read_inf (f : Format) (neg : Bool) (hE : 2 ≤ 2 ^ f.exponentBits) : f.read (f.word neg f.infRung) = .infinity neg := by
  have hs := inf_lt_sign f
  have hb : f.binade ≤ f.infRung := by
    unfold Format.infRung
    exact Nat.le_mul_of_pos_left _ (by omega)
  have e1 : f.word neg f.infRung % f.signWeight = f.infRung := by
    unfold Format.word
    cases neg
    · simp only [Bool.false_eq_true, if_false]
      exact Nat.mod_eq_of_lt (by omega)
    · simp only [if_true]
      rw [Nat.add_mod_left]
      exact Nat.mod_eq_of_lt (by omega)
  have e2 : (f.word neg f.infRung / f.signWeight % 2 == 1) = neg := by
    unfold Format.word
    cases neg
    · simp only [Bool.false_eq_true, if_false]
      rw [Nat.div_eq_of_lt (show f.infRung < f.signWeight by omega)]
      rfl
    · simp
      rw [Nat.add_div_left _ (by omega), Nat.div_eq_of_lt (by omega)]
  unfold Format.read
  simp only [e1, e2]
  rw [if_neg (by omega), if_neg (by omega), if_pos trivial]

/-- THE ROUNDED NUMBER, READ BACK: below infinity its value is what was kept. -/
theorem read_nearest (f : Format) (neg : Bool) {m : Nat} (hm : m ≠ 0) (e : Int) (h : rungOf f neg m e < f.infRung) :
    ∃ m' e', f.read (f.nearest neg m e) = .number neg m' e' ∧ mv m' e' = mv (keptOf f neg m e) (lastOf f m e) := by
  rw [nearest_eq f neg hm e, Nat.min_eq_left (Nat.le_of_lt h), read_word f neg _ h]
  have hb := binade_pos f
  have hk := kept_binade f neg m e
  have hn : f.leastPlace < lastOf f m e → f.binade ≤ keptOf f neg m e := kept_normal f neg hm e
  have hl : f.leastPlace ≤ lastOf f m e := by unfold lastOf; omega
  unfold rungOf at *
  generalize keptOf f neg m e = k at *
  generalize lastOf f m e = l at *
  obtain ⟨j, rfl⟩ : ∃ j : Nat, l = f.leastPlace + j := ⟨(l - f.leastPlace).toNat, by omega⟩
  have e1 : (f.leastPlace + (j : Int) - f.leastPlace).toNat = j := by omega
  rw [e1] at *
  split
  · rename_i hlt
    have hj0 : j = 0 := by
      rcases Nat.eq_zero_or_pos j with h0 | h0
      · exact h0
      · exfalso
        have := hn (by omega)
        have : 1 * f.binade ≤ j * f.binade := Nat.mul_le_mul_right _ h0
        omega
    subst hj0
    refine ⟨_, _, rfl, ?_⟩
    simp
  · rename_i hge
    refine ⟨_, _, rfl, ?_⟩
    by_cases h2 : k = 2 * f.binade
    · subst h2
      have e2 : (j * f.binade + 2 * f.binade) = (j + 2) * f.binade := by rw [Nat.add_mul]
      rw [e2, Nat.mul_mod_left, Nat.mul_div_cancel _ hb, Nat.add_zero]
      have e3 : f.leastPlace + ((j + 2 - 1 : Nat) : Int) = (f.leastPlace + (j : Int)) + (1 : Nat) := by omega
      rw [e3, ← mv_shift]
      congr 1
      omega
    · have hkb : f.binade ≤ k := by
        rcases Nat.eq_zero_or_pos j with h0 | h0
        · subst h0; omega
        · exact hn (by omega)
      have e2 : j * f.binade + k = (k - f.binade) + (j + 1) * f.binade := by rw [Nat.add_mul]; omega
      rw [e2, Nat.add_mul_mod_self_right, Nat.mod_eq_of_lt (by omega), Nat.add_mul_div_right _ _ hb, Nat.div_eq_of_lt (by omega)]
      have e3 : f.leastPlace + ((0 + (j + 1) - 1 : Nat) : Int) = f.leastPlace + (j : Int) := by omega
      rw [e3]
      congr 1
      omega

/-- a rung at infinity or beyond tells of a great number. -/
theorem rung_big (f : Format) (neg : Bool) {m : Nat} (hm : m ≠ 0) (e : Int) (E : Nat) (hE : f.infRung = (E + 1) * f.binade) (h : f.infRung ≤ rungOf f neg m e) :
    p2 (f.leastPlace + E + f.fractionBits) ≤ mv (keptOf f neg m e) (lastOf f m e) := by
  have hb := binade_pos f
  have hk := kept_binade f neg m e
  have hn : f.leastPlace < lastOf f m e → f.binade ≤ keptOf f neg m e := kept_normal f neg hm e
  have hl : f.leastPlace ≤ lastOf f m e := by unfold lastOf; omega
  unfold rungOf at h
  generalize keptOf f neg m e = k at *
  generalize lastOf f m e = l at *
  obtain ⟨j, rfl⟩ : ∃ j : Nat, l = f.leastPlace + j := ⟨(l - f.leastPlace).toNat, by omega⟩
  have e1 : (f.leastPlace + (j : Int) - f.leastPlace).toNat = j := by omega
  rw [e1, hE] at h
  by_cases h2 : k = 2 * f.binade
  · subst h2
    rw [two_binade]
    apply p2_le
    have : (E + 1) * f.binade ≤ (j + 2) * f.binade := by rw [Nat.add_mul j]; exact h
    have := Nat.le_of_mul_le_mul_right this hb
    omega
  · have h3 : E ≤ j := by
      have : (E + 1) * f.binade < (j + 2) * f.binade := by rw [Nat.add_mul j]; omega
      have := Nat.lt_of_mul_lt_mul_right this
      omega
    by_cases hj0 : j = 0
    · have hE0 : E = 0 := by omega
      subst hj0; subst hE0
      have : f.binade ≤ k := by omega
      have h4 := mv_le (e := f.leastPlace + (0 : Nat)) this
      rw [one_binade] at h4
      exact h4
    · have h4 := mv_le (e := f.leastPlace + (j : Int)) (hn (by omega))
      rw [one_binade] at h4
      exact Rat.le_trans (p2_le (by omega)) h4

end Go.Proofs.Ytlolmopfeglifaa
