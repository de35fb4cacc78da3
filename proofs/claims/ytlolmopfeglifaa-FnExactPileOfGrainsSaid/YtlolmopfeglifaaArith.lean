/-
  What + - * / and the square root do to finite numbers: the exact value, rounded once.
-/
import Derived.Test.YtlolmopfeglifaaVal
namespace Go.Proofs.Ytlolmopfeglifaa
open Go Ieee

theorem sv_mul (s t : Bool) (a b : Rat) : sgv s a * sgv t b = sgv (s ^^ t) (a * b) := by
  unfold sgv
  cases s <;> cases t <;> simp <;> grind
theorem mv_mul (m n : Nat) (i j : Int) : mv m i * mv n j = mv (m * n) (i + j) := by
  unfold mv
  rw [p2_add, Rat.natCast_mul]
  grind
theorem sv_le {s : Bool} {v M : Rat} (_ : 0 ≤ v) (h1 : -M ≤ sgv s v) (h2 : sgv s v ≤ M) : v ≤ M := by
  unfold sgv at h1 h2
  cases s
  · simpa using h2
  · simp only [if_true] at h1 h2
    grind

theorem mul_rnd {k : FloatKind} {x y : Nat} (hx : fin k x = true) (hy : fin k y = true) (M : Rat) (hM : Rep k M) (h1 : -M ≤ val k x * val k y) (h2 : val k x * val k y ≤ M) (hbig : M < top k) :
    ∃ r, floatBits .mul k x y = some r ∧ Rnd k (val k x * val k y) r := by
  obtain ⟨s, m, i, hdx, hvx, _⟩ := fin_form hx
  obtain ⟨t, n, j, hdy, hvy, _⟩ := fin_form hy
  have hdx' : k.format.read x = .number s m i := hdx
  have hdy' : k.format.read y = .number t n j := hdy
  have e1 : floatBits .mul k x y = some (k.encode (.number (s ^^ t) (m * n) (i + j))) := by
    simp only [floatBits, Format.mul, hdx', hdy', Datum.product, Option.map_some]
    rfl
  rw [hvx, hvy, sv_mul, mv_mul] at h1 h2
  refine ⟨_, e1, ?_⟩
  rw [hvx, hvy, sv_mul, mv_mul]
  exact encode_rnd k _ _ _ M hM (sv_le (mv_nonneg _ _) h1 h2) hbig

theorem sv_nat (z : Bool) (total : Int) (b : Int) : sgv (if total = 0 then z else decide (total < 0)) (mv total.natAbs b) = (total : Rat) * p2 b := by
  unfold sgv mv
  by_cases h0 : total = 0
  · subst h0
    cases z <;> simp <;> grind
  · rw [if_neg h0]
    by_cases hn : total < 0
    · have e : total = -((total.natAbs : Nat) : Int) := by omega
      simp only [hn, decide_true, if_true]
      rw [show (total : Rat) = ((-((total.natAbs : Nat) : Int) : Int) : Rat) by rw [← e], Rat.intCast_neg, Rat.intCast_natCast]
      grind
    · have e : total = ((total.natAbs : Nat) : Int) := by omega
      simp only [hn, decide_false, Bool.false_eq_true, if_false]
      rw [show (total : Rat) = ((((total.natAbs : Nat) : Int) : Int) : Rat) by rw [← e], Rat.intCast_natCast]

theorem sum_rnd {k : FloatKind} {s t : Bool} {m n : Nat} {i j : Int} (M : Rat) (hM : Rep k M) (h1 : -M ≤ sgv s (mv m i) + sgv t (mv n j)) (h2 : sgv s (mv m i) + sgv t (mv n j) ≤ M) (hbig : M < top k) :
    ∃ d, Datum.sum (.number s m i) (.number t n j) = some d ∧ Rnd k (sgv s (mv m i) + sgv t (mv n j)) (k.encode d) := by
  refine ⟨_, rfl, ?_⟩
  generalize hb : min i j = b
  obtain ⟨p, rfl⟩ : ∃ p : Nat, i = b + p := ⟨(i - b).toNat, by omega⟩
  obtain ⟨q, rfl⟩ : ∃ q : Nat, j = b + q := ⟨(j - b).toNat, by omega⟩
  have e1 : (b + (p : Int) - b).toNat = p := by omega
  have e2 : (b + (q : Int) - b).toNat = q := by omega
  rw [e1, e2]
  have e3 : sgv s (mv m (b + p)) + sgv t (mv n (b + q)) = ((signed s m p + signed t n q : Int) : Rat) * p2 b := by
    rw [sv_signed, sv_signed, Rat.intCast_add]
    grind
  rw [e3] at h1 h2 ⊢
  generalize signed s m p + signed t n q = total at *
  rw [← sv_nat (s && t)] at h1 h2 ⊢
  exact encode_rnd k _ _ _ M hM (sv_le (mv_nonneg _ _) h1 h2) hbig

theorem add_rnd {k : FloatKind} {x y : Nat} (hx : fin k x = true) (hy : fin k y = true) (M : Rat) (hM : Rep k M) (h1 : -M ≤ val k x + val k y) (h2 : val k x + val k y ≤ M) (hbig : M < top k) :
    ∃ r, floatBits .add k x y = some r ∧ Rnd k (val k x + val k y) r := by
  obtain ⟨s, m, i, hdx, hvx, _⟩ := fin_form hx
  obtain ⟨t, n, j, hdy, hvy, _⟩ := fin_form hy
  have hdx' : k.format.read x = .number s m i := hdx
  have hdy' : k.format.read y = .number t n j := hdy
  rw [hvx, hvy] at h1 h2 ⊢
  obtain ⟨d, hd, hr⟩ := sum_rnd M hM h1 h2 hbig
  refine ⟨k.encode d, ?_, hr⟩
  simp only [floatBits, Format.add, hdx', hdy', hd, Option.map_some]
  rfl
theorem sub_rnd {k : FloatKind} {x y : Nat} (hx : fin k x = true) (hy : fin k y = true) (M : Rat) (hM : Rep k M) (h1 : -M ≤ val k x - val k y) (h2 : val k x - val k y ≤ M) (hbig : M < top k) :
    ∃ r, floatBits .sub k x y = some r ∧ Rnd k (val k x - val k y) r := by
  obtain ⟨s, m, i, hdx, hvx, _⟩ := fin_form hx
  obtain ⟨t, n, j, hdy, hvy, _⟩ := fin_form hy
  have hdx' : k.format.read x = .number s m i := hdx
  have hdy' : k.format.read y = .number t n j := hdy
  have e : sgv s (mv m i) - sgv t (mv n j) = sgv s (mv m i) + sgv (!t) (mv n j) := by rw [sv_neg]; grind
  rw [hvx, hvy, e] at h1 h2 ⊢
  obtain ⟨d, hd, hr⟩ := sum_rnd M hM h1 h2 hbig
  refine ⟨k.encode d, ?_, hr⟩
  simp only [floatBits, Format.sub, hdx', hdy', Datum.opposite, hd, Option.map_some]
  rfl

/-- rounding tells nothing of what stands between two numbers of the format. -/
theorem Rnd.of_mag {k : FloatKind} {s : Bool} {a d : Rat} {r : Nat} (h0 : 0 ≤ a) (h0' : 0 ≤ d) (hd : Rnd k (sgv s d) r)
    (h1 : ∀ K j, K < 2 * k.format.binade → k.format.leastPlace ≤ j → a ≤ mv K j → d ≤ mv K j) (h2 : ∀ K j, K < 2 * k.format.binade → k.format.leastPlace ≤ j → mv K j ≤ a → mv K j ≤ d) :
    Rnd k (sgv s a) r := by
  have hz : a = 0 → d = 0 := fun h => by
    have := h1 0 k.format.leastPlace (by have := binade_pos k.format; omega) (Int.le_refl _) (by rw [mv_zero]; grind)
    rw [mv_zero] at this
    grind
  refine ⟨hd.1, fun q hq hv => hd.2.1 q hq ?_, fun q hq hv => hd.2.2 q hq ?_⟩
  · obtain ⟨K, j, hK, hj, hq'⟩ := hq
    have hp := mv_nonneg K j
    have a1 := h1 K j hK hj
    have a2 := h2 K j hK hj
    unfold sgv at hv ⊢
    cases s
    · simp only [Bool.false_eq_true, if_false] at hv ⊢
      rcases hq' with rfl | rfl
      · exact a1 hv
      · have := hz (by grind)
        grind
    · simp only [if_true] at hv ⊢
      rcases hq' with rfl | rfl
      · grind
      · have := a2 (by grind)
        grind
  · obtain ⟨K, j, hK, hj, hq'⟩ := hq
    have hp := mv_nonneg K j
    have a1 := h1 K j hK hj
    have a2 := h2 K j hK hj
    unfold sgv at hv ⊢
    cases s
    · simp only [Bool.false_eq_true, if_false] at hv ⊢
      rcases hq' with rfl | rfl
      · exact a2 hv
      · grind
    · simp only [if_true] at hv ⊢
      rcases hq' with rfl | rfl
      · have := hz (by grind)
        grind
      · have := a1 (by grind)
        grind

theorem mv_two (m : Nat) (e : Int) : mv (2 * m) (e - 1) = mv m e := by
  have := mv_shift m 1 (e - 1)
  rw [show e - 1 + ((1 : Nat) : Int) = e by omega] at this
  rw [← this]
  congr 1
  omega

/-- a digit that only tells whether anything is left over. -/
theorem sticky (k : FloatKind) (a : Rat) (fl st : Nat) (e : Int) (hfl : k.format.binade ≤ fl) (h1 : mv fl e ≤ a) (h2 : a < mv (fl + 1) e) (hst : (st = 0 ∧ a = mv fl e) ∨ (st = 1 ∧ mv fl e < a)) (K : Nat) (j : Int) (hK : K < 2 * k.format.binade) :
    (a ≤ mv K j → mv (2 * fl + st) (e - 1) ≤ mv K j) ∧ (mv K j ≤ a → mv K j ≤ mv (2 * fl + st) (e - 1)) := by
  have hlo : mv fl e ≤ mv (2 * fl + st) (e - 1) := by rw [← mv_two]; exact mv_le (by omega)
  by_cases hj : e ≤ j
  · obtain ⟨n, rfl⟩ : ∃ n : Nat, j = e + n := ⟨(j - e).toNat, by omega⟩
    rw [← mv_shift]
    generalize K * 2 ^ n = Q
    constructor
    · intro h
      rcases hst with ⟨rfl, h3⟩ | ⟨rfl, h3⟩
      · rw [Nat.add_zero, mv_two, ← h3]; exact h
      · have : mv fl e < mv Q e := by grind
        have := lt_of_mv this
        rw [← mv_two Q]
        exact mv_le (by omega)
    · intro h
      have : mv Q e < mv (fl + 1) e := by grind
      have := lt_of_mv this
      rw [← mv_two Q]
      exact mv_le (by omega)
  · have h3 : mv K j < mv (2 * k.format.binade) j := mv_lt hK
    rw [two_binade] at h3
    have h4 : p2 (j + 1 + k.format.fractionBits) ≤ p2 (e + k.format.fractionBits) := p2_le (by omega)
    have h5 := mv_le (e := e) hfl
    rw [one_binade] at h5
    constructor
    · intro h
      exfalso
      grind
    · intro _
      grind

theorem mv_pos {n : Nat} (hn : n ≠ 0) (e : Int) : 0 < mv n e := by
  have := mv_lt (e := e) (Nat.pos_of_ne_zero hn)
  rwa [mv_zero] at this

theorem div_rnd {k : FloatKind} {x y : Nat} (hx : fin k x = true) (hy : fin k y = true) (hy0 : val k y ≠ 0) (M : Rat) (hM : Rep k M) (h1 : -M ≤ val k x / val k y) (h2 : val k x / val k y ≤ M) (hbig : M < top k) :
    ∃ r, floatBits .quo k x y = some r ∧ Rnd k (val k x / val k y) r := by
  obtain ⟨s, m, i, hdx, hvx, _⟩ := fin_form hx
  obtain ⟨t, n, j, hdy, hvy, _⟩ := fin_form hy
  have hdx' : k.format.read x = .number s m i := hdx
  have hdy' : k.format.read y = .number t n j := hdy
  have hn0 : n ≠ 0 := by
    rintro rfl
    apply hy0
    rw [hvy, mv_zero]
    cases t <;> rfl
  have hny := mv_pos hn0 j
  have hdiv : val k x / val k y = sgv (s ^^ t) (mv m i / mv n j) := by
    rw [hvx, hvy]
    unfold sgv
    cases s <;> cases t <;> simp [Rat.div_def] <;> grind
  generalize hmore : k.format.fractionBits + 2 + n.log2 - m.log2 = more
  have e1 : floatBits .quo k x y = some (k.encode (.number (s ^^ t) (2 * (m <<< more / n) + (m <<< more % n != 0).toNat) (i - j - more - 1))) := by
    simp only [floatBits, Format.div, hdx', hdy', Datum.quotient, if_neg hn0, hmore, Option.map_some]
    rfl
  refine ⟨_, e1, ?_⟩
  rw [hdiv] at h1 h2 ⊢
  rw [Nat.shiftLeft_eq]
  have ha0 : 0 ≤ mv m i / mv n j := by
    rw [Rat.div_def]
    exact Rat.mul_nonneg (mv_nonneg _ _) (Rat.le_of_lt (Rat.inv_pos.2 hny))
  have haM := sv_le ha0 h1 h2
  by_cases hm : m = 0
  · subst hm
    have e2 : (0 * 2 ^ more / n) = 0 := by simp
    have e3 : (0 * 2 ^ more % n != 0).toNat = 0 := by simp
    rw [e2, e3]
    have e4 : mv 0 i / mv n j = mv (2 * 0 + 0) (i - j - more - 1) := by rw [mv_zero, mv_zero, Rat.div_def]; grind
    rw [e4] at haM ⊢
    exact encode_rnd k _ _ _ M hM haM hbig
  · -- the quotient and what is left over
    generalize hfl : m * 2 ^ more / n = fl
    have hdm := Nat.div_add_mod (m * 2 ^ more) n
    have hmod := Nat.mod_lt (m * 2 ^ more) (Nat.pos_of_ne_zero hn0)
    rw [hfl] at hdm
    have hx1 : mv m i = mv (m * 2 ^ more) (i - more) := by rw [mv_shift]; congr 1; omega
    have hmul : ∀ q : Nat, mv q (i - j - more) * mv n j = mv (n * q) (i - more) := fun q => by
      rw [mv_mul]
      rw [Nat.mul_comm]
      congr 1
      omega
    have hle : ∀ q : Nat, mv q (i - j - more) ≤ mv m i / mv n j ↔ n * q ≤ m * 2 ^ more := fun q => by
      constructor
      · intro h
        have := Rat.mul_le_mul_of_nonneg_right h (Rat.le_of_lt hny)
        rw [Rat.div_mul_cancel (by grind), hmul, hx1] at this
        exact le_of_mv this
      · intro h
        apply Rat.le_of_mul_le_mul_right _ hny
        rw [Rat.div_mul_cancel (by grind), hmul, hx1]
        exact mv_le h
    have hlt : ∀ q : Nat, mv m i / mv n j < mv q (i - j - more) ↔ m * 2 ^ more < n * q := fun q => by
      rw [← Rat.not_le, hle]
      omega
    have b1 : mv fl (i - j - more) ≤ mv m i / mv n j := (hle fl).2 (by omega)
    have b2 : mv m i / mv n j < mv (fl + 1) (i - j - more) := (hlt (fl + 1)).2 (by rw [Nat.mul_add]; omega)
    have hbin : k.format.binade ≤ fl := by
      rw [← hfl]
      apply (Nat.le_div_iff_mul_le (Nat.pos_of_ne_zero hn0)).2
      have c1 : n < 2 ^ (n.log2 + 1) := Nat.lt_log2_self
      have c2 : 2 ^ m.log2 ≤ m := Nat.log2_self_le hm
      have c3 : 2 ^ k.format.fractionBits * 2 ^ (n.log2 + 1) ≤ 2 ^ m.log2 * 2 ^ more := by
        rw [← Nat.pow_add, ← Nat.pow_add]
        exact Nat.pow_le_pow_right (by decide) (by omega)
      have c4 : 2 ^ m.log2 * 2 ^ more ≤ m * 2 ^ more := Nat.mul_le_mul_right _ c2
      have c5 : k.format.binade * n ≤ k.format.binade * 2 ^ (n.log2 + 1) := Nat.mul_le_mul_left _ (by omega)
      unfold Format.binade at *
      omega
    have hst : ((m * 2 ^ more % n != 0).toNat = 0 ∧ mv m i / mv n j = mv fl (i - j - more)) ∨ ((m * 2 ^ more % n != 0).toNat = 1 ∧ mv fl (i - j - more) < mv m i / mv n j) := by
      by_cases hz : m * 2 ^ more % n = 0
      · left
        refine ⟨by simp [hz], Rat.le_antisymm ?_ b1⟩
        have : ¬ mv fl (i - j - more) < mv m i / mv n j := by
          intro h
          have h' : mv (n * fl) (i - more) < mv (m * 2 ^ more) (i - more) := by
            rw [← hmul, ← hx1]
            have := Rat.mul_lt_mul_of_pos_right h hny
            rwa [Rat.div_mul_cancel (by grind)] at this
          have := lt_of_mv h'
          omega
        exact Rat.not_lt.1 this
      · right
        refine ⟨by simp [hz], ?_⟩
        have h' : mv (n * fl) (i - more) < mv (m * 2 ^ more) (i - more) := mv_lt (by omega)
        rw [← hmul, ← hx1] at h'
        apply Rat.lt_of_mul_lt_mul_right (c := mv n j) _ (Rat.le_of_lt hny)
        rwa [Rat.div_mul_cancel (by grind)]
    have key := fun K j' hK => sticky k (mv m i / mv n j) fl _ (i - j - more) hbin b1 b2 hst K j' hK
    refine Rnd.of_mag ha0 (mv_nonneg _ _) (encode_rnd k _ _ _ M hM ?_ hbig) (fun K j' hK _ h => (key K j' hK).1 h) (fun K j' hK _ h => (key K j' hK).2 h)
    obtain ⟨K, j', hK, hj', hq⟩ := hM
    rcases hq with rfl | rfl
    · exact (key K j' hK).1 haM
    · have hp := mv_nonneg K j'
      have hz : mv m i / mv n j ≤ mv 0 j' := by rw [mv_zero]; grind
      have := (key 0 j' (by have := binade_pos k.format; omega)).1 hz
      rw [mv_zero] at this
      grind

-- the square root
theorem rootFrom_spec (n : Nat) : ∀ (todo root : Nat), root * root ≤ n → n < (root + 2 ^ todo) * (root + 2 ^ todo) →
    Datum.rootFrom n todo root * Datum.rootFrom n todo root ≤ n ∧ n < (Datum.rootFrom n todo root + 1) * (Datum.rootFrom n todo root + 1)
  | 0, root, h1, h2 => ⟨h1, by simpa [Datum.rootFrom] using h2⟩
  | todo + 1, root, h1, h2 => by
    unfold Datum.rootFrom
    simp only [Nat.shiftLeft_eq, Nat.one_mul]
    have e : 2 ^ (todo + 1) = 2 ^ todo + 2 ^ todo := by rw [Nat.pow_succ]; omega
    split
    · rename_i h
      exact rootFrom_spec n todo _ h (by rw [Nat.add_assoc, ← e]; exact h2)
    · rename_i h
      exact rootFrom_spec n todo _ h1 (by omega)
theorem root_of (n : Nat) : ∃ r, Datum.rootFrom n (n.log2 / 2 + 1) 0 = r ∧ r * r ≤ n ∧ n < (r + 1) * (r + 1) := by
  refine ⟨_, rfl, ?_⟩
  apply rootFrom_spec
  · simp
  · rw [Nat.zero_add, ← Nat.pow_add]
    have h : n < 2 ^ (n.log2 + 1) := Nat.lt_log2_self
    exact Nat.lt_of_lt_of_le h (Nat.pow_le_pow_right (by decide) (by omega))

/-- the root of a number that is not negative: it is finite, not negative, and not above two to the power of b if the number is not above two to the power of 2 b. -/
theorem sqrt_rnd {x : Nat} (hx : fin .f64 x = true) (h0 : 0 ≤ val .f64 x) (b : Int) (hb1 : -1074 ≤ b) (hb2 : b < 1024) (h : val .f64 x ≤ p2 (2 * b)) :
    ∃ r, FloatKind.f64.format.sqrt x = some r ∧ fin .f64 r = true ∧ 0 ≤ val .f64 r ∧ val .f64 r ≤ p2 b := by
  obtain ⟨s, m, i, hdx, hvx, _⟩ := fin_form hx
  have hdx' : FloatKind.f64.format.read x = .number s m i := hdx
  have hL : FloatKind.f64.format.leastPlace = -1074 := rfl
  by_cases hm : m = 0
  · subst hm
    have e1 : FloatKind.f64.format.sqrt x = some (FloatKind.f64.encode (.number s 0 i)) := by
      simp only [Format.sqrt, hdx', Datum.root, if_true, Option.map_some]
      rfl
    have hd := encode_zero .f64 s i
    refine ⟨_, e1, fin_of hd, ?_, ?_⟩ <;> rw [val_of hd, mv_zero]
    · cases s <;> simp [sgv]
    · have := p2_pos b
      cases s <;> simp [sgv] <;> grind
  · have hs : s = false := by
      cases s
      · rfl
      · exfalso
        rw [hvx] at h0
        have := mv_pos hm i
        simp only [sgv, if_true] at h0
        grind
    subst hs
    have hvm : val .f64 x = mv m i := hvx
    generalize hmore : 2 * (FloatKind.f64.format.fractionBits + 2) - m.log2 = more0
    generalize hmore2 : more0 + ((i - (more0 : Int)) % 2).toNat = more
    have heven : (i - (more : Int)) % 2 = 0 := by omega
    obtain ⟨c, hc⟩ : ∃ c, i - (more : Int) = 2 * c := ⟨(i - more) / 2, by omega⟩
    obtain ⟨r, hr, hr1, hr2⟩ := root_of (m <<< more)
    have e1 : FloatKind.f64.format.sqrt x = some (FloatKind.f64.encode (.number false (2 * r + (r * r != m <<< more).toNat) (c - 1))) := by
      simp only [Format.sqrt, hdx', Datum.root, if_neg hm, hmore, hmore2, hr, Bool.false_eq_true, if_false, Option.map_some]
      rw [hc, Int.mul_ediv_cancel_left _ (by decide)]
      rfl
    rw [Nat.shiftLeft_eq] at hr1 hr2 e1
    have hx1 : mv m i = mv (m * 2 ^ more) (2 * c) := by rw [mv_shift]; congr 1; omega
    have hmpos : 0 < m * 2 ^ more := Nat.mul_pos (Nat.pos_of_ne_zero hm) (Nat.two_pow_pos _)
    -- the bound
    have hbc : c ≤ b := by
      apply Int.not_lt.1
      intro hlt
      have h1 : mv 1 (2 * c) ≤ mv (m * 2 ^ more) (2 * c) := mv_le hmpos
      have h2 : p2 (2 * b) < p2 (2 * c) := by
        have h3 : p2 (2 * b + 1) ≤ p2 (2 * c) := p2_le (by omega)
        have h4 : p2 (2 * b + 1) = p2 (2 * b) * 2 := by rw [p2_add, p2_one]
        have h5 := p2_pos (2 * b)
        grind
      have h6 : mv 1 (2 * c) = p2 (2 * c) := by simp [mv]
      rw [hvm, hx1] at h
      grind
    obtain ⟨q, rfl⟩ : ∃ q : Nat, b = c + q := ⟨(b - c).toNat, by omega⟩
    have hle : m * 2 ^ more ≤ 2 ^ q * 2 ^ q := by
      rw [hvm, hx1] at h
      apply le_of_mv (e := 2 * c)
      refine Rat.le_trans h ?_
      rw [← Nat.pow_add, show 2 ^ (q + q) = 1 * 2 ^ (q + q) by omega, mv_shift]
      have e2 : 2 * c + ((q + q : Nat) : Int) = 2 * (c + q) := by omega
      rw [e2]
      simp [mv]
    have hrq : 2 * r + (r * r != m * 2 ^ more).toNat ≤ 2 * 2 ^ q := by
      have hrle : r ≤ 2 ^ q := by
        apply Nat.le_of_not_lt
        intro hlt
        have : 2 ^ q * 2 ^ q < r * r := Nat.mul_self_lt_mul_self hlt
        omega
      by_cases hreq : r = 2 ^ q
      · have : r * r = m * 2 ^ more := by subst hreq; omega
        simp [this]
        omega
      · have : (r * r != m * 2 ^ more).toNat ≤ 1 := Bool.toNat_le _
        omega
    have hM : mv (2 * r + (r * r != m * 2 ^ more).toNat) (c - 1) ≤ p2 (c + q) := by
      refine Rat.le_trans (mv_le hrq) ?_
      rw [mv_two, show 2 ^ q = 1 * 2 ^ q by omega, mv_shift]
      simp [mv]
    have hrn := encode_rnd .f64 false _ (c - 1) (p2 (c + q)) (rep_p2 .f64 _ (by rw [hL]; exact hb1)) hM (by
      rw [top64]
      have h3 : p2 (c + q + 1) ≤ p2 1024 := p2_le (by omega)
      have h4 : p2 (c + q + 1) = p2 (c + q) * 2 := by rw [p2_add, p2_one]
      have h5 := p2_pos (c + q)
      grind)
    refine ⟨_, e1, hrn.1, ?_, ?_⟩
    · exact hrn.2.2 0 (rep_zero _) (mv_nonneg _ _)
    · exact hrn.2.1 _ (rep_p2 .f64 _ (by rw [hL]; exact hb1)) hM
end Go.Proofs.Ytlolmopfeglifaa
