/-
  The law of AngleTurns, joined.
-/
import Derived.Test.YtdlaafeagcbpaaaAngW
namespace Go.Proofs.Ytdlaafeagcbpaaa
open Go Go.RowKit Ieee

-- not a number
theorem spec_AngleWide_nan1 {y x : Nat} (hy : fin .f64 y = false) (w : World) : Calls Try.prog 50 #[.float .f64 y, .float .f64 x] w (GivesF .f64 w (qn .f64)) := by
  have h := self_nan hy
  have hn := Nan64
  clear hy
  go_enter Try.func50, Try.ntmps50
  go_wp2_with (go_at_call 28; refine (nan_any _).mono ?_; rintro e w' ⟨rfl, rfl⟩)
  go_ret
  exact ⟨_, _, rfl, rfl, FEq.of_nan hn (nan_qn _)⟩
theorem spec_AngleWide_nan2 {y x : Nat} (hy : fin .f64 y = true) (hx : fin .f64 x = false) (w : World) : Calls Try.prog 50 #[.float .f64 y, .float .f64 x] w (GivesF .f64 w (qn .f64)) := by
  obtain ⟨d1, hd1, e1⟩ := self_sub hy
  obtain ⟨s1, s2, _⟩ := ar_some hd1
  have h := self_nan hx
  have hn := Nan64
  clear hy hx hd1
  go_enter Try.func50, Try.ntmps50
  go_wp2_with (go_at_call 28; refine (nan_any _).mono ?_; rintro e w' ⟨rfl, rfl⟩)
  go_ret
  exact ⟨_, _, rfl, rfl, FEq.of_nan hn (nan_qn _)⟩
theorem spec_AngleWide_zero {y x : Nat} (hy : fin .f64 y = true) (hx : fin .f64 x = true) (h1 : (FloatKind.f64.format.order x 0 == some .eq) = true) (h2 : (FloatKind.f64.format.order y 0 == some .eq) = true) (w : World) :
    Calls Try.prog 50 #[.float .f64 y, .float .f64 x] w (GivesF .f64 w 0) := by
  obtain ⟨d1, hd1, e1⟩ := self_sub hy
  obtain ⟨s1, s2, _⟩ := ar_some hd1
  obtain ⟨d2, hd2, e2⟩ := self_sub hx
  obtain ⟨s3, s4, _⟩ := ar_some hd2
  clear hy hx hd1 hd2
  go_enter Try.func50, Try.ntmps50
  go_wp2
  go_ret
  exact ⟨_, 0, rfl, rfl, FEq.refl _ _⟩
theorem impl_Angle_nan {y x : Nat} (h : (fin .f32 x && fin .f32 y) = false) (w : World) : Calls Try.prog 17 #[.float .f32 y, .float .f32 x] w (GivesG .f32 w (qn .f32)) := by
  have hare := fun t w => areFinite_two0 x y t w
  rw [h] at hare
  have HR := Lib.hid hare
  have hn := Nan64
  clear hare h
  go_enter Try.func17, Try.ntmps17
  go_wp2_with (first | (go_at_call 37; refine (HR.out _ _).mono ?_; rintro e w' ⟨rfl, n0, rfl⟩) | (go_at_call 28; refine (nan_any _).mono ?_; rintro e w' ⟨rfl, rfl⟩))
  go_ret
  exact ⟨_, rfl, grown_new _ _ _ _ _, (narV_same _ (FEq.of_nan hn (nan_qn _)) ovf_qn).trans (Or.inl nar_qn)⟩
theorem impl_Angle_zero {y x : Nat} (hx : fin .f32 x = true) (hy : fin .f32 y = true) (h1 : (FloatKind.f32.format.order x 0 == some .eq) = true) (h2 : (FloatKind.f32.format.order y 0 == some .eq) = true) (w : World) :
    Calls Try.prog 17 #[.float .f32 y, .float .f32 x] w (GivesG .f32 w 0) := by
  have hare := fun t w => areFinite_two0 x y t w
  rw [hx, hy] at hare
  have HR := Lib.hid hare
  clear hare hx hy
  go_enter Try.func17, Try.ntmps17
  go_wp2_with (go_at_call 37; refine (HR.out _ _).mono ?_; rintro e w' ⟨rfl, n0, rfl⟩)
  go_ret
  exact ⟨_, rfl, grown_new _ _ _ _ _, FEq.refl _ _⟩

theorem val32_0 : fin .f32 0 = true ∧ val .f32 0 = 0 := by
  have h0 : fin .f32 0 = true := by decide
  have : FloatKind.f32.decode 0 = .number false 0 (-149) := by decide
  exact ⟨h0, by rw [val_of this, mv_zero]; rfl⟩
theorem eq32 {x : Nat} (hx : fin .f32 x = true) : (FloatKind.f32.format.order x 0 == some .eq) = decide (val .f32 x = 0) := by
  obtain ⟨h0, hv0⟩ := val32_0
  rw [order_num hx h0, hv0]
  by_cases h : val .f32 x < 0
  · have : val .f32 x ≠ 0 := by grind
    simp [h, this]
  · by_cases h2 : val .f32 x = 0
    · simp [h2]
    · simp [h, h2]
theorem lt32 {x : Nat} (hx : fin .f32 x = true) : (FloatKind.f32.format.order x 0 == some .lt) = decide (val .f32 x < 0) := by
  obtain ⟨h0, hv0⟩ := val32_0
  rw [order_num hx h0, hv0]
  by_cases h : val .f32 x < 0
  · simp [h]
  · by_cases h2 : val .f32 x = 0
    · simp [h2]
    · simp [h, h2]
theorem eq_wide {x : Nat} (hx : fin .f32 x = true) : (FloatKind.f64.format.order (wid x) 0 == some .eq) = (FloatKind.f32.format.order x 0 == some .eq) := by
  obtain ⟨w1, w2⟩ := wid_num hx
  rw [eq32 hx, eql_fin w1 fin_c0, val_c0, w2]
theorem lt_wide {x : Nat} (hx : fin .f32 x = true) : (FloatKind.f64.format.order (wid x) 0 == some .lt) = (FloatKind.f32.format.order x 0 == some .lt) := by
  obtain ⟨w1, w2⟩ := wid_num hx
  rw [lt32 hx, lss_num w1 fin_c0, val_c0, w2]
theorem abs_pos {x : Nat} (hx : fin .f32 x = true) : fin .f64 (abs64 (wid x)) = true ∧ 0 ≤ val .f64 (abs64 (wid x)) ∧ abs64 (wid x) < 9223372036854775808 ∧ ((FloatKind.f32.format.order x 0 == some .eq) = false → 0 < val .f64 (abs64 (wid x))) := by
  obtain ⟨w1, w2⟩ := wid_num hx
  obtain ⟨s, m, e, hd, hv, _⟩ := fin_form w1
  obtain ⟨a1, a2⟩ := val_abs (wid_lt x) hd
  refine ⟨a1, by rw [a2]; exact mv_nonneg _ _, by rw [abs64_eq _ (wid_lt x)]; exact Nat.mod_lt _ (by decide), ?_⟩
  intro h
  rw [eq32 hx, ← w2, hv] at h
  rw [a2]
  have hm := mv_nonneg m e
  have hne : sv s (mv m e) ≠ 0 := by simpa using h
  have : mv m e ≠ 0 := by
    intro h0
    apply hne
    rw [h0]
    cases s <;> rfl
  grind
theorem quo_unit {m x : Nat} (hm : fin .f64 m = true) (hx : fin .f64 x = true) (h0 : 0 ≤ val .f64 m) (h1 : val .f64 m ≤ val .f64 x) (hp : 0 < val .f64 x) : ∃ t, floatBits .quo .f64 m x = some t ∧ fin .f64 t = true ∧ 0 ≤ val .f64 t ∧ val .f64 t ≤ 1 := by
  have hdv := div_abs (x := val .f64 m) (c := val .f64 x) (M := 1) hp (by grind) (by grind)
  obtain ⟨t, ht, hRt, _, t2⟩ := div_b hm hx (by grind) 0 (by decide) (by decide) (by rw [p2_zero]; exact hdv.1) (by rw [p2_zero]; exact hdv.2)
  rw [p2_zero] at t2
  have hq0 : 0 ≤ val .f64 m / val .f64 x := by
    rw [Rat.div_def]
    exact Rat.mul_nonneg h0 (Rat.le_of_lt (Rat.inv_pos.2 hp))
  exact ⟨t, ht, hRt.1, hRt.2.2 0 (rep_zero _) hq0, t2⟩

/-- the reference's answer about one point. -/
def SpecAng (y x v : Nat) : Prop := ∀ w, Calls Try.prog 16 #[.float .f32 y, .float .f32 x] w (GivesF .f32 w v)
theorem spec_of_wide {y x v : Nat} (hv : ovf v = false) (h : ∀ w1 w2 w, Calls Try.prog 50 #[.float .f64 (widV y w1), .float .f64 (widV x w2)] w (GivesF .f64 w v)) : SpecAng y x (nar v) := by
  intro w
  have HC := Lib.hid h
  have HV := Lib.hid hv
  clear h hv
  go_enter Try.func16, Try.ntmps16
  go_wp2_with (first | (go_at_call 36; go_in) | (go_at_call 43; go_in) | (go_at_call 50; refine (HC.out _ _ _).mono ?_; rintro e w' ⟨r, n, rfl, rfl, hr⟩; have HR := Lib.hid hr; clear hr))
  go_ret
  exact ⟨_, _, rfl, rfl, narV_same _ HR.out HV.out⟩
theorem ovf_ang {r0 r1 r2 : Nat} {over left : Bool} (below : Bool) (h : OctOk r0 over left r1 r2) : ovf (angOf below r2) = false := by
  have h7 : p2 13 ≤ p2 127 := p2_le (by decide)
  have h1 := h.lo
  have h2 := h.hi
  unfold angOf
  cases below
  · exact ovf_fin h.isfin (by grind) (by grind)
  · simp only [if_true]
    obtain ⟨n1, n2⟩ := neg_num h.isfin
    exact ovf_fin n1 (by rw [n2]; grind) (by rw [n2]; grind)

theorem angle_same (y x : Nat) : ∃ v, SpecAng y x v ∧ (∀ w, Calls Try.prog 17 #[.float .f32 y, .float .f32 x] w (GivesG .f32 w v)) := by
  cases hy : fin .f32 y
  · refine ⟨qn .f32, ?_, fun w => impl_Angle_nan (by rw [hy]; exact Bool.and_false _) w⟩
    have h := spec_of_wide (y := y) (x := x) ovf_qn (fun w1 w2 w => spec_AngleWide_nan1 (widV_nofin hy w1) w)
    rw [nar_qn] at h
    exact h
  cases hx : fin .f32 x
  · refine ⟨qn .f32, ?_, fun w => impl_Angle_nan (by rw [hx]; rfl) w⟩
    have h := spec_of_wide (y := y) (x := x) ovf_qn (fun w1 w2 w => spec_AngleWide_nan2 (by rw [(widV_fin hy).1]; exact (wid_num hy).1) (widV_nofin hx w2) w)
    rw [nar_qn] at h
    exact h
  obtain ⟨qy1, qy2⟩ := widV_fin hy
  obtain ⟨qx1, qx2⟩ := widV_fin hx
  cases hz : (FloatKind.f32.format.order x 0 == some .eq && FloatKind.f32.format.order y 0 == some .eq)
  · obtain ⟨a1, a2, a3, a4⟩ := abs_pos hy
    obtain ⟨b1, b2, b3, b4⟩ := abs_pos hx
    have hpos : 0 < val .f64 (abs64 (wid y)) ∨ 0 < val .f64 (abs64 (wid x)) := by
      cases hxz : (FloatKind.f32.format.order x 0 == some .eq)
      · exact Or.inr (b4 hxz)
      · rw [hxz] at hz
        exact Or.inl (a4 hz)
    have hzw : (FloatKind.f64.format.order (wid x) 0 == some .eq && FloatKind.f64.format.order (wid y) 0 == some .eq) = false := by rw [eq_wide hx, eq_wide hy]; exact hz
    have key : ∃ mn mx over t0, (FloatKind.f64.format.order (abs64 (wid y)) (abs64 (wid x)) == some .gt) = over ∧
        (∀ ts t w, (Builtin.min_ ts t #[.float .f64 (abs64 (wid y)), .float .f64 (abs64 (wid x))]).run Try.prog w = .ok (.float .f64 mn) w) ∧ (∀ ts t w, (Builtin.max_ ts t #[.float .f64 (abs64 (wid y)), .float .f64 (abs64 (wid x))]).run Try.prog w = .ok (.float .f64 mx) w) ∧
        floatBits .quo .f64 mn mx = some t0 ∧ ((over = true ∧ floatBits .quo .f64 (abs64 (wid x)) (abs64 (wid y)) = some t0) ∨ (over = false ∧ floatBits .quo .f64 (abs64 (wid y)) (abs64 (wid x)) = some t0)) ∧ fin .f64 t0 = true ∧ 0 ≤ val .f64 t0 ∧ val .f64 t0 ≤ 1 := by
      generalize abs64 (wid y) = A at *
      generalize abs64 (wid x) = B at *
      have ho := order_num a1 b1
      by_cases h1 : val .f64 A < val .f64 B
      · rw [if_pos h1] at ho
        obtain ⟨t, ht, f1, f2, f3⟩ := quo_unit a1 b1 a2 (Rat.le_of_lt h1) (by grind)
        exact ⟨A, B, false, t, by rw [ho]; rfl, fun ts t w => run_min w ts t A B A (Or.inl ⟨ho, rfl⟩), fun ts t w => run_max w ts t A B B (Or.inl ⟨ho, rfl⟩), ht, Or.inr ⟨rfl, ht⟩, f1, f2, f3⟩
      · rw [if_neg h1] at ho
        by_cases h2 : val .f64 A = val .f64 B
        · rw [if_pos h2] at ho
          obtain rfl := val_inj a1 b1 a3 b3 h2
          obtain ⟨t, ht, f1, f2, f3⟩ := quo_unit a1 a1 a2 Rat.le_refl (by rcases hpos with h | h <;> exact h)
          exact ⟨A, A, false, t, by rw [ho]; rfl, fun ts t w => run_min w ts t A A A (Or.inr (Or.inr ⟨rfl, ho, rfl⟩)), fun ts t w => run_max w ts t A A A (Or.inr (Or.inr ⟨rfl, ho, rfl⟩)), ht, Or.inr ⟨rfl, ht⟩, f1, f2, f3⟩
        · rw [if_neg h2] at ho
          obtain ⟨t, ht, f1, f2, f3⟩ := quo_unit b1 a1 b2 (by grind) (by grind)
          exact ⟨B, A, true, t, by rw [ho]; rfl, fun ts t w => run_min w ts t A B B (Or.inr (Or.inl ⟨ho, rfl⟩)), fun ts t w => run_max w ts t A B A (Or.inr (Or.inl ⟨ho, rfl⟩)), ht, Or.inl ⟨rfl, ht⟩, f1, f2, f3⟩
    obtain ⟨mn, mx, over, t0, hov, hmn, hmx, ht, hst, f1, f2, f3⟩ := key
    obtain ⟨t1, i1, i2, i3, i4, I0, f1, f2, f3⟩ := iter_ok f1 f2 f3
    obtain ⟨t2, j1, j2, j3, j4, I1, f1, f2, f3⟩ := iter_ok f1 f2 f3
    obtain ⟨t3, k1, k2, k3, k4, I2, f1, f2, f3⟩ := iter_ok f1 f2 f3
    obtain ⟨u, c, d, r0, hA⟩ := ang_ok f1 f2 f3
    obtain ⟨r1, r2, hO⟩ := oct_ok hA.isfin hA.lo hA.hi over (FloatKind.f32.format.order x 0 == some .lt)
    have hovf := ovf_ang (FloatKind.f32.format.order y 0 == some .lt) hO
    refine ⟨_, spec_of_wide hovf (fun w1 w2 w => ?_), fun w => impl_Angle I0 I1 I2 hA hO hy hx qy1 qy2 qx1 qx2 hz rfl rfl hov hmn hmx ht rfl rfl hovf w⟩
    rw [qy1, qx1]
    exact (spec_AngleWide I0 I1 I2 hA hO (wid_num hy).1 (wid_num hx).1 hzw rfl rfl hov hst (lt_wide hx) (lt_wide hy) w).mono fun e w' ⟨h1, h2⟩ => ⟨_, 0, h1, h2, FEq.refl _ _⟩
  · have hxz : (FloatKind.f32.format.order x 0 == some .eq) = true := by revert hz; cases (FloatKind.f32.format.order x 0 == some .eq) <;> simp
    have hyz : (FloatKind.f32.format.order y 0 == some .eq) = true := by rw [hxz] at hz; exact hz
    refine ⟨0, ?_, fun w => impl_Angle_zero hx hy hxz hyz w⟩
    have h := spec_of_wide (y := y) (x := x) (v := 0) ov0 (fun w1 w2 w => by
      rw [qy1, qx1]
      exact spec_AngleWide_zero (wid_num hy).1 (wid_num hx).1 (by rw [eq_wide hx]; exact hxz) (by rw [eq_wide hy]; exact hyz) w)
    have e : nar 0 = 0 := by decide
    rw [e] at h
    exact h

theorem grown_drew' {w w' : World} (h : Grown w w') (n : Nat) : Grown w (w'.drewN n) := h
theorem walk_FnExactAngleTurns (y x : Nat) (_ : (Lit.float .f32 y).wf = true) (_ : (Lit.float .f32 x).wf = true) (w : World) : Calls Try.prog 6 #[.float .f32 y, .float .f32 x] w fun e w' => e = .returned (.bool true) ∧ Grown w w' := by
  obtain ⟨v, h1, h2⟩ := angle_same y x
  have H1 := Lib.hid h1
  have H2 := Lib.hid h2
  clear h1 h2
  go_enter Try.func6, Try.ntmps6
  go_wp2_with fail
  refine (H1.out _).mono ?_; rintro e w' ⟨r1, n1, rfl, rfl, hr1⟩
  have K1 := Lib.hid hr1
  clear hr1
  go_wp2_with fail
  refine (H2.out _).mono ?_; rintro e w2 ⟨r2, rfl, hg, hr2⟩
  have K2 := Lib.hid hr2
  have HG := Lib.hid (show Grown w w2 from hg)
  clear hr2 hg
  go_wp2_with fail
  refine (same_ok _ _ ((widV_same _ K2.out).trans (widV_same _ K1.out).symm) _).mono ?_; rintro e w' ⟨rfl, n3, rfl⟩
  go_wp2_with fail
  go_ret
  exact ⟨rfl, grown_drew' HG.out _⟩
end Go.Proofs.Ytdlaafeagcbpaaa
