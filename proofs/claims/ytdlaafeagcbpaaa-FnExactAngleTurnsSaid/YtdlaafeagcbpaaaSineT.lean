/-
  The walks of SineTurns (program and reference) and of its law.
-/
import Derived.Test.YtdlaafeagcbpaaaSineW
import Derived.Test.YtdlaafeagcbpaaaFin
namespace Go.Proofs.Ytdlaafeagcbpaaa
open Go Go.RowKit Ieee

/-- not finite: what is taken from itself is no zero. -/
theorem self_nan {y : Nat} (hy : fin .f64 y = false) (w : World) : (FloatKind.f64.format.order (ar .sub .f64 y y w) 0 != some .eq) = true := by
  have h := order_same (ar_same .sub w (FEq.refl .f64 y) (FEq.refl .f64 y)) (FEq.refl .f64 0)
  rw [h]
  have e : floatBits .sub .f64 y y = none := by
    unfold fin at hy
    simp only [floatBits, Format.sub]
    have hr : FloatKind.f64.format.read y = FloatKind.f64.decode y := rfl
    rw [hr]
    cases hd : FloatKind.f64.decode y with
    | number s m e => rw [hd] at hy; cases hy
    | infinity s => cases s <;> rfl
    | nan s t => rfl
  unfold pa
  rw [e]
  rfl
theorem spec_SineWide_nan {y : Nat} (hy : fin .f64 y = false) (w : World) : Calls Try.prog 44 #[.float .f64 y] w (GivesF .f64 w (qn .f64)) := by
  have h := self_nan hy
  have hn := Nan64
  clear hy
  go_enter Try.func44, Try.ntmps44
  go_wp2_with (go_at_call 28; refine (nan_any _).mono ?_; rintro e w' ⟨rfl, rfl⟩)
  go_ret
  exact ⟨_, _, rfl, rfl, FEq.of_nan hn (nan_qn _)⟩
theorem spec_SineWide_big {y : Nat} (hy : fin .f64 y = true) (hb : p2 52 ≤ val .f64 y ∨ val .f64 y ≤ -p2 52) (w : World) : Calls Try.prog 44 #[.float .f64 y] w (GivesX .f64 w 0) := by
  obtain ⟨d0, hd0, hd1⟩ := self_sub hy
  obtain ⟨s1, s2, _⟩ := ar_some hd0
  by_cases h1 : p2 52 ≤ val .f64 y
  · have g1 : (FloatKind.f64.format.order y 4841369599423283200 == some .gt || FloatKind.f64.format.order y 4841369599423283200 == some .eq) = true := by
      rw [geq_num hy fin_big, val_big]; simpa using h1
    clear hd0 hy hb h1
    go_enter Try.func44, Try.ntmps44
    go_wp2
    go_ret
    exact ⟨rfl, rfl⟩
  · have g1 := big_pos hy (Rat.not_le.1 h1)
    have g2 : (FloatKind.f64.format.order y 14064741636278059008 == some .lt || FloatKind.f64.format.order y 14064741636278059008 == some .eq) = true := by
      rw [leq_num hy fin_mbig, val_mbig]
      have : val .f64 y ≤ -p2 52 := by rcases hb with h | h
                                       · exact absurd h h1
                                       · exact h
      simpa using this
    clear hd0 hy hb h1
    go_enter Try.func44, Try.ntmps44
    go_wp2
    go_ret
    exact ⟨rfl, rfl⟩

/-- the absolute value against 2 to the power of 52. -/
theorem abs_geq {y : Nat} (hlt : y < 18446744073709551616) (hy : fin .f64 y = true) :
    (FloatKind.f64.format.order (abs64 y) 4841369599423283200 == some .gt || FloatKind.f64.format.order (abs64 y) 4841369599423283200 == some .eq) = decide (p2 52 ≤ val .f64 y ∨ val .f64 y ≤ -p2 52) := by
  obtain ⟨s, m, e, hd, hv, _⟩ := fin_form hy
  obtain ⟨a1, a2⟩ := val_abs hlt hd
  rw [geq_num a1 fin_big, val_big, a2, hv]
  have hm := mv_nonneg m e
  have hp := p2_pos 52
  rw [Bool.eq_iff_iff]
  simp only [decide_eq_true_eq]
  unfold sv
  cases s
  · simp only [Bool.false_eq_true, if_false]
    constructor
    · intro h; exact Or.inl h
    · rintro (h | h)
      · exact h
      · grind
  · simp only [if_true]
    constructor
    · intro h; right; grind
    · rintro (h | h)
      · grind
      · grind
theorem impl_isWhole {y : Nat} (w : World) : Calls Try.prog 29 #[.float .f64 y] w fun e w' => e = .returned (.bool (FloatKind.f64.format.order (abs64 y) 4841369599423283200 == some .gt || FloatKind.f64.format.order (abs64 y) 4841369599423283200 == some .eq)) ∧ w' = w := by
  go_enter Try.func29, Try.ntmps29
  go_wp2_with (go_at_call 38; refine (abs_any _ _).mono ?_; rintro e w' ⟨rfl, rfl⟩)
  go_ret
  exact ⟨rfl, rfl⟩

/-- WHAT SineTurns COMES TO, in three cases. -/
inductive SineCase (x : Nat) : Nat → Prop where
  | none : fin .f32 x = false → SineCase x (qn .f32)
  | big : fin .f32 x = true → (p2 52 ≤ val .f32 x ∨ val .f32 x ≤ -p2 52) → SineCase x 0
  | some {n : Int} {f0 f1 f2 f3 z u r : Nat} {t : Bool} : fin .f32 x = true → val .f32 x < p2 52 → -p2 52 < val .f32 x → PartOk (wid x) n f0 f1 → FoldOk f1 f2 f3 t → EndOk f3 z u r → SineCase x (nar (sineOf t r))
theorem sine_case (x : Nat) : ∃ v, SineCase x v := by
  cases hx : fin .f32 x
  · exact ⟨_, .none hx⟩
  · by_cases hb : p2 52 ≤ val .f32 x ∨ val .f32 x ≤ -p2 52
    · exact ⟨_, .big hx hb⟩
    · have h1 : val .f32 x < p2 52 := Rat.not_le.1 (fun h => hb (Or.inl h))
      have h2 : -p2 52 < val .f32 x := Rat.not_le.1 (fun h => hb (Or.inr h))
      obtain ⟨w1, w2⟩ := wid_num hx
      obtain ⟨n, f0, f1, hP⟩ := part_ok w1 (by rw [w2]; exact h2) (by rw [w2]; exact h1)
      obtain ⟨f2, f3, t, hF⟩ := fold_ok hP.isfin hP.lo hP.hi
      obtain ⟨z, u, r, hE⟩ := end_ok hF.isfin hF.lo hF.hi
      exact ⟨_, .some hx h1 h2 hP hF hE⟩
theorem ovf_sine {f3 z u r : Nat} (t : Bool) (hE : EndOk f3 z u r) : ovf (sineOf t r) = false := by
  have h7 : p2 9 ≤ p2 127 := p2_le (by decide)
  have h1 := hE.lo
  have h2 := hE.hi
  unfold sineOf
  cases t
  · exact ovf_fin hE.isfin (by grind) (by grind)
  · simp only [if_true]
    obtain ⟨n1, n2⟩ := neg_num hE.isfin
    exact ovf_fin n1 (by rw [n2]; grind) (by rw [n2]; grind)

theorem spec_SineTurns {x v : Nat} (h : SineCase x v) (w : World) : Calls Try.prog 8 #[.float .f32 x] w (GivesF .f32 w v) := by
  cases h with
  | none hx =>
    have hy := widV_nofin hx
    have HY := Lib.hid hy
    clear hy hx
    go_enter Try.func8, Try.ntmps8
    go_wp2_with (first | (go_at_call 44; refine (spec_SineWide_nan (HY.out _) _).mono ?_; rintro e w' ⟨r, n, rfl, rfl, hr⟩; have HR := Lib.hid hr; clear hr) | (go_at_call 26; go_in) | (go_at_call 43; go_in))
    go_ret
    exact ⟨_, _, rfl, rfl, (narV_same _ HR.out ovf_qn).trans (Or.inl nar_qn)⟩
  | big hx hb =>
    obtain ⟨w1, w2⟩ := wid_num hx
    rw [← w2] at hb
    obtain ⟨q1, q2⟩ := widV_fin hx
    have HC := Lib.hid (spec_SineWide_big w1 hb)
    clear hx w1 w2 hb
    go_enter Try.func8, Try.ntmps8
    go_wp2_with (first | (go_at_call 44; refine (HC.out _).mono ?_; rintro e w' ⟨rfl, rfl⟩) | (go_at_call 26; go_in) | (go_at_call 43; go_in))
    go_ret
    exact ⟨_, _, rfl, rfl, Or.inl (nar_zero _)⟩
  | some hx h1 h2 hP hF hE =>
    obtain ⟨w1, w2⟩ := wid_num hx
    obtain ⟨q1, q2⟩ := widV_fin hx
    rw [← w2] at h1 h2
    have HC := Lib.hid (spec_SineWide w1 h1 h2 hP hF hE)
    have HO := Lib.hid (fun t => ovf_sine t hE)
    clear hx w1 w2 h1 h2 hP hF hE
    go_enter Try.func8, Try.ntmps8
    go_wp2_with (first | (go_at_call 44; refine (HC.out _).mono ?_; rintro e w' ⟨rfl, rfl⟩) | (go_at_call 26; go_in) | (go_at_call 43; go_in))
    go_ret
    exact ⟨_, _, rfl, rfl, narV_same _ (FEq.refl _ _) (HO.out _)⟩
theorem impl_SineTurns {x v : Nat} (h : SineCase x v) (w : World) : Calls Try.prog 9 #[.float .f32 x] w (GivesF .f32 w v) := by
  have hi := fun w => impl_IsFinite x w
  cases h with
  | none hx =>
    rw [hx] at hi
    have HI := Lib.hid hi
    have hn := Nan64
    clear hx hi
    go_enter Try.func9, Try.ntmps9
    go_wp2_with (first | (go_at_call 27; refine (HI.out _).mono ?_; rintro e w' ⟨rfl, n, rfl⟩) | (go_at_call 28; refine (nan_any _).mono ?_; rintro e w' ⟨rfl, rfl⟩))
    go_ret
    exact ⟨_, _, rfl, rfl, (narV_same _ (FEq.of_nan hn (nan_qn _)) ovf_qn).trans (Or.inl nar_qn)⟩
  | big hx hb =>
    rw [hx] at hi
    have HI := Lib.hid hi
    obtain ⟨w1, w2⟩ := wid_num hx
    rw [← w2] at hb
    obtain ⟨q1, q2⟩ := widV_fin hx
    have hw := fun w => impl_isWhole (y := wid x) w
    rw [abs_geq (wid_lt x) w1, decide_eq_true hb] at hw
    have HW := Lib.hid hw
    clear hx hi w1 w2 hb hw
    go_enter Try.func9, Try.ntmps9
    go_wp2_with (first | (go_at_call 27; refine (HI.out _).mono ?_; rintro e w' ⟨rfl, n, rfl⟩) | (go_at_call 29; refine (HW.out _).mono ?_; rintro e w' ⟨rfl, rfl⟩))
    go_ret
    exact ⟨_, _, rfl, rfl, FEq.refl _ _⟩
  | some hx h1 h2 hP hF hE =>
    rw [hx] at hi
    have HI := Lib.hid hi
    obtain ⟨w1, w2⟩ := wid_num hx
    rw [← w2] at h1 h2
    obtain ⟨q1, q2⟩ := widV_fin hx
    have hw := fun w => impl_isWhole (y := wid x) w
    have hnb : ¬ (p2 52 ≤ val .f64 (wid x) ∨ val .f64 (wid x) ≤ -p2 52) := by grind
    rw [abs_geq (wid_lt x) w1, decide_eq_false hnb] at hw
    have HW := Lib.hid hw
    have HC := Lib.hid (impl_sine hP hF hE)
    have HO := Lib.hid (fun t => ovf_sine t hE)
    clear hx hi w1 w2 hnb hw h1 h2 hP hF hE
    go_enter Try.func9, Try.ntmps9
    go_wp2_with (first | (go_at_call 27; refine (HI.out _).mono ?_; rintro e w' ⟨rfl, n, rfl⟩) | (go_at_call 29; refine (HW.out _).mono ?_; rintro e w' ⟨rfl, rfl⟩) | (go_at_call 30; refine (HC.out _).mono ?_; rintro e w' ⟨rfl, rfl⟩))
    go_ret
    exact ⟨_, _, rfl, rfl, narV_same _ (FEq.refl _ _) (HO.out _)⟩
theorem walk_FnExactSineTurns (x : Nat) (_ : (Lit.float .f32 x).wf = true) (w : World) : Calls Try.prog 3 #[.float .f32 x] w fun e w' => e = .returned (.bool true) ∧ Grown w w' := by
  obtain ⟨v, hv⟩ := sine_case x
  have HV := Lib.hid hv
  clear hv
  go_enter Try.func3, Try.ntmps3
  go_wp2_with fail
  refine (spec_SineTurns HV.out _).mono ?_; rintro e w' ⟨r1, n1, rfl, rfl, hr1⟩
  have H1 := Lib.hid hr1
  clear hr1
  go_wp2_with fail
  refine (impl_SineTurns HV.out _).mono ?_; rintro e w' ⟨r2, n2, rfl, rfl, hr2⟩
  have H2 := Lib.hid hr2
  clear hr2
  go_wp2_with fail
  refine (same_ok _ _ ((widV_same _ H2.out).trans (widV_same _ H1.out).symm) _).mono ?_; rintro e w' ⟨rfl, n3, rfl⟩
  go_wp2_with fail
  go_ret
  exact ⟨rfl, grown_drewN _ _⟩
end Go.Proofs.Ytdlaafeagcbpaaa
