/-
  The walks of IsFinite (program and reference) and of the laws FnExactIsFinite and FnExactConstants.
-/
import Derived.Test.YtdaoiclpkedkoaaChecked
import Derived.Test.YtdaoiclpkedkoaaSame
namespace Go.Proofs.Ytdaoiclpkedkoaa
open Go Go.RowKit


theorem walk_FnExactConstants (w : World) : Calls Try.prog 3 #[] w fun e w' => e = .returned (.bool true) ∧ Grown w w' := by
  go_enter Try.func3, Try.ntmps3
  go_wp2
  all_goals (go_ret; exact ⟨rfl, Grown.refl _⟩)

/-- x - x == 0, whatever the tape. -/
def fin32 (x : Nat) : Bool := FloatKind.f32.format.order (pa .sub .f32 x x) 0 == some .eq

theorem spec_l01Finite (x : Nat) (w : World) : Calls Try.prog 32 #[.float .f32 x] w (GivesB w (fin32 x)) := by
  have h := order_same (ar_same .sub w (FEq.refl .f32 x) (FEq.refl .f32 x)) (FEq.refl .f32 0)
  have H := Lib.hid h
  clear h
  go_enter Try.func32, Try.ntmps32
  go_wp2
  go_ret
  exact ⟨ret_bool (by rw [fin32, ← H.out]), _, rfl⟩
theorem impl_IsFinite (x : Nat) (w : World) : Calls Try.prog 14 #[.float .f32 x] w (GivesB w (fin32 x)) := by
  have h := order_same (ar_same .sub w (FEq.refl .f32 x) (FEq.refl .f32 x)) (FEq.refl .f32 0)
  have H := Lib.hid h
  clear h
  go_enter Try.func14, Try.ntmps14
  go_wp2
  go_ret
  exact ⟨ret_bool (by rw [fin32, ← H.out]), _, rfl⟩
theorem spec_IsFinite (x : Nat) (w : World) : Calls Try.prog 13 #[.float .f32 x] w (GivesB w (fin32 x)) := by
  go_enter Try.func13, Try.ntmps13
  go_wp2_with (go_at_call 32; refine (spec_l01Finite _ _).mono ?_; rintro e w' ⟨rfl, n, rfl⟩)
  go_ret
  exact ⟨rfl, _, rfl⟩
theorem walk_FnExactIsFinite (x : Nat) (_ : (Lit.float .f32 x).wf = true) (w : World) : Calls Try.prog 4 #[.float .f32 x] w fun e w' => e = .returned (.bool true) ∧ Grown w w' := by
  go_enter Try.func4, Try.ntmps4
  go_wp2_with (first | (go_at_call 13; refine (spec_IsFinite _ _).mono ?_; rintro e w' ⟨rfl, n, rfl⟩) | (go_at_call 14; refine (impl_IsFinite _ _).mono ?_; rintro e w' ⟨rfl, n, rfl⟩))
  go_ret
  exact ⟨rfl, grown_drewN _ _⟩
end Go.Proofs.Ytdaoiclpkedkoaa
