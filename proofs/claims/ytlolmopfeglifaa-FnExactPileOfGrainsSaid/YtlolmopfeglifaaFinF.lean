/-
  The walks of the reference's and the program's question whether a number is finite.
-/
import Derived.Test.YtlolmopfeglifaaChecked
import Derived.Test.YtlolmopfeglifaaNarF
namespace Go.Proofs.Ytlolmopfeglifaa
open Go Go.RowKit

theorem spec_l01Finite (x : Nat) (w : World) : Calls Try.prog 13 #[.float .f32 x] w (GivesB w (fin .f32 x)) := by
  have h := order_same (ar_same .sub w (FEq.refl .f32 x) (FEq.refl .f32 x)) (FEq.refl .f32 0)
  have H := Lib.hid h
  clear h
  go_enter Try.func13, Try.ntmps13
  go_wp2
  go_ret
  exact ⟨ret_bool (by rw [← fin32_eq, ← H.out]), _, rfl⟩
theorem impl_IsFinite (x : Nat) (w : World) : Calls Try.prog 26 #[.float .f32 x] w (GivesB w (fin .f32 x)) := by
  have h := order_same (ar_same .sub w (FEq.refl .f32 x) (FEq.refl .f32 x)) (FEq.refl .f32 0)
  have H := Lib.hid h
  clear h
  go_enter Try.func26, Try.ntmps26
  go_wp2
  go_ret
  exact ⟨ret_bool (by rw [← fin32_eq, ← H.out]), _, rfl⟩
end Go.Proofs.Ytlolmopfeglifaa
