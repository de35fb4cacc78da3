/-
  The walks of the reference's and the program's question whether a number is finite.
-/
import Derived.Test.YtdlaafeagcbpaaaChecked
import Derived.Test.YtdlaafeagcbpaaaNar
namespace Go.Proofs.Ytdlaafeagcbpaaa
open Go Go.RowKit

theorem spec_l01Finite (x : Nat) (w : World) : Calls Try.prog 33 #[.float .f32 x] w (GivesB w (fin .f32 x)) := by
  have h := order_same (ar_same .sub w (FEq.refl .f32 x) (FEq.refl .f32 x)) (FEq.refl .f32 0)
  have H := Lib.hid h
  clear h
  go_enter Try.func33, Try.ntmps33
  go_wp2
  go_ret
  exact ⟨ret_bool (by rw [← fin32_eq, ← H.out]), _, rfl⟩
theorem impl_IsFinite (x : Nat) (w : World) : Calls Try.prog 27 #[.float .f32 x] w (GivesB w (fin .f32 x)) := by
  have h := order_same (ar_same .sub w (FEq.refl .f32 x) (FEq.refl .f32 x)) (FEq.refl .f32 0)
  have H := Lib.hid h
  clear h
  go_enter Try.func27, Try.ntmps27
  go_wp2
  go_ret
  exact ⟨ret_bool (by rw [← fin32_eq, ← H.out]), _, rfl⟩
end Go.Proofs.Ytdlaafeagcbpaaa
