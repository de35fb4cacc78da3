/-
  The walks of FromBits (program and reference) and of its law.
-/
import Derived.Test.YtdaoiclpkedkoaaChecked
import Derived.Test.YtdaoiclpkedkoaaSame
import Derived.Laws.Externs
namespace Go.Proofs.Ytdaoiclpkedkoaa
open Go Go.RowKit

theorem From32 (n : Int) (w : World) : (callFunc 40 #[.int .u32 n]).run Try.prog w = .ok (.value (.float .f32 n.toNat)) w := by
  rw [run_callFunc_extern Try.func40 (by kernel_rfl) (by kernel_rfl) (by kernel_rfl) (e := Extern.MathFloatBits.float32frombits) (by kernel_rfl)]
  rfl

/-- a number and whether it is one. -/
def GivesFB (w : World) (v : Nat) (b : Bool) (e : Ending) (w' : World) : Prop := e = .returned (.tuple #[.float .f32 v, .bool b]) ∧ ∃ n, w' = w.drewN n

theorem spec_FromBits_out (n : Int) (w : World) (h : n < 0 ∨ 4294967295 < n) : Calls Try.prog 22 #[.int .i64 n] w (GivesFB w 0 false) := by
  rcases h with h | h
  · go_enter Try.func22, Try.ntmps22
    go_wp2
    go_ret2
    exact ⟨rfl, 0, rfl⟩
  · have h0 : 0 ≤ n := by omega
    have hd : decide (n ≤ 4294967295) = false := by simp; omega
    go_enter Try.func22, Try.ntmps22
    go_wp2
    go_ret2
    exact ⟨rfl, 0, rfl⟩
theorem impl_FromBits_out (n : Int) (w : World) (h : n < 0 ∨ 4294967295 < n) : Calls Try.prog 23 #[.int .i64 n] w (GivesFB w 0 false) := by
  rcases h with h | h
  · go_enter Try.func23, Try.ntmps23
    go_wp2
    go_ret2
    exact ⟨rfl, 0, rfl⟩
  · have h0 : 0 ≤ n := by omega
    have hd : decide (n ≤ 4294967295) = false := by simp; omega
    go_enter Try.func23, Try.ntmps23
    go_wp2
    go_ret2
    exact ⟨rfl, 0, rfl⟩
theorem spec_FromBits_in (n : Int) (w : World) (h0 : 0 ≤ n) (h1 : n ≤ 4294967295) : Calls Try.prog 22 #[.int .i64 n] w (GivesFB w n.toNat true) := by
  have hf := From32
  go_enter Try.func22, Try.ntmps22
  go_wp2
  go_ret2
  exact ⟨rfl, 0, rfl⟩
theorem impl_FromBits_in (n : Int) (w : World) (h0 : 0 ≤ n) (h1 : n ≤ 4294967295) : Calls Try.prog 23 #[.int .i64 n] w (GivesFB w n.toNat true) := by
  have hf := From32
  go_enter Try.func23, Try.ntmps23
  go_wp2
  go_ret2
  exact ⟨rfl, 0, rfl⟩
theorem fromBits_same (n : Int) : ∃ v b, (∀ w, Calls Try.prog 22 #[.int .i64 n] w (GivesFB w v b)) ∧ (∀ w, Calls Try.prog 23 #[.int .i64 n] w (GivesFB w v b)) := by
  by_cases h : 0 ≤ n ∧ n ≤ 4294967295
  · exact ⟨_, _, fun w => spec_FromBits_in n w h.1 h.2, fun w => impl_FromBits_in n w h.1 h.2⟩
  · exact ⟨_, _, fun w => spec_FromBits_out n w (by omega), fun w => impl_FromBits_out n w (by omega)⟩
theorem walk_FnExactFromBits (n : Int) (_ : (Lit.int .i64 n).wf = true) (w : World) : Calls Try.prog 8 #[.int .i64 n] w fun e w' => e = .returned (.bool true) ∧ Grown w w' := by
  obtain ⟨v, b, h1, h2⟩ := fromBits_same n
  have H1 := Lib.hid h1
  have H2 := Lib.hid h2
  clear h1 h2
  go_enter Try.func8, Try.ntmps8
  go_wp2_with fail
  refine (H1.out _).mono ?_; rintro e w' ⟨rfl, n1, rfl⟩
  go_wp2_with fail
  refine (H2.out _).mono ?_; rintro e w' ⟨rfl, n2, rfl⟩
  go_wp2_with fail
  refine (same_ok _ _ ((widV_same _ (FEq.refl _ _)).trans (widV_same _ (FEq.refl _ _)).symm) _).mono ?_; rintro e w' ⟨rfl, n3, rfl⟩
  go_wp2_with fail
  go_ret
  exact ⟨rfl, grown_drewN _ _⟩
end Go.Proofs.Ytdaoiclpkedkoaa
