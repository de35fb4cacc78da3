/-
  The walks of BitsOf, SameNumber (program and reference) and of their laws.
-/
import Derived.Test.YtdaoiclpkedkoaaChecked
import Derived.Test.YtdaoiclpkedkoaaSame
import Derived.Laws.Externs
namespace Go.Proofs.Ytdaoiclpkedkoaa
open Go Go.RowKit

theorem Bits32 (b : Nat) (w : World) : (callFunc 35 #[.float .f32 b]).run Try.prog w = .ok (.value (.int .u32 b)) w := by
  rw [run_callFunc_extern Try.func35 (by kernel_rfl) (by kernel_rfl) (by kernel_rfl) (e := Extern.MathFloatBits.float32bits) (by kernel_rfl)]
  rfl

/-- the bits of a number, one pattern for each not-a-number. -/
def bits32 (x : Nat) : Int := if isN .f32 x then 2143289344 else x
def GivesI (w : World) (b : Int) (e : Ending) (w' : World) : Prop := e = .returned (.int .i64 b) ∧ ∃ n, w' = w.drewN n
theorem ret_i64 {a b : Int} (h : a = b) : Ending.returned (.int .i64 a) = Ending.returned (.int .i64 b) := by rw [h]
theorem bits32_nan {x : Nat} (h : isN .f32 x = true) : bits32 x = 2143289344 := by unfold bits32; rw [if_pos h]
theorem bits32_num {x : Nat} (h : isN .f32 x = false) : bits32 x = x := by unfold bits32; rw [h]; rfl
theorem lt_of_wf32 {x : Nat} (h : (Lit.float .f32 x).wf = true) : (x : Int) < 4294967296 := by
  have : x < 2 ^ 32 := of_decide_eq_true h
  omega

theorem spec_l01Bits (x : Nat) (wx : (Lit.float .f32 x).wf = true) (w : World) : Calls Try.prog 34 #[.float .f32 x] w (GivesI w (bits32 x)) := by
  have hx := lt_of_wf32 wx
  have hb := Bits32 x
  clear wx
  by_cases hn : isN .f32 x = true
  · have h := neq_nan hn
    have e := Lib.hid (bits32_nan hn)
    clear hn
    go_enter Try.func34, Try.ntmps34
    go_wp2
    go_ret
    exact ⟨ret_i64 e.out.symm, 0, rfl⟩
  · have hn' : isN .f32 x = false := by simpa using hn
    have h := neq_num hn'
    have e := Lib.hid (bits32_num hn')
    clear hn hn'
    go_enter Try.func34, Try.ntmps34
    go_wp2
    go_ret
    exact ⟨ret_i64 e.out.symm, 0, rfl⟩
theorem impl_BitsOf (x : Nat) (wx : (Lit.float .f32 x).wf = true) (w : World) : Calls Try.prog 19 #[.float .f32 x] w (GivesI w (bits32 x)) := by
  have hx := lt_of_wf32 wx
  have hb := Bits32 x
  clear wx
  by_cases hn : isN .f32 x = true
  · have h := neq_nan hn
    have e := Lib.hid (bits32_nan hn)
    clear hn
    go_enter Try.func19, Try.ntmps19
    go_wp2
    go_ret
    exact ⟨ret_i64 e.out.symm, 0, rfl⟩
  · have hn' : isN .f32 x = false := by simpa using hn
    have h := neq_num hn'
    have e := Lib.hid (bits32_num hn')
    clear hn hn'
    go_enter Try.func19, Try.ntmps19
    go_wp2
    go_ret
    exact ⟨ret_i64 e.out.symm, 0, rfl⟩
theorem spec_BitsOf (x : Nat) (wx : (Lit.float .f32 x).wf = true) (w : World) : Calls Try.prog 18 #[.float .f32 x] w (GivesI w (bits32 x)) := by
  go_enter Try.func18, Try.ntmps18
  go_wp2_with (go_at_call 34; refine (spec_l01Bits _ wx _).mono ?_; rintro e w' ⟨rfl, n, rfl⟩)
  go_ret
  exact ⟨rfl, _, rfl⟩
theorem walk_FnExactBitsOf (x : Nat) (wx : (Lit.float .f32 x).wf = true) (w : World) : Calls Try.prog 6 #[.float .f32 x] w fun e w' => e = .returned (.bool true) ∧ Grown w w' := by
  go_enter Try.func6, Try.ntmps6
  go_wp2_with (first | (go_at_call 18; refine (spec_BitsOf _ wx _).mono ?_; rintro e w' ⟨rfl, n, rfl⟩) | (go_at_call 19; refine (impl_BitsOf _ wx _).mono ?_; rintro e w' ⟨rfl, n, rfl⟩))
  go_ret
  exact ⟨rfl, grown_drewN _ _⟩

theorem spec_l01Same (x y : Nat) (wx : (Lit.float .f32 x).wf = true) (wy : (Lit.float .f32 y).wf = true) (w : World) :
    Calls Try.prog 36 #[.float .f32 x, .float .f32 y] w (GivesB w (bits32 x == bits32 y)) := by
  go_enter Try.func36, Try.ntmps36
  go_wp2_with fail
  refine (spec_l01Bits _ wx _).mono ?_; rintro e w' ⟨rfl, n, rfl⟩
  go_wp2_with fail
  refine (spec_l01Bits _ wy _).mono ?_; rintro e w' ⟨rfl, m, rfl⟩
  go_wp2_with fail
  go_ret
  exact ⟨rfl, _, rfl⟩
theorem spec_SameNumber (x y : Nat) (wx : (Lit.float .f32 x).wf = true) (wy : (Lit.float .f32 y).wf = true) (w : World) :
    Calls Try.prog 20 #[.float .f32 x, .float .f32 y] w (GivesB w (bits32 x == bits32 y)) := by
  go_enter Try.func20, Try.ntmps20
  go_wp2_with fail
  refine (spec_l01Same _ _ wx wy _).mono ?_; rintro e w' ⟨rfl, n, rfl⟩
  go_wp2_with fail
  go_ret
  exact ⟨rfl, _, rfl⟩
theorem impl_SameNumber (x y : Nat) (wx : (Lit.float .f32 x).wf = true) (wy : (Lit.float .f32 y).wf = true) (w : World) :
    Calls Try.prog 21 #[.float .f32 x, .float .f32 y] w (GivesB w (bits32 x == bits32 y)) := by
  go_enter Try.func21, Try.ntmps21
  go_wp2_with fail
  refine (impl_BitsOf _ wx _).mono ?_; rintro e w' ⟨rfl, n, rfl⟩
  go_wp2_with fail
  refine (impl_BitsOf _ wy _).mono ?_; rintro e w' ⟨rfl, m, rfl⟩
  go_wp2_with fail
  go_ret
  exact ⟨rfl, _, rfl⟩
theorem walk_FnExactSameNumber (x y : Nat) (wx : (Lit.float .f32 x).wf = true) (wy : (Lit.float .f32 y).wf = true) (w : World) :
    Calls Try.prog 7 #[.float .f32 x, .float .f32 y] w fun e w' => e = .returned (.bool true) ∧ Grown w w' := by
  go_enter Try.func7, Try.ntmps7
  go_wp2_with fail
  refine (spec_SameNumber _ _ wx wy _).mono ?_; rintro e w' ⟨rfl, n, rfl⟩
  go_wp2_with fail
  refine (impl_SameNumber _ _ wx wy _).mono ?_; rintro e w' ⟨rfl, m, rfl⟩
  go_wp2_with fail
  go_ret
  exact ⟨rfl, grown_drewN _ _⟩
end Go.Proofs.Ytdaoiclpkedkoaa
