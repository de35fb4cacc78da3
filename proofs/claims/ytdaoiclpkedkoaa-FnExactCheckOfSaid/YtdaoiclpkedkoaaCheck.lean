/-
  The walks of CheckOf (program and reference) and of its law.
-/
import Derived.Test.YtdaoiclpkedkoaaChecked
import Derived.WalkKit
import Derived.Lib.Hide
namespace Go.Proofs.Ytdaoiclpkedkoaa
open Go Go.RowKit

/-- the check number behind some bytes. -/
def chk (a : Int) (l : List UInt8) : Int := l.foldl (fun n c => (773 * n + (c.toNat : Int) + 89) % 65003) a
theorem chk_bd (a : Int) (l : List UInt8) (h0 : 0 ≤ a) (h1 : a ≤ 65002) : 0 ≤ chk a l ∧ chk a l ≤ 65002 := by
  unfold chk
  induction l generalizing a with
  | nil => exact ⟨h0, h1⟩
  | cons c l ih => exact ih ((773 * a + (c.toNat : Int) + 89) % 65003) (by omega) (by omega)
theorem chk_snoc (a : Int) (l : List UInt8) (c : UInt8) : chk a (l ++ [c]) = (773 * chk a l + (c.toNat : Int) + 89) % 65003 := by
  unfold chk
  rw [List.foldl_append]
  rfl
theorem take_snoc' (s : ByteArray) (k : Nat) (h : k < s.size) : s.data.toList.take (k + 1) = s.data.toList.take k ++ [s[k]] := by
  rw [List.take_succ_eq_append_getElem (by simpa using h)]; rfl
theorem chk_step (a : Int) (s : ByteArray) (k : Nat) (h : k < s.size) : chk a (s.data.toList.take (k + 1)) = (773 * chk a (s.data.toList.take k) + (s[k].toNat : Int) + 89) % 65003 := by
  rw [take_snoc' s k h, chk_snoc]
theorem byte_bd (s : ByteArray) (k : Nat) (h : k < s.size) : (s[k].toNat : Int) ≤ 255 := by
  have := s[k].toNat_lt
  omega
def GivesInt (w : World) (b : Int) (e : Ending) (w' : World) : Prop := e = .returned (.int .i64 b) ∧ w' = w
def GivesIB (w : World) (v : Int) (b : Bool) (e : Ending) (w' : World) : Prop := e = .returned (.tuple #[.int .i64 v, .bool b]) ∧ w' = w
theorem retn_i64 {a b : Int} (h : a = b) : Ending.returned (.int .i64 a) = Ending.returned (.int .i64 b) := by rw [h]
theorem retn_ib {a b : Int} {t : Bool} (h : a = b) : Ending.returned (.tuple #[.int .i64 a, .bool t]) = Ending.returned (.tuple #[.int .i64 b, .bool t]) := by rw [h]

set_option maxHeartbeats 400000 in
theorem spec_l01Check (a : Int) (s : ByteArray) (w : World) (h0 : 0 ≤ a) (h1 : a ≤ 65002) (hs : s.size ≤ 9223372036854775807) :
    Calls Try.prog 41 #[.int .i64 a, .string s] w (GivesInt w (chk a s.data.toList)) := by
  go_enter Try.func41, Try.ntmps41
  go_wp2
  go_loop [0, 5] (fun n i => ∃ k : Nat, k ≤ s.size ∧ i = .int .i64 k ∧ n = .int .i64 (chk a (s.data.toList.take k))) (fun _ i => s.size - (intOf i).toNat)
  case atStart => exact ⟨0, Nat.zero_le _, rfl, rfl⟩
  case round =>
    obtain ⟨k, hk, rfl, rfl⟩ := hrel
    obtain ⟨b0, b1⟩ := chk_bd a (s.data.toList.take k) h0 h1
    by_cases hlt : k < s.size
    · have HS := Lib.hid (chk_step a s k hlt)
      have hb := byte_bd s k hlt
      go_wp2
      go_round
      case rel => exact ⟨k + 1, by omega, by go_num, by rw [HS.out]⟩
      case measure => simp [intOf]; omega
    · go_wp2
      go_ret
      exact ⟨retn_i64 (by rw [List.take_of_length_le (by simp; omega)]), rfl⟩

theorem spec_CheckOf_in (a : Int) (s : ByteArray) (w : World) (h0 : 0 ≤ a) (h1 : a ≤ 65002) (hs : s.size ≤ 9223372036854775807) :
    Calls Try.prog 24 #[.int .i64 a, .string s] w (GivesIB w (chk a s.data.toList) true) := by
  go_enter Try.func24, Try.ntmps24
  go_wp2_with (first | (go_at_call 41; refine (spec_l01Check _ _ _ h0 h1 hs).mono ?_; rintro e w' ⟨rfl, rfl⟩) | (go_at_call 37; go_in))
  go_ret2
  exact ⟨rfl, rfl⟩
theorem spec_CheckOf_out (a : Int) (s : ByteArray) (w : World) (h : a < 0 ∨ 65002 < a) :
    Calls Try.prog 24 #[.int .i64 a, .string s] w (GivesIB w 0 false) := by
  rcases h with h | h
  · go_enter Try.func24, Try.ntmps24
    go_wp2_with (go_at_call 37; go_in)
    go_ret2
    exact ⟨rfl, rfl⟩
  · have h0 : 0 ≤ a := by omega
    have hd : decide (a ≤ 65002) = false := by simp; omega
    go_enter Try.func24, Try.ntmps24
    go_wp2_with (go_at_call 37; go_in)
    go_ret2
    exact ⟨rfl, rfl⟩

set_option maxHeartbeats 400000 in
theorem impl_CheckOf_in (a : Int) (s : ByteArray) (w : World) (h0 : 0 ≤ a) (h1 : a ≤ 65002) (hs : s.size ≤ 9223372036854775807) :
    Calls Try.prog 25 #[.int .i64 a, .string s] w (GivesIB w (chk a s.data.toList) true) := by
  go_enter Try.func25, Try.ntmps25
  go_wp2
  go_loop [0, 12] (fun n i => ∃ k : Nat, k ≤ s.size ∧ i = .int .i64 k ∧ n = .int .i64 (chk a (s.data.toList.take k))) (fun _ i => s.size - (intOf i).toNat)
  case atStart => exact ⟨0, Nat.zero_le _, rfl, rfl⟩
  case round =>
    obtain ⟨k, hk, rfl, rfl⟩ := hrel
    obtain ⟨b0, b1⟩ := chk_bd a (s.data.toList.take k) h0 h1
    by_cases hlt : k < s.size
    · have HS := Lib.hid (chk_step a s k hlt)
      have hb := byte_bd s k hlt
      go_wp2
      go_round
      case rel => exact ⟨k + 1, by omega, by go_num, by rw [HS.out]⟩
      case measure => simp [intOf]; omega
    · go_wp2
      go_ret2
      exact ⟨retn_ib (by rw [List.take_of_length_le (by simp; omega)]), rfl⟩
theorem impl_CheckOf_out (a : Int) (s : ByteArray) (w : World) (h : a < 0 ∨ 65002 < a) :
    Calls Try.prog 25 #[.int .i64 a, .string s] w (GivesIB w 0 false) := by
  rcases h with h | h
  · go_enter Try.func25, Try.ntmps25
    go_wp2
    go_ret2
    exact ⟨rfl, rfl⟩
  · have h0 : 0 ≤ a := by omega
    have hd : decide (a ≤ 65002) = false := by simp; omega
    go_enter Try.func25, Try.ntmps25
    go_wp2
    go_ret2
    exact ⟨rfl, rfl⟩

theorem checkOf_same (a : Int) (s : ByteArray) (hs : s.size ≤ 9223372036854775807) : ∃ v b,
    (∀ w, Calls Try.prog 24 #[.int .i64 a, .string s] w (GivesIB w v b)) ∧ (∀ w, Calls Try.prog 25 #[.int .i64 a, .string s] w (GivesIB w v b)) := by
  by_cases h : 0 ≤ a ∧ a ≤ 65002
  · exact ⟨_, _, fun w => spec_CheckOf_in a s w h.1 h.2 hs, fun w => impl_CheckOf_in a s w h.1 h.2 hs⟩
  · exact ⟨_, _, fun w => spec_CheckOf_out a s w (by omega), fun w => impl_CheckOf_out a s w (by omega)⟩
theorem walk_FnExactCheckOf (a : Int) (s : ByteArray) (_ : (Lit.int .i64 a).wf = true) (hs : s.size ≤ maxLen) (w : World) :
    Calls Try.prog 9 #[.int .i64 a, .string s] w fun e w' => e = .returned (.bool true) ∧ Grown w w' := by
  unfold maxLen at hs
  obtain ⟨v, b, h1, h2⟩ := checkOf_same a s hs
  have H1 := Lib.hid h1
  have H2 := Lib.hid h2
  clear h1 h2
  by_cases hc : s.size ≤ 1048576
  · go_enter Try.func9, Try.ntmps9
    go_wp2_with fail
    refine (H1.out _).mono ?_; rintro e w' ⟨rfl, rfl⟩
    go_wp2_with fail
    refine (H2.out _).mono ?_; rintro e w' ⟨rfl, rfl⟩
    go_wp2_with fail
    go_ret
    exact ⟨rfl, Grown.refl _⟩
  · go_enter Try.func9, Try.ntmps9
    go_wp2_with fail
    go_ret
    exact ⟨rfl, Grown.refl _⟩
end Go.Proofs.Ytdaoiclpkedkoaa
