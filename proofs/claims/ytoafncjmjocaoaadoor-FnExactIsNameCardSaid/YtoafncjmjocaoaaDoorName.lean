/-
  IsName, of the program (by the library's Trim) and of the reference, and the law's walk.
-/
import Derived.Test.YtoafncjmjocaoaaDoorChecked
import Derived.Test.YtoafncjmjocaoaaDoorRows
import Derived.Test.YtoafncjmjocaoaaDoorShelf3
import Derived.WalkKit
import Derived.WalkSpells
import Derived.WalkLawsBesides
import Derived.Lib.Hide
import Derived.Handy
namespace Go.Proofs.YtoafncjmjocaoaaDoor
open Go Go.RowKit

def low (c : UInt8) : Bool := decide (97 ≤ c.toNat) && decide (c.toNat ≤ 122)
def lows : List UInt8 := [97, 98, 99, 100, 101, 102, 103, 104, 105, 106, 107, 108, 109, 110, 111, 112, 113, 114, 115, 116, 117, 118, 119, 120, 121, 122]
theorem lows_nat : ∀ n, n < 256 → lows.contains (UInt8.ofNat n) = low (UInt8.ofNat n) := by decide +kernel
theorem lows_has (c : UInt8) : lows.contains c = low c := by
  have h := lows_nat c.toNat c.toNat_lt
  rwa [UInt8.ofNat_toNat] at h
theorem dw_nil (p : UInt8 → Bool) (l : List UInt8) : l.dropWhile p = [] ↔ ∀ x ∈ l, p x = true := by
  induction l with
  | nil => simp
  | cons c l ih =>
    rw [List.dropWhile_cons]
    cases hc : p c with
    | true => simp [hc, ih]
    | false => simp [hc]
theorem dw_head (p : UInt8 → Bool) (l : List UInt8) (c : UInt8) (r : List UInt8) (h : l.dropWhile p = c :: r) : p c = false := by
  induction l with
  | nil => simp at h
  | cons d l ih =>
    rw [List.dropWhile_cons] at h
    cases hd : p d with
    | true => rw [hd] at h; exact ih h
    | false =>
      rw [hd] at h
      simp at h
      rw [← h.1]
      exact hd
theorem trim_nil (l : List UInt8) : (Lib.trimS l lows == []) = l.all low := by
  have hp : (fun c => lows.contains c) = low := funext lows_has
  unfold Lib.trimS Lib.trimLeftS Lib.trimRightS
  rw [hp]
  rw [Bool.eq_iff_iff, beq_iff_eq, List.all_eq_true]
  constructor
  · intro h x hx
    rw [dw_nil] at h
    cases hm : l.reverse.dropWhile low with
    | nil =>
      rw [dw_nil] at hm
      exact hm x (List.mem_reverse.2 hx)
    | cons c r =>
      have h1 := h c (by rw [hm]; simp)
      have h2 : low c = false := dw_head _ _ _ _ hm
      rw [h1] at h2
      cases h2
  · intro h
    have : l.reverse.dropWhile low = [] := (dw_nil _ _).2 fun x hx => h x (List.mem_reverse.1 hx)
    rw [this]
    rfl
def isName (l : List UInt8) : Bool := l.all low && (decide (1 ≤ l.length) && decide (l.length ≤ 8))
theorem trim_call (s : ByteArray) (w : World) (hs : s.size ≤ 9223372036854775807) :
    Calls Tryd.prog 51 #[.string s, .string ⟨lows.toArray⟩] w fun e w' => e = .returned (.string ⟨(Lib.trimS s.data.toList lows).toArray⟩) ∧ Below w.heap.size w w' :=
  Any.strings_Trim_laid Tryd.lays160 (by kernel_rfl) s ⟨lows.toArray⟩ w hs (by decide) (ascii_of_all (by decide))
def GivesN (w : World) (b : Bool) (e : Ending) (w' : World) : Prop := e = .returned (.bool b) ∧ Below w.heap.size w w'
theorem take_snocN (s : ByteArray) (k : Nat) (h : k < s.size) : s.data.toList.take (k + 1) = s.data.toList.take k ++ [s[k]] := by
  rw [List.take_succ_eq_append_getElem (by simpa using h)]; rfl
theorem all_step (s : ByteArray) (k : Nat) (h : k < s.size) : (s.data.toList.take (k + 1)).all low = ((s.data.toList.take k).all low && low s[k]) := by
  rw [take_snocN s k h, List.all_append]
  simp
theorem all_notN (s : ByteArray) (k : Nat) (h : k < s.size) (hl : low s[k] = false) : isName s.data.toList = false := by
  have : s.data.toList.all low = false := by
    rw [List.all_eq_false]
    exact ⟨s[k], List.getElem_mem (by simpa using h), by rw [hl]; decide⟩
  unfold isName
  rw [this]
  rfl
set_option maxHeartbeats 400000 in
theorem spec_IsName (s : ByteArray) (w : World) (hm : s.size ≤ 1048576) :
    Calls Tryd.prog 28 #[.string s] w (GivesN w (isName s.data.toList)) := by
  go_enter Tryd.func28, Tryd.ntmps28
  go_wp2
  go_loop [3] (fun i => ∃ k : Nat, k ≤ s.size ∧ i = .int .i64 k ∧ (s.data.toList.take k).all low = true) (fun i => s.size - (intOf i).toNat)
  case atStart => exact ⟨0, Nat.zero_le _, rfl, rfl⟩
  case round =>
    obtain ⟨k, hk, rfl, ha⟩ := hrel
    have HA := Lib.hid ha
    clear ha
    by_cases hlt : k < s.size
    · have HS := Lib.hid (all_step s k hlt)
      have HN := Lib.hid (all_notN s k hlt)
      by_cases h1 : s[k].toNat < 97
      · have HL : Hid (low s[k] = false) := by show low s[k] = false; unfold low; rw [decide_eq_false (by omega)]; rfl
        go_wp2
        go_ret
        exact ⟨by rw [HN.out HL.out]; rfl, Below.refl _ _⟩
      · by_cases h2 : s[k].toNat > 122
        · have HL : Hid (low s[k] = false) := by show low s[k] = false; unfold low; rw [decide_eq_false (p := s[k].toNat ≤ 122) (by omega)]; simp
          go_wp2
          go_ret
          exact ⟨by rw [HN.out HL.out]; rfl, Below.refl _ _⟩
        · have HL : Hid (low s[k] = true) := by show low s[k] = true; unfold low; rw [decide_eq_true (by omega), decide_eq_true (by omega)]; rfl
          go_wp2
          go_round
          case rel => exact ⟨k + 1, by omega, by go_num, by rw [HS.out, HA.out, HL.out]; rfl⟩
          case measure => simp [intOf]; omega
    · obtain rfl : k = s.size := by omega
      have hn : isName s.data.toList = (decide (1 ≤ s.size) && decide (s.size ≤ 8)) := by
        have h := HA.out
        rw [List.take_of_length_le (by simp)] at h
        unfold isName
        rw [h]
        simp
      have HN := Lib.hid hn
      clear hn
      by_cases h1 : 1 ≤ s.size
      · by_cases h2 : s.size ≤ 8
        · have HE : Hid ((decide (1 ≤ s.size) && decide (s.size ≤ 8)) = true) := by show _ = true; rw [decide_eq_true h1, decide_eq_true h2]; rfl
          go_wp2
          go_ret
          exact ⟨by rw [HN.out, HE.out]; simp <;> omega, Below.refl _ _⟩
        · have HE : Hid ((decide (1 ≤ s.size) && decide (s.size ≤ 8)) = false) := by show _ = false; rw [decide_eq_false h2]; simp
          go_wp2
          go_ret
          exact ⟨by rw [HN.out, HE.out]; simp <;> omega, Below.refl _ _⟩
      · have HE : Hid ((decide (1 ≤ s.size) && decide (s.size ≤ 8)) = false) := by show _ = false; rw [decide_eq_false h1]; simp
        go_wp2
        go_ret
        exact ⟨by rw [HN.out, HE.out]; simp <;> omega, Below.refl _ _⟩
set_option maxHeartbeats 400000 in
theorem impl_IsName (s : ByteArray) (w : World) (hm : s.size ≤ 1048576) :
    Calls Tryd.prog 29 #[.string s] w (GivesN w (isName s.data.toList)) := by
  by_cases h1 : 1 ≤ s.size
  · by_cases h2 : s.size ≤ 8
    · have hn : isName s.data.toList = s.data.toList.all low := by
        unfold isName
        simp
        intro _
        omega
      have HT := Lib.hid (trim_call s)
      have HN := Lib.hid hn
      have HQ := Lib.hid (trim_nil s.data.toList)
      clear hn
      go_enter Tryd.func29, Tryd.ntmps29
      go_wp2_with (first
        | (go_at_call 50; go_in)
        | (go_at_call 51; refine (HT.out _ (by omega)).mono ?_; rintro e w' ⟨rfl, hb⟩; have HB := Lib.hid hb; clear hb))
      go_ret
      exact ⟨by rw [HN.out, ← HQ.out]; show Ending.returned (.bool (Lib.trimS s.data.toList lows).isEmpty) = _; cases Lib.trimS s.data.toList lows <;> rfl, HB.out⟩
    · have hn : Hid (isName s.data.toList = false) := by
        show _ = false
        unfold isName
        rw [decide_eq_false (p := s.data.toList.length ≤ 8) (by simpa using h2)]
        simp
      have hd : decide ((s.size : Int) ≤ 8) = false := by simp; omega
      go_enter Tryd.func29, Tryd.ntmps29
      go_wp2_with (go_at_call 50; go_in)
      go_ret
      exact ⟨by rw [hn.out]; rfl, Below.refl _ _⟩
  · have hn : Hid (isName s.data.toList = false) := by
      show _ = false
      unfold isName
      rw [decide_eq_false (p := 1 ≤ s.data.toList.length) (by simpa using h1)]
      simp
    have hd : decide ((1 : Int) ≤ (s.size : Int)) = false := by simp; omega
    go_enter Tryd.func29, Tryd.ntmps29
    go_wp2_with (go_at_call 50; go_in)
    go_ret
    exact ⟨by rw [hn.out]; rfl, Below.refl _ _⟩
theorem walk_FnExactIsName (s : ByteArray) (w : World) (_ : s.size ≤ maxLen) (_hL : laidMet Tryd.prog Rows.fnExactIsNameRow.laid w) :
    Calls Tryd.prog 7 #[.string s] w fun e w' => e = .returned (.bool true) ∧ Below w.heap.size w w' := by
  clear _hL
  by_cases hm : s.size ≤ 1048576
  · have hd : decide ((s.size : Int) > 1048576) = false := by simp; omega
    go_enter Tryd.func7, Tryd.ntmps7
    go_wp2_with (first
      | (go_at_call 28; refine (spec_IsName _ _ hm).mono ?_; rintro e w' ⟨rfl, hb⟩; have HB := Lib.hid hb; clear hb)
      | (go_at_call 29; refine (impl_IsName _ _ hm).mono ?_; rintro e w'' ⟨rfl, hb⟩; have HB2 := Lib.hid hb; clear hb))
    go_ret
    exact ⟨rfl, HB.out.trans (HB2.out.mono HB.out.size)⟩
  · have hd : decide ((s.size : Int) > 1048576) = true := by simp; omega
    go_enter Tryd.func7, Tryd.ntmps7
    go_wp2
    go_ret
    exact ⟨rfl, Below.refl _ _⟩
end Go.Proofs.YtoafncjmjocaoaaDoor
