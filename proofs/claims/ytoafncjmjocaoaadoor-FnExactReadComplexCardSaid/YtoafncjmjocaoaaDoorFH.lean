/-
  A hexadecimal word read: the program's fromHex, the reference's number of its digits.
-/
import Derived.Test.YtoafncjmjocaoaaDoorPUint
namespace Go.Proofs.YtoafncjmjocaoaaDoor
open Go Go.RowKit

theorem From32 (n : Int) (w : World) : (callFunc 69 #[.int .u32 n]).run Tryd.prog w = .ok (.value (.float .f32 n.toNat)) w := by
  rw [run_callFunc_extern Tryd.func69 (by kernel_rfl) (by kernel_rfl) (by kernel_rfl) (e := Extern.MathFloatBits.float32frombits) (by kernel_rfl)]
  rfl
/-- a number's bits, and whether it is good. -/
def GivesHx (w : World) (x : Nat) (ok : Bool) (e : Ending) (w' : World) : Prop := e = .returned (.tuple #[.float .f32 x, .bool ok]) ∧ Below w.heap.size w w'
theorem word8_no8 {l : List UInt8} (h : l.length ≠ 8) : fx l = 0 ∧ okx l = false := by
  have : word8 l = false := by unfold word8; rw [decide_eq_false h]; rfl
  unfold fx okx
  rw [this]
  exact ⟨rfl, rfl⟩
theorem word8_noHex {l : List UInt8} (h : l.all isHex = false) : fx l = 0 ∧ okx l = false := by
  have : word8 l = false := by unfold word8; rw [h]; simp
  unfold fx okx
  rw [this]
  exact ⟨rfl, rfl⟩
theorem back_eq (l : List UInt8) (h : word8 l = true) : (hexT (hval 0 l) == l) = okx l := by
  have h1 := back_word h
  unfold okx
  rw [h]
  by_cases hb : bitsN (hval 0 l) = hval 0 l
  · rw [decide_eq_true hb, h1.2 hb]; simp
  · rw [decide_eq_false hb]
    exact beq_false_of_ne fun hh => hb (h1.1 hh)
set_option maxRecDepth 100000 in
set_option maxHeartbeats 1000000 in
theorem impl_fromHex (s : ByteArray) (w : World) (ht : Tz w) :
    Calls Tryd.prog 42 #[.string s] w (GivesHx w (fx s.data.toList) (okx s.data.toList)) := by
  have hsl : s.data.toList.length = s.size := by simp
  by_cases h8 : s.size = 8
  · cases hx : s.data.toList.all isHex with
    | false =>
      have HT : Hid (∃ c r, Lib.trimS s.data.toList hexs = c :: r) := by
        show ∃ c r, _
        have h1 := trim_hex s.data.toList
        rw [hx] at h1
        cases h2 : Lib.trimS s.data.toList hexs with
        | nil => rw [h2] at h1; simp at h1
        | cons c r => exact ⟨c, r, rfl⟩
      obtain ⟨c, r, hcr⟩ := HT.out
      have HC := Lib.hid (trim_callH s)
      rw [hcr] at HC
      obtain ⟨e1, e2⟩ := word8_noHex hx
      rw [e1, e2]
      have hd : ((s.size : Int) != 8) = false := by rw [h8]; rfl
      have hs9 : s.size ≤ 9223372036854775807 := by omega
      clear hx e1 e2 hcr HT ht hsl
      go_enter Tryd.func42, Tryd.ntmps42
      go_wp2_with (go_at_call 51; refine (HC.out _ hs9).mono ?_; rintro e w' ⟨rfl, hb⟩; have HB := Lib.hid hb; clear hb)
      go_ret2
      exact ⟨rfl, HB.out⟩
    | true =>
      have h1 := trim_hex s.data.toList
      rw [hx] at h1
      have h2 : Lib.trimS s.data.toList hexs = [] := by simpa using h1
      have HC := Lib.hid (trim_callH s)
      rw [h2] at HC
      have hw : word8 s.data.toList = true := by unfold word8; rw [hx, decide_eq_true (by omega)]; rfl
      have hfx : fx s.data.toList = hval 0 s.data.toList := by unfold fx; rw [if_pos hw]
      have hlt := word8_lt hw
      have HP := Lib.hid (ParseUint16 s h8 hx)
      have HH := Lib.hid (fun w ht => impl_hex (hval 0 s.data.toList) hlt w ht)
      have HBK := Lib.hid (back_eq s.data.toList hw)
      have HTZ := Lib.hid ht
      rw [hfx]
      have hf := From32
      have hd : ((s.size : Int) != 8) = false := by rw [h8]; rfl
      have hs9 : s.size ≤ 9223372036854775807 := by omega
      generalize hval 0 s.data.toList = n at *
      have hn : (n : Int) < 4294967296 := by omega
      have hwr : IntKind.u32.wrap (n : Int) = (n : Int) := by simp [IntKind.wrap, IntKind.signed, IntKind.bits]; omega
      clear hx h1 h2 hfx hw ht hsl hlt
      go_enter Tryd.func42, Tryd.ntmps42
      go_wp2_with (first
        | (go_at_call 51; refine (HC.out _ hs9).mono ?_; rintro e w' ⟨rfl, hb⟩; have HB := Lib.hid hb; clear hb)
        | (go_at_call 68; refine (HP.out _).mono ?_; rintro e w' ⟨rfl, hb⟩; have HB := Lib.hid (HB.out.trans (hb.mono HB.out.size)); clear hb)
        | (go_at_call 61; refine (HH.out _ (HTZ.out.below HB.out)).mono ?_; rintro e w' ⟨rfl, hb⟩; have HB := Lib.hid (HB.out.trans (hb.mono HB.out.size)); clear hb))
      go_ret2
      exact ⟨by rw [← HBK.out, ← ByteArray.toList_eq]; rfl, HB.out⟩
  · obtain ⟨e1, e2⟩ := word8_no8 (l := s.data.toList) (by omega)
    rw [e1, e2]
    have hd : ((s.size : Int) != 8) = true := by simp; omega
    clear e1 e2 ht hsl
    go_enter Tryd.func42, Tryd.ntmps42
    go_wp2
    go_ret2
    exact ⟨rfl, Below.refl _ _⟩
end Go.Proofs.YtoafncjmjocaoaaDoor
