/-
  A complex number's sixteen digits read: the reference's l01Digits, the program's reader.
-/
import Derived.Test.YtoafncjmjocaoaaDoorFH
import Derived.Test.YtoafncjmjocaoaaDoorRowC
namespace Go.Proofs.YtoafncjmjocaoaaDoor
open Go Go.RowKit

/-- what the reference's reading of eight characters comes to. -/
def sx (l : List UInt8) : Nat := if okx l then hval 0 l else 0
def GivesDg (w : World) (x : Nat) (ok : Bool) (e : Ending) (w' : World) : Prop := e = .returned (.tuple #[.float .f32 x, .bool ok]) ∧ w' = w
theorem sx_bad {l : List UInt8} (h : okx l = false) : sx l = 0 := by unfold sx; rw [h]; rfl
set_option maxRecDepth 100000 in
set_option maxHeartbeats 1000000 in
theorem spec_l01Digits (q : ByteArray) (h8 : q.size = 8) (w : World) :
    Calls Tryd.prog 70 #[.string q] w (GivesDg w (sx q.data.toList) (okx q.data.toList)) := by
  have hql : q.data.toList.length = 8 := by simpa using h8
  go_enter Tryd.func70, Tryd.ntmps70
  go_wp2
  go_loop [4, 5] (fun n i => ∃ (j : Nat) (acc : Int), j ≤ 8 ∧ n = .int .i64 acc ∧ i = .int .i64 j ∧ 0 ≤ acc ∧ acc ≤ 4294967295 ∧ Hid (acc = (hval 0 (q.data.toList.take j) : Nat) ∧ (q.data.toList.take j).all isHex = true)) (fun _ i => 8 - (RowKit.intOf i).toNat)
  case atStart => exact ⟨0, 0, by omega, rfl, rfl, by omega, by omega, rfl, rfl⟩
  case round =>
    obtain ⟨j, acc, hj, rfl, rfl, ha0, ha1, hh⟩ := hrel
    obtain ⟨hacc, hall⟩ := hh.out
    have HALL := Lib.hid hall
    by_cases hj8 : j < 8
    · have hjs : j < q.size := by omega
      have hst := hval_step q.data.toList j (by omega)
      have hsa : (q.data.toList.take (j + 1)).all isHex = ((q.data.toList.take j).all isHex && isHex q[j]) := by
        rw [take_snocH q j hjs, List.all_append]; simp
      have hqj : q.data.toList[j]'(by omega) = q[j] := rfl
      rw [hqj] at hst
      by_cases hx : isHex q[j] = true
      · have hb := hval_bound (q.data.toList.take (j + 1)) (by rw [hsa, hall, hx]; rfl) (j + 1) (by rw [List.length_take]; omega)
        rw [List.take_take, Nat.min_self] at hb
        have hnew : hval 0 (q.data.toList.take (j + 1)) < 4294967296 := Nat.lt_of_lt_of_le hb (by rw [show 4294967296 = 16 ^ 8 from rfl]; exact Nat.pow_le_pow_right (by decide) (by omega))
        have HALL2 : Hid ((q.data.toList.take (j + 1)).all isHex = true) := by show _ = true; rw [hsa, hall, hx]; rfl
        obtain ⟨nx, hnx⟩ : ∃ nx, nx = hval 0 (q.data.toList.take (j + 1)) := ⟨_, rfl⟩
        rw [← hnx] at hst hnew
        have HNX := Lib.hid hnx
        rcases isHex_cases hx with ⟨hd0, hd1⟩ | ⟨hd0, hd1⟩
        · have hdv : digV q[j] = q[j].toNat - 48 := by unfold digV; rw [if_pos hd1]
          rw [hdv] at hst
          have HN : Hid (16 * acc + ((q[j].toNat : Int) - 48) = (nx : Int)) := Lib.hid (by omega)
          have iov : 16 * acc + ((q[j].toNat : Int) - 48) ≤ 4294967295 := by omega
          clear hst hdv hx hnew hacc hall hb hsa hqj hnx hh
          go_wp2
          go_round
          case rel => exact ⟨j + 1, _, by omega, rfl, by go_num, by omega, by have := HN.out; omega, HN.out.trans (by rw [HNX.out]), HALL2.out⟩
          case measure => simp [RowKit.intOf] <;> omega
        · have hdv : digV q[j] = q[j].toNat - 87 := by unfold digV; rw [if_neg (by omega)]
          rw [hdv] at hst
          have HN : Hid (16 * acc + ((q[j].toNat : Int) - 97 + 10) = (nx : Int)) := Lib.hid (by omega)
          have iov : 16 * acc + ((q[j].toNat : Int) - 97 + 10) ≤ 4294967295 := by omega
          clear hst hdv hx hnew hacc hall hb hsa hqj hnx hh
          go_wp2
          go_round
          case rel => exact ⟨j + 1, _, by omega, rfl, by go_num, by omega, by have := HN.out; omega, HN.out.trans (by rw [HNX.out]), HALL2.out⟩
          case measure => simp [RowKit.intOf] <;> omega
      · have hxf : isHex q[j] = false := by simpa using hx
        have hbad : q.data.toList.all isHex = false := by
          rw [List.all_eq_false]
          exact ⟨q[j], List.getElem_mem (by omega), by rw [hxf]; decide⟩
        have HOK := Lib.hid (word8_noHex hbad).2
        have hcase : q[j].toNat < 48 ∨ (57 < q[j].toNat ∧ q[j].toNat < 97) ∨ 102 < q[j].toNat := by
          have hi : ¬ ((48 ≤ q[j].toNat ∧ q[j].toNat ≤ 57) ∨ (97 ≤ q[j].toNat ∧ q[j].toNat ≤ 102)) := by
            intro hc
            apply hx
            unfold isHex
            simpa using hc
          omega
        clear hst hx hxf hbad hacc hall hsa hqj hh
        rcases hcase with hc1 | ⟨hc1, hc2⟩ | hc1
        all_goals
          go_wp2
          go_ret2
          rw [sx_bad HOK.out, HOK.out]
          exact ⟨rfl, rfl⟩
    · obtain rfl : j = 8 := by omega
      have hw : word8 q.data.toList = true := by
        rw [List.take_of_length_le (by omega)] at hall
        unfold word8
        rw [hall, decide_eq_true hql]; rfl
      have hlt := word8_lt hw
      rw [List.take_of_length_le (by omega)] at hacc
      have HOK : Hid (okx q.data.toList = decide (bitsN (hval 0 q.data.toList) = hval 0 q.data.toList)) := by
        show _ = _
        unfold okx; rw [hw]; rfl
      have HSX : Hid (okx q.data.toList = true → sx q.data.toList = hval 0 q.data.toList) := by
        intro ho
        unfold sx; rw [if_pos ho]
      have HSB := Lib.hid (fun w => spec_l01Bits (hval 0 q.data.toList) (by omega) w)
      generalize hval 0 q.data.toList = n at *
      subst hacc
      have hn2 : (n : Int) < 4294967296 := by omega
      have hwr : IntKind.u32.wrap (n : Int) = (n : Int) := by simp [IntKind.wrap, IntKind.signed, IntKind.bits]; omega
      have hf := From32
      clear hw hlt hall hh hql
      by_cases hbn : bitsN n = n
      · have hok : okx q.data.toList = true := by rw [HOK.out]; exact decide_eq_true hbn
        have HV := Lib.hid hok
        have hcb : (((bitsN n : Nat) : Int) != (n : Int)) = false := by rw [hbn]; simp
        clear hok
        go_wp2_with (first
          | (go_at_call 66; go_in)
          | (go_at_call 67; refine (HSB.out _).mono ?_; rintro e w2 ⟨rfl, hw⟩; have hw2 := hw.symm; subst hw2))
        go_ret2
        rw [HSX.out HV.out, HV.out]
        exact ⟨rfl, rfl⟩
      · have hok : okx q.data.toList = false := by rw [HOK.out]; exact decide_eq_false hbn
        have HV := Lib.hid hok
        have hcb : (((bitsN n : Nat) : Int) != (n : Int)) = true := by simp; omega
        clear hok
        go_wp2_with (first
          | (go_at_call 66; go_in)
          | (go_at_call 67; refine (HSB.out _).mono ?_; rintro e w2 ⟨rfl, hw⟩; have hw2 := hw.symm; subst hw2))
        go_ret2
        rw [sx_bad HV.out, HV.out]
        exact ⟨rfl, rfl⟩
/-- a complex number's word: what the program's reader comes to. -/
def okC (l : List UInt8) : Bool := decide (l.length = 16) && (okx (l.take 8) && okx ((l.drop 8).take 8))
def hexc (l : List UInt8) : Option (Nat × Nat) := if okC l then some (hval 0 (l.take 8), hval 0 ((l.drop 8).take 8)) else none
def GivesCx (w : World) (o : Option (Nat × Nat)) (e : Ending) (w' : World) : Prop := ∃ a b, e = .returned (.tuple #[.complex .f32 a b, .bool o.isSome]) ∧ (∀ x, o = some x → a = x.1 ∧ b = x.2) ∧ Below w.heap.size w w'
theorem hexc_16 {l : List UInt8} (h : l.length = 16) : hexc l = if (okx (l.take 8) && okx ((l.drop 8).take 8)) = true then some (hval 0 (l.take 8), hval 0 ((l.drop 8).take 8)) else none := by
  unfold hexc okC
  rw [decide_eq_true h]
  rfl
theorem fx_ok {l : List UInt8} (h : okx l = true) : fx l = hval 0 l := by
  unfold fx
  unfold okx at h
  simp at h
  rw [if_pos h.1]
theorem sx_ok {l : List UInt8} (h : okx l = true) : sx l = hval 0 l := by
  unfold sx
  rw [if_pos h]
set_option maxHeartbeats 1000000 in
theorem impl_cx (s : ByteArray) (w : World) (ht : Tz w) :
    Calls Tryd.prog 46 #[.string s] w (GivesCx w (hexc s.data.toList)) := by
  have hsl : s.data.toList.length = s.size := by simp
  by_cases h16 : s.size = 16
  · have hd : ((s.size : Int) != 16) = false := by rw [h16]; rfl
    have HT := Lib.hid ht
    have HB := Lib.hid (Below.refl w.heap.size w)
    clear ht
    go_enter Tryd.func46, Tryd.ntmps46
    go_wp2_with (go_at_call 42; refine (impl_fromHex _ _ (HT.out.below HB.out)).mono ?_; rintro e w' ⟨rfl, hb⟩; have HB := Lib.hid (HB.out.trans (hb.mono HB.out.size)); clear hb)
    · rename_i hA
      go_ret2
      have e := hexc_16 (l := s.data.toList) (by omega)
      rw [hA, Bool.true_and] at e
      cases hB : okx ((s.data.toList.drop 8).take 8) with
      | true =>
        rw [hB, if_pos rfl] at e
        rw [e]
        exact ⟨_, _, rfl, fun x hx => by cases hx; exact ⟨fx_ok hA, fx_ok hB⟩, HB.out⟩
      | false =>
        rw [hB, if_neg (by decide)] at e
        rw [e]
        exact ⟨_, _, rfl, fun x hx => (by cases hx), HB.out⟩
    · rename_i hA
      go_ret2
      have e := hexc_16 (l := s.data.toList) (by omega)
      rw [show okx (s.data.toList.take 8) = false by simpa using hA, Bool.false_and, if_neg (by decide)] at e
      rw [e]
      exact ⟨_, _, rfl, fun x hx => (by cases hx), HB.out⟩
  · have hd : ((s.size : Int) != 16) = true := by simp; omega
    have HN : Hid (hexc s.data.toList = none) := by
      show _ = none
      unfold hexc okC
      rw [decide_eq_false (by omega)]; rfl
    clear ht hsl
    go_enter Tryd.func46, Tryd.ntmps46
    go_wp2
    go_ret2
    rw [HN.out]
    exact ⟨0, 0, rfl, fun _ h => (by cases h), Below.refl _ _⟩
end Go.Proofs.YtoafncjmjocaoaaDoor
