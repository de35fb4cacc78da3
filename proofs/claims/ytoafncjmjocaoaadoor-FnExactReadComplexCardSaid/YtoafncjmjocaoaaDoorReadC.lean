/-
  The walk of the law of ReadComplex (printed by mkc.py out of that of ReadNumbers).
-/
import Derived.Test.YtoafncjmjocaoaaDoorListOfC
namespace Go.Proofs.YtoafncjmjocaoaaDoor
open Go Go.RowKit

theorem rdc_len {l : List UInt8} {xs : List (Nat × Nat)} (h : rdc l = some xs) : xs.length ≤ 256 := by
  unfold rdc at h
  split at h
  · cases h; simp
  · split at h
    · rename_i hc
      rw [mapM_lengthC _ _ h]
      exact hc
    · cases h
theorem below_drewNR {B : Nat} {a w : World} (h : Below B a w) (n : Nat) : Below B a (w.drewN n) := ⟨h.os, h.tape, h.output, h.size, h.block⟩
theorem row_nil (w : World) (a : Option Addr) : RowC w a [] := fun i hi => absurd hi (by simp)
theorem mark_nil (w : World) : Calls Tryd.prog 24 #[.slice none 0 0, .int .i64 1] w fun e w' => e = .returned (.int .i64 1) ∧ w' = w := by
  go_enter Tryd.func24, Tryd.ntmps24
  go_wp2
  go_loopw [1, 5] (fun m i wr => m = .int .i64 1 ∧ i = .int .i64 0 ∧ wr = w) (fun _ _ _ => 0)
  case atStart => exact ⟨rfl, rfl, rfl⟩
  case round =>
    obtain ⟨rfl, rfl, rfl⟩ := hrel
    go_wp2
    go_ret
    exact ⟨rfl, rfl⟩
theorem impl_mid {w0 : World} {m : Int} (s : ByteArray) (hm : s.size ≤ 1048576) (hv : w0.cell? ⟨6, 0, none⟩ = some (.int .i64 m)) (hvars : Tz w0) (w : World) (hb : Below w0.heap.size w0 w) :
    Calls Tryd.prog 22 #[.string s] w (GivesRC w (rdc s.data.toList)) :=
  impl_ReadComplex s hm m w ((hb.cell (p := ⟨6, 0, none⟩) (World.block_lt_of_cell? _ _ hv)).trans hv) (hvars.below hb)
set_option maxHeartbeats 1000000 in
theorem law_none (s : ByteArray) (hm : s.size ≤ 1048576) (m : Int) (w : World) (hv : w.cell? ⟨6, 0, none⟩ = some (.int .i64 m)) (hvars : Tz w) (hr : rdc s.data.toList = none) :
    Calls Tryd.prog 5 #[.string s] w fun e w' => e = .returned (.bool true) ∧ Below w.heap.size w w' := by
  have hd : decide ((s.size : Int) > 1048576) = false := by simp; omega
  have HI := Lib.hid (fun w' hb => impl_mid s hm hv hvars w' hb)
  have HS := Lib.hid (fun w => spec_ReadComplex s hm w)
  rw [hr] at HI HS
  have HB := Lib.hid (Below.refl w.heap.size w)
  clear hv hvars hr
  go_enter Tryd.func5, Tryd.ntmps5
  go_wp2_with (first
    | (go_at_call 21
       refine (HS.out _).mono ?_
       rintro e w' ⟨rfl, hb⟩
       have HB := Lib.hid (HB.out.trans (hb.mono HB.out.size))
       clear hb)
    | (go_at_call 22
       refine (HI.out _ ?_).mono ?_
       first | exact HB.out | exact below_drewNR HB.out _
       rintro e w' ⟨rfl, hb⟩
       first | have HB := Lib.hid (HB.out.trans (hb.mono HB.out.size)) | have HB := Lib.hid ((below_drewNR HB.out _).trans (hb.mono HB.out.size))
       clear hb)
    | (go_at_call 23
       refine (eqC_any none none 0 0 [] (by decide) _ (row_nil _ _) (row_nil _ _)).mono ?_
       rintro e w' ⟨rfl, n4, rfl⟩)
    | (go_at_call 24
       refine (mark_nil _).mono ?_
       rintro e w' ⟨rfl, rfl⟩)
    | (go_at_call 25
       refine (held_anyC none 0 1 0 (by decide) (by decide) _ (row_nil _ _)).mono ?_
       rintro e w' ⟨rfl, rfl⟩))
  go_ret
  exact ⟨rfl, below_drewNR HB.out _⟩
theorem RowC.belowAt {B : Nat} {w w' : World} {b : Nat} {xs : List (Nat × Nat)} (h : RowC w (some ⟨b, 0, none⟩) xs) (hb : Below B w w') (hlt : b < B) : RowC w' (some ⟨b, 0, none⟩) xs := by
  intro i hi
  obtain ⟨b', off, ha, hc⟩ := h i hi
  simp only [Option.some.injEq, Addr.mk.injEq] at ha
  obtain ⟨rfl, rfl, _⟩ := ha
  exact ⟨b, 0, rfl, (hb.cell (p := ⟨b, 0 + i, none⟩) hlt).trans hc⟩
theorem ownC_lt {B : Nat} {w : World} {g cap : Nat} {xs : List (Nat × Nat)} (h : OwnC B w g cap xs) : g < w.heap.size := by
  rcases h.2 with ⟨h0, _⟩ | ⟨g', cap', cur, h1, h2, h3, _⟩
  · cases h0
  · simp only [Value.slice.injEq, Option.some.injEq, Addr.mk.injEq] at h1
    rw [← h1.1.1] at h3
    rcases Nat.lt_or_ge g w.heap.size with h' | h'
    · exact h'
    · rw [Array.getElem?_eq_none h'] at h3; cases h3
theorem mark_one (g cap : Nat) (xs : List (Nat × Nat)) (hl : xs.length ≤ 256) (w : World) (ho : ∃ B, OwnC B w g cap xs) :
    Calls Tryd.prog 24 #[.slice (some ⟨g, 0, none⟩) xs.length cap, .int .i64 1] w fun e w' => e = .returned (.int .i64 ((1 + xs.length : Nat) : Int)) ∧ RowC w' (some ⟨g, 0, none⟩) (marksC 1 xs.length) ∧ Below g w w' := by
  obtain ⟨B, ho⟩ := ho
  exact (mark_anyC B g cap 1 xs (by omega) (by decide) w ho).mono fun _ _ ⟨h1, h2, h3⟩ => ⟨h1, ownC_row (by unfold OwnC; rw [marksC_len]; unfold OwnC at h2; rw [marksC_len] at h2; exact h2), h3⟩
theorem held_one (a : Option Addr) (cap n : Nat) (hl : n ≤ 256) (w : World) (hr : RowC w a (marksC 1 n)) :
    Calls Tryd.prog 25 #[.slice a n cap, .int .i64 1] w fun e w' => e = .returned (.int .i64 ((1 + n : Nat) : Int)) ∧ w' = w := held_anyC a cap 1 n (by omega) (by decide) w hr
set_option maxHeartbeats 1000000 in
theorem law_some (s : ByteArray) (hm : s.size ≤ 1048576) (m : Int) (w : World) (hv : w.cell? ⟨6, 0, none⟩ = some (.int .i64 m)) (hvars : Tz w) (xs : List (Nat × Nat)) (hr : rdc s.data.toList = some xs) :
    Calls Tryd.prog 5 #[.string s] w fun e w' => e = .returned (.bool true) ∧ Below w.heap.size w w' := by
  have hd : decide ((s.size : Int) > 1048576) = false := by simp; omega
  have hl := rdc_len hr
  have HI := Lib.hid (fun w' hb => impl_mid s hm hv hvars w' hb)
  have HS := Lib.hid (spec_ReadComplex s hm w)
  rw [hr] at HI HS
  clear hv hvars hr
  go_enter Tryd.func5, Tryd.ntmps5
  go_wp2_with (first
    | (go_at_call 21
       refine HS.out.mono ?_
       rintro e w1 ⟨gw, cw, rfl, ho, hb⟩
       have HW := Lib.hid (ownC_row ho)
       have HWL := Lib.hid (ownC_lt ho)
       have HB := Lib.hid hb
       clear ho hb)
    | (go_at_call 22
       refine (HI.out _ ?_).mono ?_
       first | exact HB.out | exact below_drewNR HB.out _
       rintro e w2 ⟨g0, c0, rfl, ho, hb⟩
       first
       | (have HMK := Lib.hid (HMK.out.below hb)
          have HW := Lib.hid (HW.out.below hb)
          have HH := Lib.hid (ownC_row ho)
          have HB := Lib.hid (HB.out.trans (hb.mono HB.out.size)))
       | (have HG := Lib.hid ho
          have HW := Lib.hid (HW.out.below hb)
          have HWG := Lib.hid (Nat.lt_of_lt_of_le HWL.out (ownC_ge ho))
          have HWB := Lib.hid (Nat.le_trans HB.out.size (ownC_ge ho))
          have HB := Lib.hid (HB.out.trans (hb.mono HB.out.size)))
       clear ho hb)
    | (go_at_call 23
       first
       | (refine (eqC_any _ _ _ _ xs (by omega) _ ?_ ?_).mono ?_; exact HH.out; exact HW.out)
       | (refine (eqC_any _ _ _ _ xs (by omega) _ ?_ ?_).mono ?_; exact ownC_row HG.out; exact HW.out)
       rintro e w' ⟨rfl, n4, rfl⟩)
    | (go_at_call 24
       refine (mark_one _ _ xs hl _ ?_).mono ?_
       exact ⟨_, HG.out⟩
       rintro e w3 ⟨rfl, ho, hb⟩
       have HMK := Lib.hid ho
       have HW := Lib.hid ((HW.out.drewN _).belowAt hb HWG.out)
       have HB := Lib.hid ((below_drewNR HB.out _).trans (hb.mono HWB.out))
       clear ho hb)
    | (go_at_call 25
       refine (held_one _ _ xs.length hl _ ?_).mono ?_
       exact HMK.out
       rintro e w' ⟨rfl, hw⟩
       have hw2 := hw.symm
       subst hw2))

  go_ret
  exact ⟨rfl, below_drewNR HB.out _⟩
theorem walk_FnExactReadComplex (s : ByteArray) (w : World) (_ : s.size ≤ maxLen) (m : Int) (hmx : w.cell? ⟨6, 0, none⟩ = some (.int .i64 m)) (hL : laidMet Tryd.prog Rows.fnExactReadComplexRow.laid w) :
    Calls Tryd.prog 5 #[.string s] w fun e w' => e = .returned (.bool true) ∧ Below w.heap.size w w' := by
  by_cases hm : s.size ≤ 1048576
  · have hv : Tz w := tz_of_laid hL.tail
    cases hq : rdc s.data.toList with
    | none => exact law_none s hm m w hmx hv hq
    | some xs => exact law_some s hm m w hmx hv xs hq
  · have hd : decide ((s.size : Int) > 1048576) = true := by simp; omega
    clear hL
    go_enter Tryd.func5, Tryd.ntmps5
    go_wp2
    go_ret
    exact ⟨rfl, Below.refl _ _⟩
end Go.Proofs.YtoafncjmjocaoaaDoor
