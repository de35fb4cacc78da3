/-
  The walk of the law of RowOfGrains (printed by mkgl.py).
-/
import Derived.Test.YtlolmopfeglifaaGrM
namespace Go.Proofs.Ytlolmopfeglifaa
open Go Go.RowKit

theorem hp_true {w : World} {r m : Nat} {qs : List (Nat × Nat)} {e : Ending} {w' : World} (h : GivesHp w true r m qs e w') : ∃ a n c ps, e = .returned (.tuple #[.agg #[.slice a n c], .bool true]) ∧ FE2 ps qs ∧ OwnG w.heap.size w' (.slice a n c) r m ps ∧ Below w.heap.size w w' := h
theorem hp_false {w : World} {r m : Nat} {qs : List (Nat × Nat)} {e : Ending} {w' : World} (h : GivesHp w false r m qs e w') : e = .returned (.tuple #[.agg #[.slice none 0 0], .bool false]) ∧ Below w.heap.size w w' := h
theorem rowG_nil (w : World) (a : Option Addr) (r m : Nat) : RowG w a r m [] := fun i hi => absurd hi (by simp)
theorem rowM_nil (w : World) (a : Option Addr) : RowM w a 0 := fun i hi => absurd hi (by omega)
theorem own_addr {B : Nat} {w : World} {a : Option Addr} {n c r m : Nat} {ps : List (Nat × Nat)} (h : OwnG B w (.slice a n c) r m ps) (hp : 0 < ps.length) : ∃ g, a = some ⟨g, 0, none⟩ ∧ B ≤ g ∧ g < w.heap.size := by
  rcases h.2 with ⟨_, h1⟩ | ⟨g, cap, cur, h1, h2, h3, _⟩
  · omega
  · simp only [Value.slice.injEq] at h1
    obtain ⟨rfl, _, _⟩ := h1
    exact ⟨g, rfl, h2, (Array.getElem?_eq_some_iff.1 h3).1⟩
theorem FE2.symm {ps qs : List (Nat × Nat)} (h : FE2 ps qs) : FE2 qs ps := ⟨h.1.symm, fun i h1 h2 => ⟨(h.2 i h2 h1).1.symm, (h.2 i h2 h1).2.symm⟩⟩
theorem FE2.trans {ps qs rs : List (Nat × Nat)} (h : FE2 ps qs) (k : FE2 qs rs) : FE2 ps rs := ⟨h.1.trans k.1, fun i h1 h2 => ⟨(h.2 i h1 (h.1 ▸ h1)).1.trans (k.2 i (h.1 ▸ h1) h2).1, (h.2 i h1 (h.1 ▸ h1)).2.trans (k.2 i (h.1 ▸ h1) h2).2⟩⟩
theorem okRow_len {n : Int} {r gap m : Nat} (h : okRow n r gap m = true) : 0 < (rowL r gap n.toNat).length ∧ (rowL r gap n.toNat).length ≤ 24 := by
  unfold okRow at h
  simp at h
  rw [rowL_len]
  omega
set_option maxHeartbeats 4000000 in
theorem law_Row_false (n : Int) (r gap m : Nat) (hok : okRow n r gap m = false) (w : World) :
    Calls Try.prog 3 #[.int .i64 n, .float .f32 r, .float .f32 gap, .float .f32 m] w fun e w' => e = .returned (.bool true) ∧ Below w.heap.size w w' := by
  have hS := fun w => spec_RowOfGrains n r gap m w
  have hI := fun w => impl_RowOfGrains n r gap m w
  rw [hok] at hS hI
  have HS := Lib.hid hS
  have HI := Lib.hid hI
  clear hS hI hok
  go_enter Try.func3, Try.ntmps3
  go_wp2_with fail
  refine (HS.out _).mono fun e w1 h => ?_
  obtain ⟨rfl, hb⟩ := hp_false h
  have HB1 := Lib.hid hb
  clear h hb
  go_wp2_with fail
  refine (HI.out _).mono fun e w2 h => ?_
  obtain ⟨rfl, hb⟩ := hp_false h
  have HV0 := Lib.hid (HV.below (HV.new w1 (.slice none 0 0)) hb)
  have h0 := HV0.out.cell
  have hl0 := HV0.out.lt
  have HB2 := Lib.hid ((HB1.out.alloc HB1.out.size _).trans (hb.mono (Nat.le_trans HB1.out.size (by simp))))
  clear h hb
  go_wp2_with fail
  refine (eqHeap_ok none none 0 0 r m [] [] (by decide) FE2.nil _ (rowG_nil _ _ _ _) (rowG_nil _ _ _ _)).mono ?_
  rintro e w3 ⟨rfl, hb⟩
  have HV0 := Lib.hid (HV.below (HV0.out.alloc _) hb)
  have HV1 := Lib.hid (HV.below (HV.new w2 (.slice none 0 0)) hb)
  have k0 := HV0.out.cell
  have k1 := HV1.out.cell
  have HB3 := Lib.hid ((HB2.out.alloc HB2.out.size _).trans (hb.mono (Nat.le_trans HB2.out.size (by simp))))
  clear hb h0 hl0
  go_wp2_with fail
  refine (markHeap_nil _).mono ?_
  rintro e w4 ⟨rfl, hb⟩
  have HV0 := Lib.hid (HV.below HV0.out hb)
  have HV1 := Lib.hid (HV.below HV1.out hb)
  have l1 := HV1.out.cell
  have HB4 := Lib.hid (HB3.out.trans (hb.mono HB3.out.size))
  clear hb k0 k1
  go_wp2_with fail
  refine (heldHeap_ok none 0 0 (by decide) _ (rowM_nil _ _)).mono ?_
  rintro e w5 ⟨rfl, hb⟩
  have HV0 := Lib.hid (HV.below HV0.out hb)
  have HV1 := Lib.hid (HV.below HV1.out hb)
  have HB5 := Lib.hid (HB4.out.trans (hb.mono HB4.out.size))
  clear hb l1
  go_wp2_with fail
  refine (HI.out _).mono fun e w6 h => ?_
  obtain ⟨rfl, hb⟩ := hp_false h
  have HV0 := Lib.hid (HV.below HV0.out hb)
  have HV1 := Lib.hid (HV.below HV1.out hb)
  have n0 := HV0.out.cell
  have nl0 := HV0.out.lt
  have HB6 := Lib.hid (HB5.out.trans (hb.mono HB5.out.size))
  clear h hb
  go_wp2_with fail
  refine (eqHeap_ok none none 0 0 r m [] [] (by decide) FE2.nil _ (rowG_nil _ _ _ _) (rowG_nil _ _ _ _)).mono ?_
  rintro e w7 ⟨rfl, hb⟩
  have HV1 := Lib.hid (HV.below (HV1.out.alloc _) hb)
  have p1 := HV1.out.cell
  have HB7 := Lib.hid ((HB6.out.alloc HB6.out.size _).trans (hb.mono (Nat.le_trans HB6.out.size (by simp))))
  clear hb n0 nl0
  go_wp2_with fail
  refine (heldHeap_ok none 0 0 (by decide) _ (rowM_nil _ _)).mono ?_
  rintro e w8 ⟨rfl, hb⟩
  have HB8 := Lib.hid (HB7.out.trans (hb.mono HB7.out.size))
  clear hb p1
  go_wp2_with fail
  go_ret
  exact ⟨rfl, HB8.out⟩
set_option maxHeartbeats 4000000 in
theorem law_Row_true (n : Int) (r gap m : Nat) (hok : okRow n r gap m = true) (w : World) :
    Calls Try.prog 3 #[.int .i64 n, .float .f32 r, .float .f32 gap, .float .f32 m] w fun e w' => e = .returned (.bool true) ∧ Below w.heap.size w w' := by
  have hS := fun w => spec_RowOfGrains n r gap m w
  have hI := fun w => impl_RowOfGrains n r gap m w
  have HLN := Lib.hid (okRow_len hok)
  rw [hok] at hS hI
  have HS := Lib.hid hS
  have HI := Lib.hid hI
  clear hS hI hok
  go_enter Try.func3, Try.ntmps3
  go_wp2_with fail
  refine (HS.out _).mono fun e w1 h => ?_
  obtain ⟨sa, sn, sc, ss, rfl, sfe, so, hb⟩ := hp_true h
  obtain ⟨rfl, srow⟩ := ownG_row so
  have sp0 : 0 < ss.length := by rw [sfe.1]; exact HLN.out.1
  have sp24 : ss.length ≤ 24 := by rw [sfe.1]; exact HLN.out.2
  obtain ⟨sg, rfl, sg0, sg1⟩ := own_addr so sp0
  have SFE := Lib.hid sfe
  have SR := Lib.hid srow
  have HB1 := Lib.hid hb
  have SG := Lib.hid sg1
  clear h hb so sfe srow sg0 sg1
  go_wp2_with fail
  refine (HI.out _).mono fun e w2 h => ?_
  obtain ⟨ia, n1, ic, is, rfl, ife, io, hb⟩ := hp_true h
  obtain ⟨rfl, irow⟩ := ownG_row io
  have ip0 : 0 < is.length := by rw [ife.1]; exact HLN.out.1
  have ip24 : is.length ≤ 24 := by rw [ife.1]; exact HLN.out.2
  obtain ⟨ig, rfl, ig0, ig1⟩ := own_addr io ip0
  have IFE := Lib.hid ife
  have IR := Lib.hid irow
  have IO := Lib.hid io
  have IG1 := Lib.hid ig1
  have IG0 : Hid (w1.heap.size < ig) := by
    have e : (w1.alloc (.cells #[.slice (some ⟨sg, 0, none⟩) ss.length sc] 25)).heap.size = w1.heap.size + 1 := by simp
    rw [e] at ig0
    show w1.heap.size < ig
    omega
  have SR := Lib.hid (RowG.below (SR.out.below ((Below.refl _ _).alloc (Nat.le_refl _) _)) hb)
  have HV0 := Lib.hid (HV.below (HV.new w1 (.slice (some ⟨sg, 0, none⟩) ss.length sc)) hb)
  have h0 := HV0.out.cell
  have hl0 := HV0.out.lt
  have HB2 := Lib.hid ((HB1.out.alloc HB1.out.size _).trans (hb.mono (Nat.le_trans HB1.out.size (by simp))))
  clear h hb ife irow io ig0 ig1
  go_wp2_with fail
  refine (eqHeap_ok _ _ _ _ r m is ss (Nat.le_trans ip24 (by decide)) (IFE.out.trans SFE.out.symm) _ (IR.out.below ((Below.refl _ _).alloc (Nat.le_refl _) _)) (SR.out.below ((Below.refl _ _).alloc (Nat.le_refl _) _))).mono ?_
  rintro e w3 ⟨rfl, hb⟩
  have HV0 := Lib.hid (HV.below (HV0.out.alloc _) hb)
  have HV1 := Lib.hid (HV.below (HV.new w2 (.slice (some ⟨ig, 0, none⟩) is.length ic)) hb)
  have SR := Lib.hid (RowG.below (SR.out.below ((Below.refl _ _).alloc (Nat.le_refl _) _)) hb)
  have IO := Lib.hid (ownG_below (ownG_below IO.out ((Below.refl _ _).alloc (Nat.le_refl _) _)) hb)
  have k1 := HV1.out.cell
  have HB3 := Lib.hid ((HB2.out.alloc HB2.out.size _).trans (hb.mono (Nat.le_trans HB2.out.size (by simp))))
  clear hb h0 hl0
  go_wp2_with fail
  refine (markHeap_ok _ ig is.length ic _ ip24 (gl_len r m is) _ IO.out).mono ?_
  rintro e w4 ⟨rfl, hrm, hon⟩
  have HV0 := Lib.hid (HV0.out.only hon (Nat.ne_of_lt IG0.out))
  have HV1 := Lib.hid (HV1.out.only hon (Nat.ne_of_gt IG1.out))
  have SR := Lib.hid (SR.out.only hon (fun b hb => by
    simp only [Option.some.injEq, Addr.mk.injEq] at hb
    have h1 := SG.out
    have h2 := IG0.out
    omega))
  have RM := Lib.hid hrm
  have l1 := HV1.out.cell
  have HB4 := Lib.hid (HB3.out.trans (hon.below HB3.out.size (Nat.le_trans HB1.out.size (Nat.le_of_lt IG0.out))))
  clear hrm hon k1
  go_wp2_with fail
  refine (heldHeap_ok _ is.length ic ip24 _ RM.out).mono ?_
  rintro e w5 ⟨rfl, hb⟩
  have HV0 := Lib.hid (HV.below HV0.out hb)
  have HV1 := Lib.hid (HV.below HV1.out hb)
  have SR := Lib.hid (SR.out.below hb)
  have RM := Lib.hid (RM.out.below hb)
  have HB5 := Lib.hid (HB4.out.trans (hb.mono HB4.out.size))
  have hd : decide ((1 + 7 * (is.length : Int)) < 0) = false := by simp; omega
  clear hb l1
  go_wp2_with fail
  refine (HI.out _).mono fun e w6 h => ?_
  obtain ⟨ja, n2, jc, js, rfl, jfe, jo, hb⟩ := hp_true h
  obtain ⟨rfl, jrow⟩ := ownG_row jo
  have jp24 : js.length ≤ 24 := by rw [jfe.1]; exact HLN.out.2
  have JFE := Lib.hid jfe
  have JR := Lib.hid jrow
  have HV0 := Lib.hid (HV.below HV0.out hb)
  have HV1 := Lib.hid (HV.below HV1.out hb)
  have SR := Lib.hid (SR.out.below hb)
  have RM := Lib.hid (RM.out.below hb)
  have n0 := HV0.out.cell
  have nl0 := HV0.out.lt
  have HB6 := Lib.hid (HB5.out.trans (hb.mono HB5.out.size))
  clear h hb jfe jrow jo
  go_wp2_with fail
  refine (eqHeap_ok _ _ _ _ r m js ss (Nat.le_trans jp24 (by decide)) (JFE.out.trans SFE.out.symm) _ (JR.out.below ((Below.refl _ _).alloc (Nat.le_refl _) _)) (SR.out.below ((Below.refl _ _).alloc (Nat.le_refl _) _))).mono ?_
  rintro e w7 ⟨rfl, hb⟩
  have HV1 := Lib.hid (HV.below (HV1.out.alloc _) hb)
  have RM := Lib.hid (RowM.below (RM.out.below ((Below.refl _ _).alloc (Nat.le_refl _) _)) hb)
  have p1 := HV1.out.cell
  have HB7 := Lib.hid ((HB6.out.alloc HB6.out.size _).trans (hb.mono (Nat.le_trans HB6.out.size (by simp))))
  clear hb n0 nl0
  go_wp2_with fail
  refine (heldHeap_ok _ is.length ic ip24 _ RM.out).mono ?_
  rintro e w8 ⟨rfl, hb⟩
  have HB8 := Lib.hid (HB7.out.trans (hb.mono HB7.out.size))
  clear hb p1
  go_wp2_with fail
  go_ret
  exact ⟨rfl, HB8.out⟩
theorem walk_FnExactRowOfGrains (n : Int) (r gap m : Nat) (w : World) :
    Calls Try.prog 3 #[.int .i64 n, .float .f32 r, .float .f32 gap, .float .f32 m] w fun e w' => e = .returned (.bool true) ∧ Below w.heap.size w w' := by
  cases h : okRow n r gap m with
  | true => exact law_Row_true n r gap m h w
  | false => exact law_Row_false n r gap m h w
end Go.Proofs.Ytlolmopfeglifaa
