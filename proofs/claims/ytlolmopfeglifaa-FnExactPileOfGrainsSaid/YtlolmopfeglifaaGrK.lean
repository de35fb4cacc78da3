/-
  The program's RowOfGrains, walked.
-/
import Derived.Test.YtlolmopfeglifaaGrJ
namespace Go.Proofs.Ytlolmopfeglifaa
open Go Go.RowKit

theorem gv_fin {r m : Nat} {p : Nat × Nat} (h : gv r m p = true) : fin .f32 r = true ∧ fin .f32 m = true := by
  unfold gv above at h
  simp at h
  exact ⟨h.2.1.1, h.2.2.1⟩
theorem okRow_nofin {n : Nat} {r gap m : Nat} (h1 : 1 ≤ n) (h : (fin .f32 r && (fin .f32 gap && fin .f32 m)) = false) : okRow (n : Int) r gap m = false := by
  unfold okRow
  cases hf : fin .f32 gap with
  | false => simp
  | true =>
    cases ha : allV r m (rowL r gap ((n : Int)).toNat) with
    | false => simp
    | true =>
      exfalso
      have hm : (rowX r gap 0, 0) ∈ rowL r gap ((n : Int)).toNat := List.mem_map.2 ⟨0, List.mem_range.2 (by omega), rfl⟩
      have hg := gv_fin (List.all_eq_true.1 ha _ hm)
      rw [hg.1, hg.2, hf] at h
      cases h
theorem checked_true (a : Option Addr) (n c r m : Nat) (ps : List (Nat × Nat)) (hn : ps.length ≤ 24) (hv : allV r m ps = true) (w : World) (ho : ∃ B, OwnG B w (.slice a n c) r m ps) :
    Calls Try.prog 18 #[.agg #[.slice a n c]] w fun e w' => e = .returned (.tuple #[.agg #[.slice a n c], .bool true]) ∧ Below w.heap.size w w' := by
  have h := impl_checked a n c r m ps hn w ho
  rw [hv, if_pos rfl] at h
  exact h
theorem checked_false (a : Option Addr) (n c r m : Nat) (ps : List (Nat × Nat)) (hn : ps.length ≤ 24) (hv : allV r m ps = false) (w : World) (ho : ∃ B, OwnG B w (.slice a n c) r m ps) :
    Calls Try.prog 18 #[.agg #[.slice a n c]] w fun e w' => e = .returned (.tuple #[.agg #[.slice none 0 0], .bool false]) ∧ Below w.heap.size w w' := by
  have h := impl_checked a n c r m ps hn w ho
  rw [hv, if_neg (by decide)] at h
  exact h
theorem areFinite_next (x y z : Nat) (o : Obj) (t : TypeId) (w : World) :
    Calls Try.prog 17 #[.slice (some ⟨w.heap.size + 1, 0, none⟩) 3 3] ((w.alloc o).alloc (.cells #[.float .f32 x, .float .f32 y, .float .f32 z] t)) (GivesB ((w.alloc o).alloc (.cells #[.float .f32 x, .float .f32 y, .float .f32 z] t)) (fin .f32 x && (fin .f32 y && fin .f32 z))) := by
  have h := areFinite_three x y z t 0 (w.alloc o)
  have e : (w.alloc o).heap.size = w.heap.size + 1 := by simp
  rw [e, World.drewN_zero] at h
  exact h
set_option maxHeartbeats 2000000 in
theorem impl_Row_run (n : Nat) (r gap m : Nat) (h1 : 1 ≤ n) (h24 : n ≤ 24) (hf : (fin .f32 r && (fin .f32 gap && fin .f32 m)) = true) (w : World) :
    Calls Try.prog 6 #[.int .i64 (n : Int), .float .f32 r, .float .f32 gap, .float .f32 m] w (GivesHp w (allV r m (rowL r gap n)) r m (rowL r gap n)) := by
  have hh0 := buildH0
  have hg1 := buildG1
  have hgr := buildGr
  have HF := Lib.hid (fun o t => areFinite_next r gap m o t w)
  rw [hf] at HF
  have hi1 : (1 : Int) ≤ (n : Int) := by omega
  have hi24 : (n : Int) ≤ 24 := by omega
  clear hf
  go_enter Try.func6, Try.ntmps6
  go_wp2_with (first
    | (go_at_call 16; go_in)
    | (go_at_call 17; refine (HF.out _ _).mono ?_; rintro e w' ⟨rfl, q, rfl⟩))
  go_loopw [31] (fun i wr => ∃ (k : Nat) (v : Value) (ps : List (Nat × Nat)), k ≤ n ∧ i = .int .i64 k ∧ FE2 ps (rowL r gap k) ∧ (∃ a l c, v = .slice a l c) ∧ OwnG w.heap.size wr v r m ps ∧ HV wr (w.heap.size + 1 + 1) v ∧ HV wr w.heap.size (.slice none 0 0) ∧ Below w.heap.size w wr) (fun i _ => n - (RowKit.intOf i).toNat)
  case atStart =>
    refine ⟨0, .slice none 0 0, [], Nat.zero_le _, rfl, FE2.nil, ⟨_, _, _, rfl⟩, ownG_nil _ _ _ _, ?_, ?_, ?_⟩
    · exact HV.new3 w _ _ _
    · exact ((HV.new w _).alloc _).alloc _
    · exact (below_drewNG (((Below.refl _ _).alloc (Nat.le_refl _) _).alloc (by simp) _) _).alloc (by simp; omega) _
  case round =>
    obtain ⟨k, v, ps, hk, rfl, hfe, ⟨a, l, c, rfl⟩, ho, hv, hr, hb⟩ := hrel
    have HO := Lib.hid ho
    have HVV := Lib.hid hv
    have HR := Lib.hid hr
    have HB := Lib.hid hb
    have HF := Lib.hid hfe
    clear ho hv hr hb hfe
    have hlen : ps.length ≤ 2000 := by rw [HF.out.1, rowL_len]; omega
    have hc := HVV.out.cell
    by_cases hlt : k < n
    · go_wp2_with (first
        | (at_builtin
           refine wpList_append_ex rfl _ _ 23 rfl rfl rfl (behindE w.heap.size _ _ _ r m ps _ _ _ hlen ?_ ?_ ?_) ?_
           rfl
           exact HO.out
           exact HB.out.size
           rintro _ w3 ⟨⟨g, cap, rfl⟩, ho3, hb3, hk3⟩
           have hv3 : HV w3 (w.heap.size + 1 + 1) (.slice a l c) := HV.same HVV.out (hk3 _ HVV.out.lt (HVV.out.ne HO.out))
           have hr3 : HV w3 w.heap.size (.slice none 0 0) := HV.same HR.out (hk3 _ HR.out.lt (HR.out.ne HO.out))
           have hc3 := hv3.cell
           have hf3 := hv3.frozen
           have HV3 := Lib.hid hv3
           have HR3 := Lib.hid hr3
           have HO3 := Lib.hid ho3
           have HB3 := Lib.hid ((below_drewNG HB.out _).trans hb3)
           clear ho3 hb3 hk3 hv3 hr3))
      go_roundw
      case rel => exact ⟨k + 1, _, _, by omega, by go_num, by rw [rowL_succ]; exact HF.out.snoc (ar_same .mul _ (FEq.refl _ _) (ar_same .add _ (ar_same .mul _ (FEq.refl _ _) (FEq.refl _ _)) (FEq.refl _ _))) (FEq.refl _ _), ⟨_, _, _, rfl⟩, ownG_set HO3.out (HV3.out.ne HO3.out) _, HV3.out.set _, HR3.out.other (by omega) _, HB3.out.setCell (Nat.le_add_right _ 2) _⟩
      case measure => simp [RowKit.intOf]; omega
    · obtain rfl : k = n := by omega
      have hl24 : ps.length ≤ 24 := by rw [HF.out.1, rowL_len]; exact h24
      cases hav : allV r m (rowL r gap k) with
      | true =>
        have HAV := Lib.hid ((allV_same HF.out).trans hav)
        have HA0 := Lib.hid hav
        clear hav hlt
        go_wp2_with (go_at_call 18
                     refine (checked_true a l c r m ps hl24 HAV.out _ ⟨_, HO.out⟩).mono ?_
                     rintro e w2 ⟨rfl, hb⟩
                     have HO2 := Lib.hid (ownG_below HO.out hb)
                     have HN2 := Lib.hid (HR.out.below hb)
                     have HB2 := Lib.hid (HB.out.trans (hb.mono HB.out.size))
                     have hc2 := HN2.out.cell
                     have hf2 := HN2.out.frozen
                     clear hb)
        have hce := (HN2.out.set (.slice a l c)).cell
        rw [HA0.out]
        refine bodyPost_ret (v := .tuple #[.agg #[.slice a l c], .bool true]) (by simp [results, Try.results6, go_sem, hce]) rfl ⟨a, l, c, ps, rfl, HF.out, ownG_set HO2.out (HN2.out.ne HO2.out) _, HB2.out.setCell (Nat.le_refl _) _⟩
      | false =>
        have HAV := Lib.hid ((allV_same HF.out).trans hav)
        have HA0 := Lib.hid hav
        clear hav hlt
        go_wp2_with (go_at_call 18
                     refine (checked_false a l c r m ps hl24 HAV.out _ ⟨_, HO.out⟩).mono ?_
                     rintro e w2 ⟨rfl, hb⟩
                     have HO2 := Lib.hid (ownG_below HO.out hb)
                     have HN2 := Lib.hid (HR.out.below hb)
                     have HB2 := Lib.hid (HB.out.trans (hb.mono HB.out.size))
                     have hc2 := HN2.out.cell
                     have hf2 := HN2.out.frozen
                     clear hb)
        have hce := (HN2.out.set (.slice none 0 0)).cell
        rw [HA0.out]
        refine bodyPost_ret (v := .tuple #[.agg #[.slice none 0 0], .bool false]) (by simp [results, Try.results6, go_sem, hce]) rfl ⟨rfl, HB2.out.setCell (Nat.le_refl _) _⟩
theorem impl_RowOfGrains (n : Int) (r gap m : Nat) (w : World) :
    Calls Try.prog 6 #[.int .i64 n, .float .f32 r, .float .f32 gap, .float .f32 m] w (GivesHp w (okRow n r gap m) r m (rowL r gap n.toNat)) := by
  have hh0 := buildH0
  have HB := Lib.hid ((Below.refl w.heap.size w).alloc (Nat.le_refl _) (.cells #[.slice none 0 0] 25))
  have HN := Lib.hid (HV.new w (.slice none 0 0))
  by_cases h1 : 1 ≤ n
  · by_cases h24 : n ≤ 24
    · obtain ⟨k, rfl⟩ : ∃ k : Nat, n = k := ⟨n.toNat, by omega⟩
      cases hf : (fin .f32 r && (fin .f32 gap && fin .f32 m)) with
      | true =>
        have h := impl_Row_run k r gap m (by omega) (by omega) hf w
        have e : okRow (k : Int) r gap m = allV r m (rowL r gap k) := by
          unfold okRow
          have hg : fin .f32 gap = true := by simp at hf; exact hf.2.1
          rw [decide_eq_true h1, decide_eq_true h24, hg]; rfl
        rw [e]
        exact h
      | false =>
        have HK := Lib.hid (okRow_nofin (n := k) (by omega) hf)
        have HF := Lib.hid (fun o t => areFinite_next r gap m o t w)
        rw [hf] at HF
        clear hf
        go_enter Try.func6, Try.ntmps6
        go_wp2_with (first
          | (go_at_call 16; go_in)
          | (go_at_call 17; refine (HF.out _ _).mono ?_; rintro e w' ⟨rfl, q, rfl⟩))
        have hce := (HV.set (w := ((w.alloc (.cells #[.slice none 0 0] 25)).alloc (.cells #[.float .f32 r, .float .f32 gap, .float .f32 m] 22)).drewN q) (HN.out.alloc _) (.slice none 0 0)).cell
        rw [HK.out]
        refine bodyPost_ret (v := .tuple #[.agg #[.slice none 0 0], .bool false]) (by simp [results, Try.results6, go_sem, hce]) rfl ⟨rfl, (below_drewNG (HB.out.alloc (by simp) _) q).setCell (Nat.le_refl _) _⟩
    · have HK : Hid (okRow n r gap m = false) := by
        show _ = _
        unfold okRow
        rw [decide_eq_false h24]; simp
      have hd : decide (n ≤ 24) = false := decide_eq_false h24
      go_enter Try.func6, Try.ntmps6
      go_wp2_with (go_at_call 16; go_in)
      rw [HK.out]
      refine bodyPost_ret (v := .tuple #[.agg #[.slice none 0 0], .bool false]) (by simp [results, Try.results6, go_sem]) rfl ⟨rfl, (by first | exact HB.out | exact HB.out.setCell (Nat.le_refl _) _)⟩
  · have HK : Hid (okRow n r gap m = false) := by
      show _ = _
      unfold okRow
      rw [decide_eq_false h1]; rfl
    have hd : decide (1 ≤ n) = false := decide_eq_false h1
    go_enter Try.func6, Try.ntmps6
    go_wp2_with (go_at_call 16; go_in)
    rw [HK.out]
    refine bodyPost_ret (v := .tuple #[.agg #[.slice none 0 0], .bool false]) (by simp [results, Try.results6, go_sem]) rfl ⟨rfl, (by first | exact HB.out | exact HB.out.setCell (Nat.le_refl _) _)⟩
end Go.Proofs.Ytlolmopfeglifaa
