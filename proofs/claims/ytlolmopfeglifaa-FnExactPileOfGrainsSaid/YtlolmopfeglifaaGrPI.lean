/-
  The program's PileOfGrains, walked.
-/
import Derived.Test.YtlolmopfeglifaaGrP
import Derived.Test.YtlolmopfeglifaaGrL
namespace Go.Proofs.Ytlolmopfeglifaa
open Go Go.RowKit

theorem okPile_nofin {n : Nat} {r m : Nat} (h1 : 1 ≤ n) (h : (fin .f32 r && fin .f32 m) = false) : okPile (n : Int) r m = false := by
  unfold okPile
  cases ha : allV r m (pileL r ((n : Int)).toNat) with
  | false => simp
  | true =>
    exfalso
    have hg := gv_fin (List.all_eq_true.1 ha _ (pileL_pos r _ (by omega)))
    rw [hg.1, hg.2] at h
    cases h
theorem areFinite_next2 (x y : Nat) (o : Obj) (t : TypeId) (w : World) :
    Calls Try.prog 17 #[.slice (some ⟨w.heap.size + 1, 0, none⟩) 2 2] ((w.alloc o).alloc (.cells #[.float .f32 x, .float .f32 y] t)) (GivesB ((w.alloc o).alloc (.cells #[.float .f32 x, .float .f32 y] t)) (fin .f32 x && fin .f32 y)) := by
  have h := areFinite_two x y t 0 (w.alloc o)
  have e : (w.alloc o).heap.size = w.heap.size + 1 := by simp
  rw [e, World.drewN_zero] at h
  exact h
set_option maxHeartbeats 4000000 in
theorem impl_Pile_run (rows : Nat) (r m : Nat) (h1 : 1 ≤ rows) (hn : rows ≤ 6) (hf : (fin .f32 r && fin .f32 m) = true) (w : World) :
    Calls Try.prog 11 #[.int .i64 (rows : Int), .float .f32 r, .float .f32 m] w (GivesHp w (allV r m (pileL r rows)) r m (pileL r rows)) := by
  have hh0 := buildH0
  have hg1 := buildG1
  have hgr := buildGr
  have HF := Lib.hid (fun o t => areFinite_next2 r m o t w)
  rw [hf] at HF
  have hi1 : (1 : Int) ≤ (rows : Int) := by omega
  have hi6 : (rows : Int) ≤ 6 := by omega
  clear hf
  go_enter Try.func11, Try.ntmps11
  go_wp2_with (first
    | (go_at_call 16; go_in)
    | (go_at_call 17; refine (HF.out _ _).mono ?_; rintro e w' ⟨rfl, q, rfl⟩))
  go_loopw [25] (fun i wr => ∃ (n : Nat) (v : Value) (ps : List (Nat × Nat)), n ≤ rows ∧ i = .int .i64 n ∧ FE2 ps (pileUp r rows n) ∧ (∃ a l c, v = .slice a l c) ∧ OwnG w.heap.size wr v r m ps ∧ HV wr (w.heap.size + 1 + 1) v ∧ HV wr w.heap.size (.slice none 0 0) ∧ Below w.heap.size w wr) (fun i _ => rows - (RowKit.intOf i).toNat)
  case atStart =>
    refine ⟨0, .slice none 0 0, [], Nat.zero_le _, rfl, FE2.nil, ⟨_, _, _, rfl⟩, ownG_nil _ _ _ _, ?_, ?_, ?_⟩
    · exact HV.new3 w _ _ _
    · exact ((HV.new w _).alloc _).alloc _
    · exact (below_drewNG (((Below.refl _ _).alloc (Nat.le_refl _) _).alloc (by simp) _) _).alloc (by simp; omega) _
  case round =>
    obtain ⟨n, v, ps, hk, rfl, hfe, ⟨a, l, c, rfl⟩, ho, hv, hr, hb⟩ := hrel
    have HO := Lib.hid ho
    have HVV := Lib.hid hv
    have HR := Lib.hid hr
    have HB := Lib.hid hb
    have HF := Lib.hid hfe
    clear ho hv hr hb hfe
    by_cases hlt : n < rows
    · go_wp2
      go_loopw [36] (fun i wr2 => ∃ (j : Nat) (v : Value) (ps : List (Nat × Nat)), j ≤ rows - n ∧ i = .int .i64 j ∧ FE2 ps (pileUp r rows n ++ pileRow r n j) ∧ (∃ a l c, v = .slice a l c) ∧ OwnG w.heap.size wr2 v r m ps ∧ HV wr2 (w.heap.size + 1 + 1) v ∧ HV wr2 w.heap.size (.slice none 0 0) ∧ Below w.heap.size w wr2) (fun i _ => rows - n - (RowKit.intOf i).toNat)
      case atStart => exact ⟨0, _, ps, Nat.zero_le _, rfl, by simpa [pileRow] using HF.out, ⟨_, _, _, rfl⟩, HO.out, HVV.out, HR.out, below_drewNG HB.out _⟩
      case round =>
        clear HO HVV HR HB HF
        obtain ⟨j, v, ps, hj, rfl, hfe, ⟨a, l, c, rfl⟩, ho, hv, hr, hb⟩ := hrel
        have HO := Lib.hid ho
        have HVV := Lib.hid hv
        have HR := Lib.hid hr
        have HB := Lib.hid hb
        have HF := Lib.hid hfe
        have hc := hv.cell
        have hlen : ps.length ≤ 2000 := by
          rw [hfe.1, List.length_append, pileRow_len]
          have h1 := pileUp_len r rows n
          have h2 : rows * n ≤ 6 * 6 := Nat.mul_le_mul hn (by omega)
          omega
        clear ho hv hr hb hfe
        by_cases hjl : j < rows - n
        · have hj2 : (j : Int) < (rows : Int) - (n : Int) := by omega
          go_wp2_with (first
            | (at_builtin
               refine wpList_append_ex rfl _ _ 23 rfl rfl rfl (behindE w.heap.size _ _ _ r m ps _ _ _ hlen ?_ ?_ ?_) ?_
               rfl
               exact HO.out
               exact HB.out.size
               rintro _ w3 ⟨⟨g, cap, rfl⟩, ho3, hb3, hk3⟩
               have hv3 : HV w3 (w.heap.size + 1 + 1) (.slice a l c) := HV.same HVV.out (hk3 _ HVV.out.lt (HVV.out.ne HO.out))
               have hr3 : HV w3 w.heap.size (.slice none 0 0) := HV.same HR.out (hk3 _ HR.out.lt (HR.out.ne HO.out))
               have hc3 := hv3.cell
               have hf3 := hv3.frozen
               have HV3 := Lib.hid hv3
               have HR3 := Lib.hid hr3
               have HO3 := Lib.hid ho3
               have HB3 := Lib.hid ((below_drewNG HB.out _).trans hb3)
               clear ho3 hb3 hk3 hv3 hr3))
          go_roundw
          case rel => exact ⟨j + 1, _, _, by omega, by go_num, by rw [pileRow_succ, ← List.append_assoc]; exact HF.out.snoc (ar_same .mul _ (FEq.refl _ _) (FEq.refl _ _)) (ar_same .mul _ (ar_same .mul _ (FEq.refl _ _) (FEq.refl _ _)) (FEq.refl _ _)), ⟨_, _, _, rfl⟩, ownG_set HO3.out (HV3.out.ne HO3.out) _, HV3.out.set _, HR3.out.other (by omega) _, HB3.out.setCell (Nat.le_add_right _ 2) _⟩
          case measure => simp [RowKit.intOf]; omega
        · obtain rfl : j = rows - n := by omega
          have hj2 : ¬ (((rows - n : Nat)) : Int) < (rows : Int) - (n : Int) := by omega
          have hj3 : decide ((((rows - n : Nat)) : Int) < (rows : Int) - (n : Int)) = false := decide_eq_false hj2
          go_wp2
          go_roundw
          case rel => exact ⟨n + 1, _, ps, by omega, by go_num, by rw [pileUp_succ]; exact HF.out, ⟨_, _, _, rfl⟩, HO.out, HVV.out, HR.out, HB.out⟩
          case measure => simp [RowKit.intOf]; omega
    · obtain rfl : n = rows := by omega
      have hl24 : ps.length ≤ 24 := by rw [HF.out.1]; exact pileL_len n hn r
      have hc := HVV.out.cell
      cases hav : allV r m (pileL r n) with
      | true =>
        have HAV := Lib.hid ((allV_same HF.out).trans hav)
        have HA0 := Lib.hid hav
        clear hav hlt
        go_wp2_with (go_at_call 18
                     refine (checked_true a l c r m ps hl24 HAV.out _ ⟨_, HO.out⟩).mono ?_
                     rintro e w2 ⟨rfl, hb⟩
                     have HO2 := Lib.hid (ownG_below HO.out hb)
                     have HN2 := Lib.hid (HR.out.below hb)
                     have HB2 := Lib.hid (HB.out.trans (hb.mono HB.out.size))
                     have hc2 := HN2.out.cell
                     have hf2 := HN2.out.frozen
                     clear hb)
        have hce := (HN2.out.set (.slice a l c)).cell
        rw [HA0.out]
        refine bodyPost_ret (v := .tuple #[.agg #[.slice a l c], .bool true]) (by simp [results, Try.results11, go_sem, hce]) rfl ⟨a, l, c, ps, rfl, HF.out, ownG_set HO2.out (HN2.out.ne HO2.out) _, HB2.out.setCell (Nat.le_refl _) _⟩
      | false =>
        have HAV := Lib.hid ((allV_same HF.out).trans hav)
        have HA0 := Lib.hid hav
        clear hav hlt
        go_wp2_with (go_at_call 18
                     refine (checked_false a l c r m ps hl24 HAV.out _ ⟨_, HO.out⟩).mono ?_
                     rintro e w2 ⟨rfl, hb⟩
                     have HO2 := Lib.hid (ownG_below HO.out hb)
                     have HN2 := Lib.hid (HR.out.below hb)
                     have HB2 := Lib.hid (HB.out.trans (hb.mono HB.out.size))
                     have hc2 := HN2.out.cell
                     have hf2 := HN2.out.frozen
                     clear hb)
        have hce := (HN2.out.set (.slice none 0 0)).cell
        rw [HA0.out]
        refine bodyPost_ret (v := .tuple #[.agg #[.slice none 0 0], .bool false]) (by simp [results, Try.results11, go_sem, hce]) rfl ⟨rfl, HB2.out.setCell (Nat.le_refl _) _⟩
theorem impl_PileOfGrains (n : Int) (r m : Nat) (w : World) :
    Calls Try.prog 11 #[.int .i64 n, .float .f32 r, .float .f32 m] w (GivesHp w (okPile n r m) r m (pileL r n.toNat)) := by
  have hh0 := buildH0
  have HB := Lib.hid ((Below.refl w.heap.size w).alloc (Nat.le_refl _) (.cells #[.slice none 0 0] 25))
  have HN := Lib.hid (HV.new w (.slice none 0 0))
  by_cases h1 : 1 ≤ n
  · by_cases h6 : n ≤ 6
    · obtain ⟨k, rfl⟩ : ∃ k : Nat, n = k := ⟨n.toNat, by omega⟩
      cases hf : (fin .f32 r && fin .f32 m) with
      | true =>
        have h := impl_Pile_run k r m (by omega) (by omega) hf w
        have e : okPile (k : Int) r m = allV r m (pileL r k) := by
          unfold okPile
          rw [decide_eq_true h1, decide_eq_true h6]; rfl
        rw [e]
        exact h
      | false =>
        have HK := Lib.hid (okPile_nofin (n := k) (by omega) hf)
        have HF := Lib.hid (fun o t => areFinite_next2 r m o t w)
        rw [hf] at HF
        clear hf
        go_enter Try.func11, Try.ntmps11
        go_wp2_with (first
          | (go_at_call 16; go_in)
          | (go_at_call 17; refine (HF.out _ _).mono ?_; rintro e w' ⟨rfl, q, rfl⟩))
        have hce := (HV.set (w := ((w.alloc (.cells #[.slice none 0 0] 25)).alloc (.cells #[.float .f32 r, .float .f32 m] 22)).drewN q) (HN.out.alloc _) (.slice none 0 0)).cell
        rw [HK.out]
        refine bodyPost_ret (v := .tuple #[.agg #[.slice none 0 0], .bool false]) (by simp [results, Try.results11, go_sem, hce]) rfl ⟨rfl, (below_drewNG (HB.out.alloc (by simp) _) q).setCell (Nat.le_refl _) _⟩
    · have HK : Hid (okPile n r m = false) := by
        show _ = _
        unfold okPile
        rw [decide_eq_false h6]; simp
      have hd : decide (n ≤ 6) = false := decide_eq_false h6
      go_enter Try.func11, Try.ntmps11
      go_wp2_with (go_at_call 16; go_in)
      rw [HK.out]
      refine bodyPost_ret (v := .tuple #[.agg #[.slice none 0 0], .bool false]) (by simp [results, Try.results11, go_sem]) rfl ⟨rfl, HB.out⟩
  · have HK : Hid (okPile n r m = false) := by
      show _ = _
      unfold okPile
      rw [decide_eq_false h1]; rfl
    have hd : decide (1 ≤ n) = false := decide_eq_false h1
    go_enter Try.func11, Try.ntmps11
    go_wp2_with (go_at_call 16; go_in)
    rw [HK.out]
    refine bodyPost_ret (v := .tuple #[.agg #[.slice none 0 0], .bool false]) (by simp [results, Try.results11, go_sem]) rfl ⟨rfl, HB.out⟩
end Go.Proofs.Ytlolmopfeglifaa
