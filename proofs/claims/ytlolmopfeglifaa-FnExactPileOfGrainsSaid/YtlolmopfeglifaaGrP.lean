/-
  The reference's piles of grains, walked.
-/
import Derived.Test.YtlolmopfeglifaaGrR
namespace Go.Proofs.Ytlolmopfeglifaa
open Go Go.RowKit

/-- the places of a pile. -/
def pX (r : Nat) (i : Int) : Nat := pa .mul .f32 r (floatOfInt .f32 i)
def pY (r : Nat) (n : Nat) : Nat := pa .mul .f32 (pa .mul .f32 1071494103 r) (floatOfInt .f32 (n : Int))
def pileRow (r n j : Nat) : List (Nat × Nat) := (List.range j).map fun (k : Nat) => (pX r (2 * (k : Int) + (n : Int)), pY r n)
def pileUp (r rows n : Nat) : List (Nat × Nat) := (List.range n).flatMap fun (i : Nat) => pileRow r i (rows - i)
def pileL (r rows : Nat) : List (Nat × Nat) := pileUp r rows rows
theorem pileRow_len (r n j : Nat) : (pileRow r n j).length = j := by simp [pileRow]
theorem pileRow_succ (r n j : Nat) : pileRow r n (j + 1) = pileRow r n j ++ [(pX r (2 * (j : Int) + (n : Int)), pY r n)] := by simp [pileRow, List.range_succ]
theorem pileUp_succ (r rows n : Nat) : pileUp r rows (n + 1) = pileUp r rows n ++ pileRow r n (rows - n) := by simp [pileUp, List.range_succ]
theorem pileUp_len (r rows n : Nat) : (pileUp r rows n).length ≤ rows * n := by
  induction n with
  | zero => simp [pileUp]
  | succ n ih =>
    rw [pileUp_succ, List.length_append, pileRow_len, Nat.mul_succ]
    omega
theorem pileL_len : ∀ rows, rows ≤ 6 → ∀ r, (pileL r rows).length ≤ 24 := by
  intro rows h r
  have e : ∀ n, (pileUp r rows n).length = ((List.range n).map fun i => rows - i).sum := by
    intro n
    induction n with
    | zero => rfl
    | succ n ih => rw [pileUp_succ, List.length_append, pileRow_len, ih, List.range_succ, List.map_append, List.sum_append]; simp
  unfold pileL
  rw [e]
  have hc : rows = 0 ∨ rows = 1 ∨ rows = 2 ∨ rows = 3 ∨ rows = 4 ∨ rows = 5 ∨ rows = 6 := by omega
  rcases hc with rfl | rfl | rfl | rfl | rfl | rfl | rfl <;> decide
theorem pileL_pos (r rows : Nat) (h : 0 < rows) : (pX r (2 * ((0 : Nat) : Int) + ((0 : Nat) : Int)), pY r 0) ∈ pileL r rows := by
  refine List.mem_flatMap.2 ⟨0, List.mem_range.2 h, List.mem_map.2 ⟨0, List.mem_range.2 (by omega), rfl⟩⟩
set_option maxHeartbeats 4000000 in
theorem spec_l02Pile (rows : Nat) (hn : rows ≤ 6) (r m : Nat) (w : World) :
    Calls Try.prog 22 #[.int .i64 rows, .float .f32 r, .float .f32 m] w (GivesG w r m (pileL r rows)) := by
  have hg0 := buildG0
  have hg1 := buildG1
  have hh1 := buildH1
  have hgr := buildGr
  go_enter Try.func22, Try.ntmps22
  go_wp2
  go_loopw [8] (fun i wr => ∃ (n : Nat) (v : Value) (ps : List (Nat × Nat)), n ≤ rows ∧ i = .int .i64 n ∧ FE2 ps (pileUp r rows n) ∧ (∃ a l c, v = .slice a l c) ∧ OwnG w.heap.size wr v r m ps ∧ HV wr (w.heap.size + 1 + 1) v ∧ HV wr w.heap.size (.slice none 0 0) ∧ Below w.heap.size w wr) (fun i _ => rows - (RowKit.intOf i).toNat)
  case atStart =>
    refine ⟨0, .slice (some ⟨w.heap.size + 1, 0, none⟩) 0 0, [], Nat.zero_le _, rfl, FE2.nil, ⟨_, _, _, rfl⟩, ?_, ?_, ?_, ?_⟩
    · have h := ownG_empty (w.alloc (.cells #[.slice none 0 0] 25)) r m
      have e : (w.alloc (.cells #[.slice none 0 0] 25)).heap.size = w.heap.size + 1 := by simp
      rw [e] at h
      exact World.ownsRow.alloc (ownG_mono h (Nat.le_succ _)) _
    · exact HV.new3 _ _ _ _
    · exact ((HV.new _ _).alloc _).alloc _
    · exact (((Below.refl _ _).alloc (Nat.le_refl _) _).alloc (by simp) _).alloc (by simp; omega) _
  case round =>
    obtain ⟨n, v, ps, hk, rfl, hfe, ⟨a, l, c, rfl⟩, ho, hv, hr, hb⟩ := hrel
    have HO := Lib.hid ho
    have HVV := Lib.hid hv
    have HR := Lib.hid hr
    have HB := Lib.hid hb
    have HF := Lib.hid hfe
    clear ho hv hr hb hfe
    by_cases hlt : n < rows
    · go_wp2
      go_loopw [10] (fun i wr2 => ∃ (j : Nat) (v : Value) (ps : List (Nat × Nat)), j ≤ rows - n ∧ i = .int .i64 j ∧ FE2 ps (pileUp r rows n ++ pileRow r n j) ∧ (∃ a l c, v = .slice a l c) ∧ OwnG w.heap.size wr2 v r m ps ∧ HV wr2 (w.heap.size + 1 + 1) v ∧ HV wr2 w.heap.size (.slice none 0 0) ∧ Below w.heap.size w wr2) (fun i _ => rows - n - (RowKit.intOf i).toNat)
      case atStart => exact ⟨0, _, ps, Nat.zero_le _, rfl, by simpa [pileRow] using HF.out, ⟨_, _, _, rfl⟩, HO.out, HVV.out, HR.out, below_drewNG HB.out _⟩
      case round =>
        clear HO HVV HR HB HF
        obtain ⟨j, v, ps, hj, rfl, hfe, ⟨a, l, c, rfl⟩, ho, hv, hr, hb⟩ := hrel
        have HO := Lib.hid ho
        have HVV := Lib.hid hv
        have HR := Lib.hid hr
        have HB := Lib.hid hb
        have HF := Lib.hid hfe
        have hc := hv.cell
        have hlen : ps.length ≤ 2000 := by
          rw [hfe.1, List.length_append, pileRow_len]
          have h1 := pileUp_len r rows n
          have h2 : rows * n ≤ 6 * 6 := Nat.mul_le_mul hn (by omega)
          omega
        clear ho hv hr hb hfe
        by_cases hjl : j < rows - n
        · have hj2 : (j : Int) < (rows : Int) - (n : Int) := by omega
          go_wp2_with (first
            | (at_builtin
               refine wpList_append_ex rfl _ _ 23 rfl rfl rfl (behindE w.heap.size _ _ _ r m ps _ _ _ hlen ?_ ?_ ?_) ?_
               rfl
               exact HO.out
               exact HB.out.size
               rintro _ w3 ⟨⟨g, cap, rfl⟩, ho3, hb3, hk3⟩
               have hv3 : HV w3 (w.heap.size + 1 + 1) (.slice a l c) := HV.same HVV.out (hk3 _ HVV.out.lt (HVV.out.ne HO.out))
               have hr3 : HV w3 w.heap.size (.slice none 0 0) := HV.same HR.out (hk3 _ HR.out.lt (HR.out.ne HO.out))
               have hc3 := hv3.cell
               have hf3 := hv3.frozen
               have HV3 := Lib.hid hv3
               have HR3 := Lib.hid hr3
               have HO3 := Lib.hid ho3
               have HB3 := Lib.hid ((below_drewNG HB.out _).trans hb3)
               clear ho3 hb3 hk3 hv3 hr3))
          go_roundw
          case rel => exact ⟨j + 1, _, _, by omega, by go_num, by rw [pileRow_succ, ← List.append_assoc]; exact HF.out.snoc (ar_same .mul _ (FEq.refl _ _) (FEq.refl _ _)) (ar_same .mul _ (ar_same .mul _ (FEq.refl _ _) (FEq.refl _ _)) (FEq.refl _ _)), ⟨_, _, _, rfl⟩, ownG_set HO3.out (HV3.out.ne HO3.out) _, HV3.out.set _, HR3.out.other (by omega) _, HB3.out.setCell (Nat.le_add_right _ 2) _⟩
          case measure => simp [RowKit.intOf]; omega
        · obtain rfl : j = rows - n := by omega
          have hj2 : ¬ (((rows - n : Nat)) : Int) < (rows : Int) - (n : Int) := by omega
          have hj3 : decide ((((rows - n : Nat)) : Int) < (rows : Int) - (n : Int)) = false := decide_eq_false hj2
          go_wp2
          go_roundw
          case rel => exact ⟨n + 1, _, ps, by omega, by go_num, by rw [pileUp_succ]; exact HF.out, ⟨_, _, _, rfl⟩, HO.out, HVV.out, HR.out, HB.out⟩
          case measure => simp [RowKit.intOf]; omega
    · obtain rfl : n = rows := by omega
      have hc := HVV.out.cell
      have hrc := HR.out.cell
      have hrf := HR.out.frozen
      go_wp2
      have hce := (HR.out.set (.slice a l c)).cell
      refine bodyPost_ret (v := .agg #[.slice a l c]) (by simp [results, Try.results22, go_sem, hce]) rfl ⟨_, _, _, ps, rfl, HF.out, ownG_set HO.out (HR.out.ne HO.out) _, HB.out.setCell (Nat.le_refl _) _⟩
/-- is the pile one that may be made? -/
def okPile (n : Int) (r m : Nat) : Bool := (decide (1 ≤ n) && decide (n ≤ 6)) && allV r m (pileL r n.toNat)
theorem okPile_len {n : Int} {r m : Nat} (h : okPile n r m = true) : 0 < (pileL r n.toNat).length ∧ (pileL r n.toNat).length ≤ 24 := by
  unfold okPile at h
  simp at h
  exact ⟨List.length_pos_of_mem (pileL_pos r n.toNat (by omega)), pileL_len _ (by omega) r⟩
set_option maxHeartbeats 1000000 in
theorem spec_Pile_run (k : Nat) (hk1 : 1 ≤ k) (hk6 : k ≤ 6) (r m : Nat) (w : World) :
    Calls Try.prog 10 #[.int .i64 k, .float .f32 r, .float .f32 m] w (GivesHp w (allV r m (pileL r k)) r m (pileL r k)) := by
  have hh0 := buildH0
  have HN := Lib.hid (HV.new w (.slice none 0 0))
  have HB := Lib.hid ((Below.refl w.heap.size w).alloc (Nat.le_refl _) (.cells #[.slice none 0 0] 25))
  have h1 : (1 : Int) ≤ (k : Int) := by omega
  have h6 : (k : Int) ≤ 6 := by omega
  cases hav : allV r m (pileL r k) with
    | true =>
      have HAV := Lib.hid hav
      clear hav
      go_enter Try.func10, Try.ntmps10
      go_wp2_with (first
        | (go_at_call 12; go_in)
        | (go_at_call 22
           refine (spec_l02Pile k hk6 r m _).mono ?_
           rintro e w1 ⟨a, l, c, ps, rfl, hfe, ho, hb⟩
           have HFE := Lib.hid hfe
           have HO := Lib.hid ho
           have HN1 := Lib.hid (HV.below (by exact HN.out) hb)
           have HB1 := Lib.hid (HB.out.trans (hb.mono HB.out.size))
           have hl24 : ps.length ≤ 24 := (by rw [hfe.1]; exact pileL_len k hk6 r)
           clear hfe ho hb)
        | (go_at_call 14
           refine (give_true a l c r m ps hl24 ((allV_same HFE.out).trans HAV.out) _ ⟨_, HO.out⟩).mono ?_
           rintro e w2 ⟨rfl, hb⟩
           have HO2 := Lib.hid (ownG_below HO.out hb)
           have HN2 := Lib.hid (HN1.out.below hb)
           have HB2 := Lib.hid (HB1.out.trans (hb.mono HB1.out.size))
           have hc2 := HN2.out.cell
           have hf2 := HN2.out.frozen
           clear hb))
      have hce := (HN2.out.set (.slice a l c)).cell
      refine bodyPost_ret (v := .tuple #[.agg #[.slice a l c], .bool true]) (by simp [results, Try.results10, go_sem, hce]) rfl ⟨a, l, c, ps, rfl, HFE.out, ownG_mono (ownG_set HO2.out (HN2.out.ne HO2.out) _) (by simp), HB2.out.setCell (Nat.le_refl _) _⟩
    | false =>
      have HAV := Lib.hid hav
      clear hav
      go_enter Try.func10, Try.ntmps10
      go_wp2_with (first
        | (go_at_call 12; go_in)
        | (go_at_call 22
           refine (spec_l02Pile k hk6 r m _).mono ?_
           rintro e w1 ⟨a, l, c, ps, rfl, hfe, ho, hb⟩
           have HFE := Lib.hid hfe
           have HO := Lib.hid ho
           have HN1 := Lib.hid (HV.below (by exact HN.out) hb)
           have HB1 := Lib.hid (HB.out.trans (hb.mono HB.out.size))
           have hl24 : ps.length ≤ 24 := (by rw [hfe.1]; exact pileL_len k hk6 r)
           clear hfe ho hb)
        | (go_at_call 14
           refine (give_false a l c r m ps hl24 ((allV_same HFE.out).trans HAV.out) _ ⟨_, HO.out⟩).mono ?_
           rintro e w2 ⟨rfl, hb⟩
           have HO2 := Lib.hid (ownG_below HO.out hb)
           have HN2 := Lib.hid (HN1.out.below hb)
           have HB2 := Lib.hid (HB1.out.trans (hb.mono HB1.out.size))
           have hc2 := HN2.out.cell
           have hf2 := HN2.out.frozen
           clear hb))
      have hce := (HN2.out.set (.slice none 0 0)).cell
      refine bodyPost_ret (v := .tuple #[.agg #[.slice none 0 0], .bool false]) (by simp [results, Try.results10, go_sem, hce]) rfl ⟨rfl, HB2.out.setCell (Nat.le_refl _) _⟩
theorem spec_PileOfGrains (n : Int) (r m : Nat) (w : World) :
    Calls Try.prog 10 #[.int .i64 n, .float .f32 r, .float .f32 m] w (GivesHp w (okPile n r m) r m (pileL r n.toNat)) := by
  have hh0 := buildH0
  have HB := Lib.hid ((Below.refl w.heap.size w).alloc (Nat.le_refl _) (.cells #[.slice none 0 0] 25))
  by_cases h1 : 1 ≤ n
  · by_cases h6 : n ≤ 6
    · obtain ⟨k, rfl⟩ : ∃ k : Nat, n = k := ⟨n.toNat, by omega⟩
      have e : okPile (k : Int) r m = allV r m (pileL r k) := by
        unfold okPile
        rw [decide_eq_true h1, decide_eq_true h6]; rfl
      rw [e]
      exact spec_Pile_run k (by omega) (by omega) r m w
    · have HK : Hid (okPile n r m = false) := by
        show _ = _
        unfold okPile
        rw [decide_eq_false h6]; simp
      have hd : decide (n ≤ 6) = false := decide_eq_false h6
      go_enter Try.func10, Try.ntmps10
      go_wp2_with (go_at_call 12; go_in)
      rw [HK.out]
      refine bodyPost_ret (v := .tuple #[.agg #[.slice none 0 0], .bool false]) (by simp [results, Try.results10, go_sem]) rfl ⟨rfl, HB.out⟩
  · have HK : Hid (okPile n r m = false) := by
      show _ = _
      unfold okPile
      rw [decide_eq_false h1]; rfl
    have hd : decide (1 ≤ n) = false := decide_eq_false h1
    go_enter Try.func10, Try.ntmps10
    go_wp2_with (go_at_call 12; go_in)
    rw [HK.out]
    refine bodyPost_ret (v := .tuple #[.agg #[.slice none 0 0], .bool false]) (by simp [results, Try.results10, go_sem]) rfl ⟨rfl, HB.out⟩
end Go.Proofs.Ytlolmopfeglifaa
