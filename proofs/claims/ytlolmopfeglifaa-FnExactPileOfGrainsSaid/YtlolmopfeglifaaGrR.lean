/-
  The reference's RowOfGrains, walked.
-/
import Derived.Test.YtlolmopfeglifaaGrV
namespace Go.Proofs.Ytlolmopfeglifaa
open Go Go.RowKit

theorem rowL_len (r gap n : Nat) : (rowL r gap n).length = n := by simp [rowL]
/-- is the row one that may be made? -/
def okRow (n : Int) (r gap m : Nat) : Bool := (decide (1 ≤ n) && decide (n ≤ 24)) && (fin .f32 gap && allV r m (rowL r gap n.toNat))
theorem HV.cast {w : World} {b b' : Nat} {v : Value} (h : HV w b v) (e : b = b') : HV w b' v := e ▸ h
theorem give_true (a : Option Addr) (n c r m : Nat) (ps : List (Nat × Nat)) (hn : ps.length ≤ 24) (hv : allV r m ps = true) (w : World) (ho : ∃ B, OwnG B w (.slice a n c) r m ps) :
    Calls Try.prog 14 #[.agg #[.slice a n c]] w fun e w' => e = .returned (.tuple #[.agg #[.slice a n c], .bool true]) ∧ Below w.heap.size w w' := by
  have h := spec_l02Give a n c r m ps hn w ho
  rw [hv, if_pos rfl] at h
  exact h
theorem give_false (a : Option Addr) (n c r m : Nat) (ps : List (Nat × Nat)) (hn : ps.length ≤ 24) (hv : allV r m ps = false) (w : World) (ho : ∃ B, OwnG B w (.slice a n c) r m ps) :
    Calls Try.prog 14 #[.agg #[.slice a n c]] w fun e w' => e = .returned (.tuple #[.agg #[.slice none 0 0], .bool false]) ∧ Below w.heap.size w w' := by
  have h := spec_l02Give a n c r m ps hn w ho
  rw [hv, if_neg (by decide)] at h
  exact h
theorem HV.below {w w' : World} {b : Nat} {v : Value} (h : HV w b v) (hb : Below w.heap.size w w') : HV w' b v := h.same (hb.block _ h.lt)
set_option maxHeartbeats 1000000 in
theorem spec_RowOfGrains (n : Int) (r gap m : Nat) (w : World) :
    Calls Try.prog 5 #[.int .i64 n, .float .f32 r, .float .f32 gap, .float .f32 m] w (GivesHp w (okRow n r gap m) r m (rowL r gap n.toNat)) := by
  have hh0 := buildH0
  have HN := Lib.hid (HV.new w (.slice none 0 0))
  have HB := Lib.hid ((Below.refl w.heap.size w).alloc (Nat.le_refl _) (.cells #[.slice none 0 0] 25))
  by_cases h1 : 1 ≤ n
  · by_cases h24 : n ≤ 24
    · have HF := Lib.hid (fun w => spec_l01Finite gap w)
      cases hf : fin .f32 gap with
      | true =>
        rw [hf] at HF
        obtain ⟨k, rfl⟩ : ∃ k : Nat, n = k := ⟨n.toNat, by omega⟩
        have HK : Hid (okRow (k : Int) r gap m = allV r m (rowL r gap k)) := by
          show _ = _
          unfold okRow
          rw [decide_eq_true h1, decide_eq_true h24, hf]; rfl
        have hk24 : k ≤ 24 := by omega
        rw [show ((k : Int)).toNat = k by omega]
        clear hf
        cases hav : allV r m (rowL r gap k) with
        | true =>
          have HAV := Lib.hid hav
          rw [hav] at HK
          clear hav
          go_enter Try.func5, Try.ntmps5
          go_wp2_with (first
            | (go_at_call 12; go_in)
            | (go_at_call 13; refine (HF.out _).mono ?_; rintro e w' ⟨rfl, q, rfl⟩)
            | (go_at_call 15
               refine (spec_l02Row k (by omega) r gap m _).mono ?_
               rintro e w1 ⟨a, l, c, ps, rfl, hfe, ho, hb⟩
               have HFE := Lib.hid hfe
               have HO := Lib.hid ho
               have HN1 := Lib.hid (HV.below (by exact HN.out) hb)
               have HB1 := Lib.hid ((below_drewNG HB.out q).trans (hb.mono HB.out.size))
               have hl24 : ps.length ≤ 24 := (by rw [hfe.1, rowL_len]; exact hk24)
               clear hfe ho hb)
            | (go_at_call 14
               refine (give_true a l c r m ps hl24 ((allV_same HFE.out).trans HAV.out) _ ⟨_, HO.out⟩).mono ?_
               rintro e w2 ⟨rfl, hb⟩
               have HO2 := Lib.hid (ownG_below HO.out hb)
               have HN2 := Lib.hid (HN1.out.below hb)
               have HB2 := Lib.hid (HB1.out.trans (hb.mono HB1.out.size))
               have hc2 := HN2.out.cell
               have hf2 := HN2.out.frozen
               clear hb))
          have hce := (HN2.out.set (.slice a l c)).cell
          rw [HK.out]
          refine bodyPost_ret (v := .tuple #[.agg #[.slice a l c], .bool true]) (by simp [results, Try.results5, go_sem, hce]) rfl ⟨a, l, c, ps, rfl, HFE.out, ownG_mono (ownG_set HO2.out (HN2.out.ne HO2.out) _) (by simp), HB2.out.setCell (Nat.le_refl _) _⟩
        | false =>
          have HAV := Lib.hid hav
          rw [hav] at HK
          clear hav
          go_enter Try.func5, Try.ntmps5
          go_wp2_with (first
            | (go_at_call 12; go_in)
            | (go_at_call 13; refine (HF.out _).mono ?_; rintro e w' ⟨rfl, q, rfl⟩)
            | (go_at_call 15
               refine (spec_l02Row k (by omega) r gap m _).mono ?_
               rintro e w1 ⟨a, l, c, ps, rfl, hfe, ho, hb⟩
               have HFE := Lib.hid hfe
               have HO := Lib.hid ho
               have HN1 := Lib.hid (HV.below (by exact HN.out) hb)
               have HB1 := Lib.hid ((below_drewNG HB.out q).trans (hb.mono HB.out.size))
               have hl24 : ps.length ≤ 24 := (by rw [hfe.1, rowL_len]; exact hk24)
               clear hfe ho hb)
            | (go_at_call 14
               refine (give_false a l c r m ps hl24 ((allV_same HFE.out).trans HAV.out) _ ⟨_, HO.out⟩).mono ?_
               rintro e w2 ⟨rfl, hb⟩
               have HO2 := Lib.hid (ownG_below HO.out hb)
               have HN2 := Lib.hid (HN1.out.below hb)
               have HB2 := Lib.hid (HB1.out.trans (hb.mono HB1.out.size))
               have hc2 := HN2.out.cell
               have hf2 := HN2.out.frozen
               clear hb))
          have hce := (HN2.out.set (.slice none 0 0)).cell
          rw [HK.out]
          refine bodyPost_ret (v := .tuple #[.agg #[.slice none 0 0], .bool false]) (by simp [results, Try.results5, go_sem, hce]) rfl ⟨rfl, HB2.out.setCell (Nat.le_refl _) _⟩
      | false =>
        rw [hf] at HF
        have HK : Hid (okRow n r gap m = false) := by
          show _ = _
          unfold okRow
          rw [hf]; simp
        clear hf
        go_enter Try.func5, Try.ntmps5
        go_wp2_with (first
          | (go_at_call 12; go_in)
          | (go_at_call 13; refine (HF.out _).mono ?_; rintro e w' ⟨rfl, q, rfl⟩))
        have hce := (HV.set (w := (w.alloc (.cells #[.slice none 0 0] 25)).drewN q) HN.out (.slice none 0 0)).cell
        rw [HK.out]
        refine bodyPost_ret (v := .tuple #[.agg #[.slice none 0 0], .bool false]) (by simp [results, Try.results5, go_sem, hce]) rfl ⟨rfl, (by first | exact below_drewNG HB.out q | exact (below_drewNG HB.out q).setCell (Nat.le_refl _) _)⟩
    · have HK : Hid (okRow n r gap m = false) := by
        show _ = _
        unfold okRow
        rw [decide_eq_false h24]; simp
      have hd : decide (n ≤ 24) = false := decide_eq_false h24
      go_enter Try.func5, Try.ntmps5
      go_wp2_with (go_at_call 12; go_in)
      rw [HK.out]
      refine bodyPost_ret (v := .tuple #[.agg #[.slice none 0 0], .bool false]) (by simp [results, Try.results5, go_sem]) rfl ⟨rfl, (by first | exact HB.out | exact HB.out.setCell (Nat.le_refl _) _)⟩
  · have HK : Hid (okRow n r gap m = false) := by
      show _ = _
      unfold okRow
      rw [decide_eq_false h1]; rfl
    have hd : decide (1 ≤ n) = false := decide_eq_false h1
    go_enter Try.func5, Try.ntmps5
    go_wp2_with (go_at_call 12; go_in)
    rw [HK.out]
    refine bodyPost_ret (v := .tuple #[.agg #[.slice none 0 0], .bool false]) (by simp [results, Try.results5, go_sem]) rfl ⟨rfl, (by first | exact HB.out | exact HB.out.setCell (Nat.le_refl _) _)⟩
end Go.Proofs.Ytlolmopfeglifaa
