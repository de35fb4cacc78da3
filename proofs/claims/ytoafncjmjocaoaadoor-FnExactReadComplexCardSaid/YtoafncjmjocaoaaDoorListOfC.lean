/-
  The program's ReadComplex, walked (printed by mkc.py out of its ReadNumbers).
-/
import Derived.Test.YtoafncjmjocaoaaDoorSplitN
import Derived.Test.YtoafncjmjocaoaaDoorNumC
namespace Go.Proofs.YtoafncjmjocaoaaDoor
open Go Go.RowKit

set_option maxHeartbeats 1000000 in
theorem impl_listOfC (s : ByteArray) (hm : s.size ≤ 1048576) (m : Int) (w : World) (hv : w.cell? ⟨6, 0, none⟩ = some (.int .i64 m)) (hvars : Tz w) :
    Calls Tryd.prog 45 #[.string s, .string ⟨#[44]⟩, .int .i64 256, .func (.func 46) #[] #[]] w (GivesRC w (rdc s.data.toList)) := by
  have hb0 := buildC0
  have HVARS := Lib.hid hvars
  have HV := Lib.hid hv
  clear hvars hv
  by_cases hn : s.data.toList = none4
  · have hs : s = ⟨#[110, 111, 110, 101]⟩ := by
      obtain ⟨⟨l⟩⟩ := s
      have : l = none4 := hn
      subst this
      rfl
    subst hs
    clear hn
    go_enter Tryd.func45, Tryd.ntmps45
    go_wp2
    go_ret2
    exact ⟨_, _, rfl, ownC_empty w, (Below.refl _ _).alloc (Nat.le_refl _) _⟩
  · have hn2 : (s.toList == [110, 111, 110, 101]) = false := by rw [ByteArray.toList_eq]; exact beq_false_of_ne hn
    have hv1 : (w.alloc (.cells #[] 56)).cell? ⟨6, 0, none⟩ = some (.int .i64 m) := (World.cell?_alloc_lt _ _ _ (World.block_lt_of_cell? _ _ HV.out)).trans HV.out
    have HC := Lib.hid (split_call256 s hm m _ hv1)
    clear hv1
    by_cases hc : (cutL s.data.toList).length ≤ 256
    · have HR : Hid (rdc s.data.toList = (cutL s.data.toList).mapM hexc) := by show _ = _; unfold rdc; rw [if_neg hn, if_pos hc]
      have HP := Lib.hid (cut_piece s.data.toList)
      have hb1 := buildC1
      go_enter Tryd.func45, Tryd.ntmps45
      have HLEN := Lib.hid hc
      clear hn hc
      go_wp2_with (go_at_call 65; refine HC.out.mono ?_; rintro e w' ⟨pg, pcap, ps, rfl, hps, hb, hd0, _⟩; have hd := hd0 HLEN.out; have hlen : ps.length ≤ 256 := (by have h1 := HLEN.out; rw [← hd] at h1; simpa [dat] using h1); have HD := Lib.hid hd; have HPS := Lib.hid hps; have HB := Lib.hid (((Below.refl w.heap.size w).alloc (Nat.le_refl _) (.cells #[] 56)).trans (hb.mono (by simp))); have HO := Lib.hid (ownC_below (ownC_empty w) hb); have hd6 : decide ((ps.length : Int) > 256) = false := (by simp; omega); clear hd hd0 hps hb)
      go_loopw [10, 31] (fun o i wr => ∃ (g cap k : Nat) (xs : List (Nat × Nat)), k ≤ ps.length ∧ xs.length = k ∧ o = .slice (some ⟨g, 0, none⟩) k cap ∧ i = .int .i64 k ∧ OwnC w.heap.size wr g cap xs ∧ (∃ B', OwnS B' wr pg pcap ps) ∧ Below w.heap.size w wr ∧ ((dat ps).take k).mapM hexc = some xs) (fun _ i _ => ps.length - (RowKit.intOf i).toNat)
      case atStart => exact ⟨_, 0, 0, [], Nat.zero_le _, rfl, rfl, rfl, HO.out, ⟨_, HPS.out⟩, HB.out, rfl⟩
      case round =>
        obtain ⟨g, cap, k, xs, hk, hxl, rfl, rfl, ho, ⟨B', hs⟩, hb, hmm⟩ := hrel
        have HO := Lib.hid ho
        have HS := Lib.hid hs
        have HB := Lib.hid hb
        have HM := Lib.hid hmm
        clear ho hb hmm
        by_cases hlt : k < ps.length
        · have h1 := ownS_cell hs k hlt
          have hmem : ps[k].data.toList ∈ dat ps := List.mem_map.2 ⟨_, List.getElem_mem hlt, rfl⟩
          have hsz : ps[k].size ≤ 1048576 := by
            have := HP.out _ (by rw [← HD.out]; exact hmem)
            simp at this
            omega
          have htk : (dat ps).take (k + 1) = (dat ps).take k ++ [ps[k].data.toList] := by
            rw [List.take_succ_eq_append_getElem (by simpa [dat] using hlt)]
            simp [dat]
          have HTK := Lib.hid htk
          have HMEM := Lib.hid hmem
          have HXL := Lib.hid hxl
          clear hs hmem htk hxl
          generalize ps[k] = q at *
          cases hrd : hexc q.data.toList with
          | none =>
            have HN : Hid (rdc s.data.toList = none) := by show _ = _; rw [HR.out, ← HD.out]; exact mapM_noneC _ _ hrd HMEM.out
            have HF := Lib.hid (impl_cx q)
            rw [hrd] at HF
            go_wp2_with (go_at_call 46; refine (HF.out _ (HVARS.out.below HB.out)).mono ?_; rintro e w2 ⟨ca, cb, rfl, _, hb2⟩; have HB2 := Lib.hid (HB.out.trans (hb2.mono HB.out.size)); clear hb2)
            go_ret2
            rw [HN.out]
            exact ⟨rfl, HB2.out⟩
          | some x =>
            have HF := Lib.hid (impl_cx q)
            rw [hrd] at HF
            go_wp2_with (first
              | (go_at_call 46
                 refine (HF.out _ (HVARS.out.below HB.out)).mono ?_
                 rintro e w2 ⟨ca, cb, rfl, hcab, hb2⟩
                 obtain ⟨rfl, rfl⟩ := hcab x rfl
                 obtain ⟨g', cap', w3, hap, ho3, hb3, hk3⟩ := behindC w.heap.size w2 g cap xs x 33 (by rw [HXL.out]; omega) (ownC_below HO.out hb2) (Nat.le_trans HB.out.size hb2.size)
                 have hs2 := ownS_below HS.out hb2
                 have hs3 := ownS_same hs2 (hk3 _ (ownS_lt hs2) (own_neC (ownC_below HO.out hb2) hs2))
                 rw [HXL.out] at hap
                 have HA := Lib.hid hap
                 have HO3 := Lib.hid ho3
                 have HS3 := Lib.hid hs3
                 have HB3 := Lib.hid ((HB.out.trans (hb2.mono HB.out.size)).trans hb3)
                 clear hap ho3 hs2 hs3 hb2 hb3 hk3)
              | (at_builtin; refine wpList_append_eq rfl _ _ 33 rfl rfl rfl HA.out ?_))
            go_roundw
            case rel => exact ⟨g', cap', k + 1, xs ++ [x], by omega, by simp [HXL.out], rfl, by go_num, HO3.out, ⟨_, HS3.out⟩, HB3.out, by rw [HTK.out]; exact mapM_snocC _ _ _ _ HM.out hrd⟩
            case measure => simp [RowKit.intOf] <;> omega
        · obtain rfl : k = ps.length := by omega
          have HX : Hid (rdc s.data.toList = some xs) := by
            have h := HM.out
            rw [List.take_of_length_le (by simp [dat])] at h
            show _ = _
            rw [HR.out, ← HD.out]
            exact h
          have HXL := Lib.hid hxl
          clear hs hxl
          go_wp2
          go_ret2
          rw [HX.out]
          exact ⟨g, cap, by rw [HXL.out]; rfl, HO.out, HB.out⟩
    · have HR : Hid (rdc s.data.toList = none) := by show _ = _; unfold rdc; rw [if_neg hn, if_neg hc]
      have HLEN := Lib.hid hc
      clear hn hc
      go_enter Tryd.func45, Tryd.ntmps45
      go_wp2_with (go_at_call 65; refine HC.out.mono ?_; rintro e w' ⟨pg, pcap, ps, rfl, hps, hb, _, hd⟩; have hlen : ps.length = 257 := hd HLEN.out; have HB := Lib.hid (((Below.refl w.heap.size w).alloc (Nat.le_refl _) (.cells #[] 56)).trans (hb.mono (by simp))); have hd6 : decide ((ps.length : Int) > 256) = true := (by simp; omega); clear hd hps hb)
      go_ret2
      rw [HR.out]
      exact ⟨rfl, HB.out⟩
theorem impl_ReadComplex (s : ByteArray) (hm : s.size ≤ 1048576) (m : Int) (w : World) (hv : w.cell? ⟨6, 0, none⟩ = some (.int .i64 m)) (hvars : Tz w) :
    Calls Tryd.prog 22 #[.string s] w (GivesRC w (rdc s.data.toList)) := by
  have HC := Lib.hid (impl_listOfC s hm m w hv hvars)
  clear hv hvars
  cases hr : rdc s.data.toList with
  | none =>
    rw [hr] at HC
    go_enter Tryd.func22, Tryd.ntmps22
    go_wp2_with (go_at_call 45; refine HC.out.mono ?_; rintro e w' ⟨rfl, hb⟩; have HB := Lib.hid hb; clear hb)
    go_ret2
    exact ⟨rfl, HB.out⟩
  | some xs =>
    rw [hr] at HC
    go_enter Tryd.func22, Tryd.ntmps22
    go_wp2_with (go_at_call 45; refine HC.out.mono ?_; rintro e w' ⟨g, cap, rfl, ho, hb⟩; have HO := Lib.hid ho; have HB := Lib.hid hb; clear ho hb)
    go_ret2
    exact ⟨g, cap, rfl, HO.out, HB.out⟩
end Go.Proofs.YtoafncjmjocaoaaDoor
