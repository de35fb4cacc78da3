/-
  The reference's ReadComplex, walked (printed by mkc.py out of the walk of its ReadList).
-/
import Derived.Test.YtoafncjmjocaoaaDoorCx
import Derived.Test.YtoafncjmjocaoaaDoorNums
namespace Go.Proofs.YtoafncjmjocaoaaDoor
open Go Go.RowKit

/-- what is read off a text. -/
def rdc (l : List UInt8) : Option (List (Nat × Nat)) := if l = none4 then some [] else if (cutL l).length ≤ 256 then (cutL l).mapM hexc else none
def GivesRC (w : World) (o : Option (List (Nat × Nat))) (e : Ending) (w' : World) : Prop :=
  match o with
  | none => e = .returned (.tuple #[.slice none 0 0, .bool false]) ∧ Below w.heap.size w w'
  | some xs => ∃ g cap : Nat, e = .returned (.tuple #[.slice (some ⟨g, 0, none⟩) xs.length cap, .bool true]) ∧ OwnC w.heap.size w' g cap xs ∧ Below w.heap.size w w'
theorem ext1 (q : ByteArray) : (q.extract 0 8).data.toList = q.data.toList.take 8 := by simp
theorem ext2 (q : ByteArray) : (q.extract 8 16).data.toList = (q.data.toList.drop 8).take 8 := by simp
theorem own_neC {B B' : Nat} {w : World} {g cap pg pcap : Nat} {xs : List (Nat × Nat)} {ps : List ByteArray} (h : OwnC B w g cap xs) (k : OwnS B' w pg pcap ps) : pg ≠ g := by
  rintro rfl
  rcases h.2 with ⟨h0, _⟩ | ⟨g1, c1, cur1, h1, _, h3, _⟩
  · cases h0
  rcases k.2 with ⟨h0, _⟩ | ⟨g2, c2, cur2, k1, _, k3, _⟩
  · cases h0
  simp only [Value.slice.injEq, Option.some.injEq, Addr.mk.injEq] at h1 k1
  rw [← h1.1.1] at h3
  rw [← k1.1.1, h3] at k3
  simp at k3
theorem mapM_snocC (ps : List (List UInt8)) (p : List UInt8) (xs : List (Nat × Nat)) (x : Nat × Nat) (h : ps.mapM hexc = some xs) (hp : hexc p = some x) : (ps ++ [p]).mapM hexc = some (xs ++ [x]) := by
  simp [List.mapM_append, h, hp]
theorem mapM_noneC (ps : List (List UInt8)) (p : List UInt8) (hp : hexc p = none) (hm : p ∈ ps) : ps.mapM hexc = none := by
  induction ps with
  | nil => cases hm
  | cons q r ih =>
    rcases List.mem_cons.1 hm with rfl | hm
    · simp [hp]
    · cases hq : hexc q <;> simp [hq, ih hm]
theorem mapM_lengthC (ps : List (List UInt8)) (xs : List (Nat × Nat)) (h : ps.mapM hexc = some xs) : xs.length = ps.length := by
  induction ps generalizing xs with
  | nil => simp at h; subst h; rfl
  | cons q r ih =>
    cases hq : hexc q with
    | none => simp [hq] at h
    | some x =>
      cases hr : r.mapM hexc with
      | none => simp [hq, hr] at h
      | some ys =>
        simp [hq, hr] at h
        subst h
        simp [ih ys hr]
set_option maxHeartbeats 1000000 in
set_option maxRecDepth 100000 in
theorem spec_l01CRead (s : ByteArray) (hm : s.size ≤ 1048576) (w : World) :
    Calls Tryd.prog 44 #[.string s] w (GivesRC w (rdc s.data.toList)) := by
  have hb0 := buildC0
  by_cases hn : s.data.toList = none4
  · have hs : s = ⟨#[110, 111, 110, 101]⟩ := by
      obtain ⟨⟨l⟩⟩ := s
      have : l = none4 := hn
      subst this
      rfl
    subst hs
    clear hn
    go_enter Tryd.func44, Tryd.ntmps44
    go_wp2
    go_ret2
    exact ⟨_, _, rfl, ownC_empty w, (Below.refl _ _).alloc (Nat.le_refl _) _⟩
  · have hn2 : (s.toList == [110, 111, 110, 101]) = false := by rw [ByteArray.toList_eq]; exact beq_false_of_ne hn
    have HC := Lib.hid (spec_l01Cut s hm)
    by_cases hc : (cutL s.data.toList).length ≤ 256
    · have HR : Hid (rdc s.data.toList = (cutL s.data.toList).mapM hexc) := by show _ = _; unfold rdc; rw [if_neg hn, if_pos hc]
      have HP := Lib.hid (cut_piece s.data.toList)
      have hb1 := buildC1
      go_enter Tryd.func44, Tryd.ntmps44
      have HLEN := Lib.hid hc
      clear hn hc
      go_wp2_with (go_at_call 64; refine (HC.out _).mono ?_; rintro e w' ⟨pg, pcap, ps, rfl, hd, hps, hb⟩; have hlen : ps.length ≤ 256 := (by have h1 := HLEN.out; rw [← hd] at h1; simpa [dat] using h1); have HD := Lib.hid hd; have HPS := Lib.hid hps; have HB := Lib.hid (((Below.refl w.heap.size w).alloc (Nat.le_refl _) (.cells #[] 56)).trans (hb.mono (by simp))); have HO := Lib.hid (ownC_below (ownC_empty w) hb); have hd6 : decide ((ps.length : Int) > 256) = false := (by simp; omega); clear hd hps hb)
      go_loopw [4, 6] (fun o i wr => ∃ (g cap k : Nat) (xs : List (Nat × Nat)), k ≤ ps.length ∧ xs.length = k ∧ o = .slice (some ⟨g, 0, none⟩) k cap ∧ i = .int .i64 k ∧ OwnC w.heap.size wr g cap xs ∧ (∃ B', OwnS B' wr pg pcap ps) ∧ Below w.heap.size w wr ∧ ((dat ps).take k).mapM hexc = some xs) (fun _ i _ => ps.length - (RowKit.intOf i).toNat)
      case atStart => exact ⟨_, 0, 0, [], Nat.zero_le _, rfl, rfl, rfl, HO.out, ⟨_, HPS.out⟩, HB.out, rfl⟩
      case round =>
        obtain ⟨g, cap, k, xs, hk, hxl, rfl, rfl, ho, ⟨B', hs⟩, hb, hmm⟩ := hrel
        have HO := Lib.hid ho
        have HS := Lib.hid hs
        have HB := Lib.hid hb
        have HM := Lib.hid hmm
        clear ho hb hmm
        by_cases hlt : k < ps.length
        · have h1 := ownS_cell hs k hlt
          have hmem : ps[k].data.toList ∈ dat ps := List.mem_map.2 ⟨_, List.getElem_mem hlt, rfl⟩
          have hsz : ps[k].size ≤ 1048576 := by
            have := HP.out _ (by rw [← HD.out]; exact hmem)
            simp at this
            omega
          have htk : (dat ps).take (k + 1) = (dat ps).take k ++ [ps[k].data.toList] := by
            rw [List.take_succ_eq_append_getElem (by simpa [dat] using hlt)]
            simp [dat]
          have HTK := Lib.hid htk
          have HMEM := Lib.hid hmem
          have HXL := Lib.hid hxl
          clear hs hmem htk hxl
          generalize ps[k] = q at *
          by_cases h16 : q.size = 16
          · have hd16 : ((q.size : Int) != 16) = false := by rw [h16]; rfl
            have hql : q.data.toList.length = 16 := by simpa using h16
            have HD1 := Lib.hid (spec_l01Digits (q.extract 0 8) (by simp; omega))
            have HD2 := Lib.hid (spec_l01Digits (q.extract 8 16) (by simp; omega))
            rw [ext1 q] at HD1
            rw [ext2 q] at HD2
            have hhx := hexc_16 hql
            cases hA : okx (q.data.toList.take 8) with
            | false =>
              rw [hA] at hhx HD1
              have hhv : hexc q.data.toList = none := hhx
              clear hhx hA hql
              have HN : Hid (rdc s.data.toList = none) := by show _ = _; rw [HR.out, ← HD.out]; exact mapM_noneC _ _ hhv HMEM.out
              clear hhv
              go_wp2_with (go_at_call 70; first | ((with_reducible refine (HD1.out _).mono ?_); rintro e w2 ⟨rfl, hw⟩; have hw2 := hw.symm; subst hw2) | ((with_reducible refine (HD2.out _).mono ?_); rintro e w2 ⟨rfl, hw⟩; have hw2 := hw.symm; subst hw2))
              go_ret2
              rw [HN.out]
              exact ⟨rfl, HB.out⟩
            | true =>
              cases hBb : okx ((q.data.toList.drop 8).take 8) with
              | false =>
                rw [hA, hBb] at hhx
                rw [hA] at HD1
                rw [hBb] at HD2
                have hhv : hexc q.data.toList = none := hhx
                clear hhx hA hBb hql
                have HN : Hid (rdc s.data.toList = none) := by show _ = _; rw [HR.out, ← HD.out]; exact mapM_noneC _ _ hhv HMEM.out
                clear hhv
                go_wp2_with (go_at_call 70; first | ((with_reducible refine (HD1.out _).mono ?_); rintro e w2 ⟨rfl, hw⟩; have hw2 := hw.symm; subst hw2) | ((with_reducible refine (HD2.out _).mono ?_); rintro e w2 ⟨rfl, hw⟩; have hw2 := hw.symm; subst hw2))
                go_ret2
                rw [HN.out]
                exact ⟨rfl, HB.out⟩
              | true =>
                rw [hA, hBb] at hhx
                rw [hA, sx_ok hA] at HD1
                rw [hBb, sx_ok hBb] at HD2
                have hhv : hexc q.data.toList = some (hval 0 (q.data.toList.take 8), hval 0 ((q.data.toList.drop 8).take 8)) := hhx
                have HV := Lib.hid hhv
                clear hhv hhx hA hBb hql
                generalize hval 0 (q.data.toList.take 8) = na at *
                generalize hval 0 ((q.data.toList.drop 8).take 8) = nb at *
                obtain ⟨g', cap', w3, hap, ho3, hb3, hk3⟩ := behindC w.heap.size _ g cap xs (na, nb) 33 (by rw [HXL.out]; omega) HO.out HB.out.size
                have hs3 := ownS_same HS.out (hk3 _ (ownS_lt HS.out) (own_neC HO.out HS.out))
                rw [HXL.out] at hap
                have HA := Lib.hid hap
                have HO3 := Lib.hid ho3
                have HS3 := Lib.hid hs3
                have HB3 := Lib.hid (HB.out.trans hb3)
                clear hap ho3 hs3 hb3 hk3
                go_wp2_with (first
                  | (go_at_call 70; first | ((with_reducible refine (HD1.out _).mono ?_); rintro e w2 ⟨rfl, hw⟩; have hw2 := hw.symm; subst hw2) | ((with_reducible refine (HD2.out _).mono ?_); rintro e w2 ⟨rfl, hw⟩; have hw2 := hw.symm; subst hw2))
                  | (at_builtin; refine wpList_append_eq rfl _ _ 33 rfl rfl rfl HA.out ?_))
                go_roundw
                case rel => exact ⟨g', cap', k + 1, xs ++ [(na, nb)], by omega, by simp [HXL.out], rfl, by go_num, HO3.out, ⟨_, HS3.out⟩, HB3.out, by rw [HTK.out]; exact mapM_snocC _ _ _ _ HM.out HV.out⟩
                case measure => simp [RowKit.intOf] <;> omega
          · have hd16 : ((q.size : Int) != 16) = true := by simp; omega
            have hhv : hexc q.data.toList = none := by unfold hexc okC; rw [decide_eq_false (by simpa using h16)]; rfl
            have HN : Hid (rdc s.data.toList = none) := by show _ = _; rw [HR.out, ← HD.out]; exact mapM_noneC _ _ hhv HMEM.out
            clear hhv
            go_wp2
            go_ret2
            rw [HN.out]
            exact ⟨rfl, HB.out⟩
        · obtain rfl : k = ps.length := by omega
          have HX : Hid (rdc s.data.toList = some xs) := by
            have h := HM.out
            rw [List.take_of_length_le (by simp [dat])] at h
            show _ = _
            rw [HR.out, ← HD.out]
            exact h
          have HXL := Lib.hid hxl
          clear hs hxl
          go_wp2
          go_ret2
          rw [HX.out]
          exact ⟨g, cap, by rw [HXL.out]; rfl, HO.out, HB.out⟩
    · have HR : Hid (rdc s.data.toList = none) := by show _ = _; unfold rdc; rw [if_neg hn, if_neg hc]
      have HLEN := Lib.hid hc
      clear hn hc
      go_enter Tryd.func44, Tryd.ntmps44
      go_wp2_with (go_at_call 64; refine (HC.out _).mono ?_; rintro e w' ⟨pg, pcap, ps, rfl, hd, hps, hb⟩; have hlen : ¬ ps.length ≤ 256 := (by have h1 := HLEN.out; rw [← hd] at h1; simpa [dat] using h1); have HB := Lib.hid (((Below.refl w.heap.size w).alloc (Nat.le_refl _) (.cells #[] 56)).trans (hb.mono (by simp))); have hd6 : decide ((ps.length : Int) > 256) = true := (by simp; omega); clear hd hps hb)
      go_ret2
      rw [HR.out]
      exact ⟨rfl, HB.out⟩
theorem spec_ReadComplex (s : ByteArray) (hm : s.size ≤ 1048576) (w : World) :
    Calls Tryd.prog 21 #[.string s] w (GivesRC w (rdc s.data.toList)) := by
  have HC := Lib.hid (spec_l01CRead s hm w)
  cases hr : rdc s.data.toList with
  | none =>
    rw [hr] at HC
    go_enter Tryd.func21, Tryd.ntmps21
    go_wp2_with (go_at_call 44; refine HC.out.mono ?_; rintro e w' ⟨rfl, hb⟩; have HB := Lib.hid hb; clear hb)
    go_ret2
    exact ⟨rfl, HB.out⟩
  | some xs =>
    rw [hr] at HC
    go_enter Tryd.func21, Tryd.ntmps21
    go_wp2_with (go_at_call 44; refine HC.out.mono ?_; rintro e w' ⟨g, cap, rfl, ho, hb⟩; have HO := Lib.hid ho; have HB := Lib.hid hb; clear ho hb)
    go_ret2
    exact ⟨g, cap, rfl, HO.out, HB.out⟩
end Go.Proofs.YtoafncjmjocaoaaDoor
