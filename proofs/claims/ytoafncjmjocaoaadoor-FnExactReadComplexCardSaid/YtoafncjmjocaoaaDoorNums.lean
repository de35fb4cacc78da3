/-
  The reference's ReadList, walked.
-/
import Derived.Test.YtoafncjmjocaoaaDoorMark
import Derived.Test.YtoafncjmjocaoaaDoorCutW
import Derived.Test.YtoafncjmjocaoaaDoorRdW
namespace Go.Proofs.YtoafncjmjocaoaaDoor
open Go Go.RowKit

def none4 : List UInt8 := [110, 111, 110, 101]
/-- what is read off a text. -/
def rdl (l : List UInt8) : Option (List Int) := if l = none4 then some [] else if (cutL l).length ≤ 64 then (cutL l).mapM rd else none
def GivesRL (w : World) (o : Option (List Int)) (e : Ending) (w' : World) : Prop :=
  match o with
  | none => e = .returned (.tuple #[.slice none 0 0, .bool false]) ∧ Below w.heap.size w w'
  | some xs => ∃ g cap : Nat, e = .returned (.tuple #[.slice (some ⟨g, 0, none⟩) xs.length cap, .bool true]) ∧ OwnI w.heap.size w' g cap xs ∧ Below w.heap.size w w'
theorem own_ne {B B' : Nat} {w : World} {g cap pg pcap : Nat} {xs : List Int} {ps : List ByteArray} (h : OwnI B w g cap xs) (k : OwnS B' w pg pcap ps) : pg ≠ g := by
  rintro rfl
  rcases h.2 with ⟨h0, _⟩ | ⟨g1, c1, cur1, h1, _, h3, _⟩
  · cases h0
  rcases k.2 with ⟨h0, _⟩ | ⟨g2, c2, cur2, k1, _, k3, _⟩
  · cases h0
  simp only [Value.slice.injEq, Option.some.injEq, Addr.mk.injEq] at h1 k1
  rw [← h1.1.1] at h3
  rw [← k1.1.1, h3] at k3
  simp at k3
theorem ownS_lt {B : Nat} {w : World} {g cap : Nat} {ss : List ByteArray} (h : OwnS B w g cap ss) : g < w.heap.size := by
  rcases h.2 with ⟨h0, _⟩ | ⟨g', cap', cur, h1, h2, h3, _⟩
  · cases h0
  · simp only [Value.slice.injEq, Option.some.injEq, Addr.mk.injEq] at h1
    rw [← h1.1.1] at h3
    rcases Nat.lt_or_ge g w.heap.size with h' | h'
    · exact h'
    · rw [Array.getElem?_eq_none h'] at h3; cases h3
theorem ownS_same {B : Nat} {w w' : World} {g cap : Nat} {ss : List ByteArray} (h : OwnS B w g cap ss) (hb : w'.heap[g]? = w.heap[g]?) : OwnS B w' g cap ss := by
  refine ⟨h.1, ?_⟩
  rcases h.2 with h0 | ⟨g', cap', cur, h1, h2, h3, h4⟩
  · exact .inl h0
  · refine .inr ⟨g', cap', cur, h1, h2, ?_, h4⟩
    simp only [Value.slice.injEq, Option.some.injEq, Addr.mk.injEq] at h1
    rw [← h1.1.1] at h3 ⊢
    rw [hb, h3]
theorem ownS_cell {B : Nat} {w : World} {g cap : Nat} {ss : List ByteArray} (h : OwnS B w g cap ss) (i : Nat) (hi : i < ss.length) : w.cell? ⟨g, i, none⟩ = some (.string ss[i]) := by
  rw [World.ownsRow.cellAt h i (by omega)]
  simp [sv, hi]
theorem mapM_snoc (ps : List (List UInt8)) (p : List UInt8) (xs : List Int) (x : Int) (h : ps.mapM rd = some xs) (hp : rd p = some x) : (ps ++ [p]).mapM rd = some (xs ++ [x]) := by
  simp [List.mapM_append, h, hp]
theorem mapM_none (ps : List (List UInt8)) (p : List UInt8) (hp : rd p = none) (hm : p ∈ ps) : ps.mapM rd = none := by
  induction ps with
  | nil => cases hm
  | cons q r ih =>
    rcases List.mem_cons.1 hm with rfl | hm
    · simp [hp]
    · cases hq : rd q <;> simp [hq, ih hm]
theorem mapM_length (ps : List (List UInt8)) (xs : List Int) (h : ps.mapM rd = some xs) : xs.length = ps.length := by
  induction ps generalizing xs with
  | nil => simp at h; subst h; rfl
  | cons q r ih =>
    cases hq : rd q with
    | none => simp [hq] at h
    | some x =>
      cases hr : r.mapM rd with
      | none => simp [hq, hr] at h
      | some ys =>
        simp [hq, hr] at h
        subst h
        simp [ih ys hr]
theorem cut_piece (l : List UInt8) : ∀ p ∈ cutL l, p.length ≤ l.length := by
  induction l with
  | nil => intro p hp; simp [cutL] at hp; subst hp; simp
  | cons c r ih =>
    intro p hp
    rw [cutL] at hp
    split at hp
    · rcases List.mem_cons.1 hp with rfl | hp
      · simp
      · have := ih p hp; simp; omega
    · split at hp
      · simp at hp; subst hp; simp
      · rename_i q qs hq
        rw [hq] at ih
        rcases List.mem_cons.1 hp with rfl | hp
        · have := ih q (by simp); simp; omega
        · have := ih p (by simp [hp]); simp; omega
set_option maxHeartbeats 1000000 in
theorem spec_l01Numbers (s : ByteArray) (hm : s.size ≤ 1048576) (w : World) :
    Calls Tryd.prog 38 #[.string s] w (GivesRL w (rdl s.data.toList)) := by
  have hb0 := buildI0
  by_cases hn : s.data.toList = none4
  · have hs : s = ⟨#[110, 111, 110, 101]⟩ := by
      obtain ⟨⟨l⟩⟩ := s
      have : l = none4 := hn
      subst this
      rfl
    subst hs
    clear hn
    go_enter Tryd.func38, Tryd.ntmps38
    go_wp2
    go_ret2
    exact ⟨_, _, rfl, ownI_empty w, (Below.refl _ _).alloc (Nat.le_refl _) _⟩
  · have hn2 : (s.toList == [110, 111, 110, 101]) = false := by rw [ByteArray.toList_eq]; exact beq_false_of_ne hn
    have HC := Lib.hid (spec_l01Cut s hm)
    by_cases hc : (cutL s.data.toList).length ≤ 64
    · have HR : Hid (rdl s.data.toList = (cutL s.data.toList).mapM rd) := by show _ = _; unfold rdl; rw [if_neg hn, if_pos hc]
      have HP := Lib.hid (cut_piece s.data.toList)
      have hb1 := buildI1
      go_enter Tryd.func38, Tryd.ntmps38
      have HLEN := Lib.hid hc
      clear hn hc
      go_wp2_with (go_at_call 64; refine (HC.out _).mono ?_; rintro e w' ⟨pg, pcap, ps, rfl, hd, hps, hb⟩; have hlen : ps.length ≤ 64 := (by have h1 := HLEN.out; rw [← hd] at h1; simpa [dat] using h1); have HD := Lib.hid hd; have HPS := Lib.hid hps; have HB := Lib.hid (((Below.refl w.heap.size w).alloc (Nat.le_refl _) (.cells #[] 2)).trans (hb.mono (by simp))); have HO := Lib.hid (ownI_below (ownI_empty w) hb); have hd6 : decide ((ps.length : Int) > 64) = false := (by simp; omega); clear hd hps hb)
      go_loopw [4, 6] (fun o i wr => ∃ (g cap k : Nat) (xs : List Int), k ≤ ps.length ∧ xs.length = k ∧ o = .slice (some ⟨g, 0, none⟩) k cap ∧ i = .int .i64 k ∧ OwnI w.heap.size wr g cap xs ∧ (∃ B', OwnS B' wr pg pcap ps) ∧ Below w.heap.size w wr ∧ ((dat ps).take k).mapM rd = some xs) (fun _ i _ => ps.length - (RowKit.intOf i).toNat)
      case atStart => exact ⟨_, 0, 0, [], Nat.zero_le _, rfl, rfl, rfl, HO.out, ⟨_, HPS.out⟩, HB.out, rfl⟩
      case round =>
        obtain ⟨g, cap, k, xs, hk, hxl, rfl, rfl, ho, ⟨B', hs⟩, hb, hmm⟩ := hrel
        have HO := Lib.hid ho
        have HS := Lib.hid hs
        have HB := Lib.hid hb
        have HM := Lib.hid hmm
        clear ho hb hmm
        by_cases hlt : k < ps.length
        · have h1 := ownS_cell hs k hlt
          have hmem : ps[k].data.toList ∈ dat ps := List.mem_map.2 ⟨_, List.getElem_mem hlt, rfl⟩
          have hsz : ps[k].size ≤ 1048576 := by
            have := HP.out _ (by rw [← HD.out]; exact hmem)
            simp at this
            omega
          have htk : (dat ps).take (k + 1) = (dat ps).take k ++ [ps[k].data.toList] := by
            rw [List.take_succ_eq_append_getElem (by simpa [dat] using hlt)]
            simp [dat]
          have HTK := Lib.hid htk
          have HMEM := Lib.hid hmem
          have HXL := Lib.hid hxl
          clear hs hmem htk hxl
          generalize ps[k] = q at *
          cases hrd : rd q.data.toList with
          | none =>
            have HN : Hid (rdl s.data.toList = none) := by show _ = _; rw [HR.out, ← HD.out]; exact mapM_none _ _ hrd HMEM.out
            go_wp2_with (go_at_call 62; refine (spec_l01Value _ _ hsz).mono ?_; rintro e w2 ⟨rfl, hb2⟩; have HB2 := Lib.hid (HB.out.trans (hb2.mono HB.out.size)); clear hb2)
            go_ret2
            rw [HN.out]
            exact ⟨rfl, HB2.out⟩
          | some x =>
            go_wp2_with (first
              | (go_at_call 62
                 refine (spec_l01Value _ _ hsz).mono ?_
                 rintro e w2 ⟨rfl, hb2⟩
                 obtain ⟨g', cap', w3, hap, ho3, hb3, hk3⟩ := behindI w.heap.size w2 g cap xs x 22 (by rw [HXL.out]; omega) (ownI_below HO.out hb2) (Nat.le_trans HB.out.size hb2.size)
                 have hs2 := ownS_below HS.out hb2
                 have hs3 := ownS_same hs2 (hk3 _ (ownS_lt hs2) (own_ne (ownI_below HO.out hb2) hs2))
                 rw [HXL.out] at hap
                 have HA := Lib.hid hap
                 have HO3 := Lib.hid ho3
                 have HS3 := Lib.hid hs3
                 have HB3 := Lib.hid ((HB.out.trans (hb2.mono HB.out.size)).trans hb3)
                 clear hap ho3 hs2 hs3 hb2 hb3 hk3)
              | (at_builtin; refine wpList_append_eq rfl _ _ 22 rfl rfl rfl HA.out ?_))
            go_roundw
            case rel => exact ⟨g', cap', k + 1, xs ++ [x], by omega, by simp [HXL.out], rfl, by go_num, HO3.out, ⟨_, HS3.out⟩, HB3.out, by rw [HTK.out]; exact mapM_snoc _ _ _ _ HM.out hrd⟩
            case measure => simp [RowKit.intOf] <;> omega
        · obtain rfl : k = ps.length := by omega
          have HX : Hid (rdl s.data.toList = some xs) := by
            have h := HM.out
            rw [List.take_of_length_le (by simp [dat])] at h
            show _ = _
            rw [HR.out, ← HD.out]
            exact h
          have HXL := Lib.hid hxl
          clear hs hxl
          go_wp2
          go_ret2
          rw [HX.out]
          exact ⟨g, cap, by rw [HXL.out]; rfl, HO.out, HB.out⟩
    · have HR : Hid (rdl s.data.toList = none) := by show _ = _; unfold rdl; rw [if_neg hn, if_neg hc]
      have HLEN := Lib.hid hc
      clear hn hc
      go_enter Tryd.func38, Tryd.ntmps38
      go_wp2_with (go_at_call 64; refine (HC.out _).mono ?_; rintro e w' ⟨pg, pcap, ps, rfl, hd, hps, hb⟩; have hlen : ¬ ps.length ≤ 64 := (by have h1 := HLEN.out; rw [← hd] at h1; simpa [dat] using h1); have HB := Lib.hid (((Below.refl w.heap.size w).alloc (Nat.le_refl _) (.cells #[] 2)).trans (hb.mono (by simp))); have hd6 : decide ((ps.length : Int) > 64) = true := (by simp; omega); clear hd hps hb)
      go_ret2
      rw [HR.out]
      exact ⟨rfl, HB.out⟩
theorem spec_ReadList (s : ByteArray) (hm : s.size ≤ 1048576) (w : World) :
    Calls Tryd.prog 11 #[.string s] w (GivesRL w (rdl s.data.toList)) := by
  have HC := Lib.hid (spec_l01Numbers s hm w)
  cases hr : rdl s.data.toList with
  | none =>
    rw [hr] at HC
    go_enter Tryd.func11, Tryd.ntmps11
    go_wp2_with (go_at_call 38; refine HC.out.mono ?_; rintro e w' ⟨rfl, hb⟩; have HB := Lib.hid hb; clear hb)
    go_ret2
    exact ⟨rfl, HB.out⟩
  | some xs =>
    rw [hr] at HC
    go_enter Tryd.func11, Tryd.ntmps11
    go_wp2_with (go_at_call 38; refine HC.out.mono ?_; rintro e w' ⟨g, cap, rfl, ho, hb⟩; have HO := Lib.hid ho; have HB := Lib.hid hb; clear ho hb)
    go_ret2
    exact ⟨g, cap, rfl, HO.out, HB.out⟩
end Go.Proofs.YtoafncjmjocaoaaDoor
