/-
  The reference's ReadNumbers, walked (printed by mknum.py out of the walk of its ReadList).
-/
import Derived.Test.YtoafncjmjocaoaaDoorRowF
import Derived.Test.YtoafncjmjocaoaaDoorFH
import Derived.Test.YtoafncjmjocaoaaDoorNums
namespace Go.Proofs.YtoafncjmjocaoaaDoor
open Go Go.RowKit

/-- what is read off a text. -/
def rdn (l : List UInt8) : Option (List Nat) := if l = none4 then some [] else if (cutL l).length ≤ 256 then (cutL l).mapM hexv else none
def GivesRN (w : World) (o : Option (List Nat)) (e : Ending) (w' : World) : Prop :=
  match o with
  | none => e = .returned (.tuple #[.slice none 0 0, .bool false]) ∧ Below w.heap.size w w'
  | some xs => ∃ g cap : Nat, e = .returned (.tuple #[.slice (some ⟨g, 0, none⟩) xs.length cap, .bool true]) ∧ OwnF w.heap.size w' g cap xs ∧ Below w.heap.size w w'
theorem own_neF {B B' : Nat} {w : World} {g cap pg pcap : Nat} {xs : List Nat} {ps : List ByteArray} (h : OwnF B w g cap xs) (k : OwnS B' w pg pcap ps) : pg ≠ g := by
  rintro rfl
  rcases h.2 with ⟨h0, _⟩ | ⟨g1, c1, cur1, h1, _, h3, _⟩
  · cases h0
  rcases k.2 with ⟨h0, _⟩ | ⟨g2, c2, cur2, k1, _, k3, _⟩
  · cases h0
  simp only [Value.slice.injEq, Option.some.injEq, Addr.mk.injEq] at h1 k1
  rw [← h1.1.1] at h3
  rw [← k1.1.1, h3] at k3
  simp at k3
theorem mapM_snocF (ps : List (List UInt8)) (p : List UInt8) (xs : List Nat) (x : Nat) (h : ps.mapM hexv = some xs) (hp : hexv p = some x) : (ps ++ [p]).mapM hexv = some (xs ++ [x]) := by
  simp [List.mapM_append, h, hp]
theorem mapM_noneF (ps : List (List UInt8)) (p : List UInt8) (hp : hexv p = none) (hm : p ∈ ps) : ps.mapM hexv = none := by
  induction ps with
  | nil => cases hm
  | cons q r ih =>
    rcases List.mem_cons.1 hm with rfl | hm
    · simp [hp]
    · cases hq : hexv q <;> simp [hq, ih hm]
theorem mapM_lengthF (ps : List (List UInt8)) (xs : List Nat) (h : ps.mapM hexv = some xs) : xs.length = ps.length := by
  induction ps generalizing xs with
  | nil => simp at h; subst h; rfl
  | cons q r ih =>
    cases hq : hexv q with
    | none => simp [hq] at h
    | some x =>
      cases hr : r.mapM hexv with
      | none => simp [hq, hr] at h
      | some ys =>
        simp [hq, hr] at h
        subst h
        simp [ih ys hr]
set_option maxHeartbeats 1000000 in
theorem spec_l01NRead (s : ByteArray) (hm : s.size ≤ 1048576) (w : World) :
    Calls Tryd.prog 40 #[.string s] w (GivesRN w (rdn s.data.toList)) := by
  have hb0 := buildF0
  by_cases hn : s.data.toList = none4
  · have hs : s = ⟨#[110, 111, 110, 101]⟩ := by
      obtain ⟨⟨l⟩⟩ := s
      have : l = none4 := hn
      subst this
      rfl
    subst hs
    clear hn
    go_enter Tryd.func40, Tryd.ntmps40
    go_wp2
    go_ret2
    exact ⟨_, _, rfl, ownF_empty w, (Below.refl _ _).alloc (Nat.le_refl _) _⟩
  · have hn2 : (s.toList == [110, 111, 110, 101]) = false := by rw [ByteArray.toList_eq]; exact beq_false_of_ne hn
    have HC := Lib.hid (spec_l01Cut s hm)
    by_cases hc : (cutL s.data.toList).length ≤ 256
    · have HR : Hid (rdn s.data.toList = (cutL s.data.toList).mapM hexv) := by show _ = _; unfold rdn; rw [if_neg hn, if_pos hc]
      have HP := Lib.hid (cut_piece s.data.toList)
      have hb1 := buildF1
      go_enter Tryd.func40, Tryd.ntmps40
      have HLEN := Lib.hid hc
      clear hn hc
      go_wp2_with (go_at_call 64; refine (HC.out _).mono ?_; rintro e w' ⟨pg, pcap, ps, rfl, hd, hps, hb⟩; have hlen : ps.length ≤ 256 := (by have h1 := HLEN.out; rw [← hd] at h1; simpa [dat] using h1); have HD := Lib.hid hd; have HPS := Lib.hid hps; have HB := Lib.hid (((Below.refl w.heap.size w).alloc (Nat.le_refl _) (.cells #[] 51)).trans (hb.mono (by simp))); have HO := Lib.hid (ownF_below (ownF_empty w) hb); have hd6 : decide ((ps.length : Int) > 256) = false := (by simp; omega); clear hd hps hb)
      go_loopw [4, 6] (fun o i wr => ∃ (g cap k : Nat) (xs : List Nat), k ≤ ps.length ∧ xs.length = k ∧ o = .slice (some ⟨g, 0, none⟩) k cap ∧ i = .int .i64 k ∧ OwnF w.heap.size wr g cap xs ∧ (∃ B', OwnS B' wr pg pcap ps) ∧ Below w.heap.size w wr ∧ ((dat ps).take k).mapM hexv = some xs) (fun _ i _ => ps.length - (RowKit.intOf i).toNat)
      case atStart => exact ⟨_, 0, 0, [], Nat.zero_le _, rfl, rfl, rfl, HO.out, ⟨_, HPS.out⟩, HB.out, rfl⟩
      case round =>
        obtain ⟨g, cap, k, xs, hk, hxl, rfl, rfl, ho, ⟨B', hs⟩, hb, hmm⟩ := hrel
        have HO := Lib.hid ho
        have HS := Lib.hid hs
        have HB := Lib.hid hb
        have HM := Lib.hid hmm
        clear ho hb hmm
        by_cases hlt : k < ps.length
        · have h1 := ownS_cell hs k hlt
          have hmem : ps[k].data.toList ∈ dat ps := List.mem_map.2 ⟨_, List.getElem_mem hlt, rfl⟩
          have hsz : ps[k].size ≤ 1048576 := by
            have := HP.out _ (by rw [← HD.out]; exact hmem)
            simp at this
            omega
          have htk : (dat ps).take (k + 1) = (dat ps).take k ++ [ps[k].data.toList] := by
            rw [List.take_succ_eq_append_getElem (by simpa [dat] using hlt)]
            simp [dat]
          have HTK := Lib.hid htk
          have HMEM := Lib.hid hmem
          have HXL := Lib.hid hxl
          clear hs hmem htk hxl
          generalize ps[k] = q at *
          by_cases h8 : q.size = 8
          · have hd8 : ((q.size : Int) != 8) = false := by rw [h8]; rfl
            have hql : q.data.toList.length = 8 := by simpa using h8
            go_wp2
            go_loopw [7, 8] (fun n i wr2 => ∃ (j : Nat) (acc : Int), j ≤ 8 ∧ n = .int .i64 acc ∧ i = .int .i64 j ∧ wr2 = wr ∧ 0 ≤ acc ∧ acc ≤ 4294967295 ∧ Hid (acc = (hval 0 (q.data.toList.take j) : Nat) ∧ (q.data.toList.take j).all isHex = true)) (fun _ i _ => 8 - (RowKit.intOf i).toNat)
            case atStart => exact ⟨0, 0, by omega, rfl, rfl, rfl, by omega, by omega, rfl, rfl⟩
            case round =>
              obtain ⟨j, acc, hj, rfl, rfl, rfl, ha0, ha1, hh⟩ := hrel
              obtain ⟨hacc, hall⟩ := hh.out
              have HALL := Lib.hid hall
              by_cases hj8 : j < 8
              · have hjs : j < q.size := by omega
                have hst := hval_step q.data.toList j (by omega)
                have hsa : (q.data.toList.take (j + 1)).all isHex = ((q.data.toList.take j).all isHex && isHex q[j]) := by
                  rw [take_snocH q j hjs, List.all_append]; simp
                have hqj : q.data.toList[j]'(by omega) = q[j] := rfl
                rw [hqj] at hst
                by_cases hx : isHex q[j] = true
                · have hb := hval_bound (q.data.toList.take (j + 1)) (by rw [hsa, hall, hx]; rfl) (j + 1) (by rw [List.length_take]; omega)
                  rw [List.take_take, Nat.min_self] at hb
                  have hnew : hval 0 (q.data.toList.take (j + 1)) < 4294967296 := Nat.lt_of_lt_of_le hb (by rw [show 4294967296 = 16 ^ 8 from rfl]; exact Nat.pow_le_pow_right (by decide) (by omega))
                  have HALL2 : Hid ((q.data.toList.take (j + 1)).all isHex = true) := by show _ = true; rw [hsa, hall, hx]; rfl
                  obtain ⟨nx, hnx⟩ : ∃ nx, nx = hval 0 (q.data.toList.take (j + 1)) := ⟨_, rfl⟩
                  rw [← hnx] at hst hnew
                  have HNX := Lib.hid hnx
                  rcases isHex_cases hx with ⟨hd0, hd1⟩ | ⟨hd0, hd1⟩
                  · have hdv : digV q[j] = q[j].toNat - 48 := by unfold digV; rw [if_pos hd1]
                    rw [hdv] at hst
                    have HN : Hid (16 * acc + ((q[j].toNat : Int) - 48) = (nx : Int)) := Lib.hid (by omega)
                    have HL : Hid (nx ≤ 4294967295) := Lib.hid (by omega)
                    have iov : 16 * acc + ((q[j].toNat : Int) - 48) ≤ 4294967295 := by omega
                    clear hst hdv hx hnew hacc hall hb hsa hqj hnx hh
                    go_wp2
                    go_roundw
                    case rel => exact ⟨j + 1, _, by omega, rfl, by go_num, trivial, by omega, by have := HN.out; omega, HN.out.trans (by rw [HNX.out]), HALL2.out⟩
                    case measure => simp [RowKit.intOf] <;> omega
                  · have hdv : digV q[j] = q[j].toNat - 87 := by unfold digV; rw [if_neg (by omega)]
                    rw [hdv] at hst
                    have HN : Hid (16 * acc + ((q[j].toNat : Int) - 97 + 10) = (nx : Int)) := Lib.hid (by omega)
                    have iov : 16 * acc + ((q[j].toNat : Int) - 97 + 10) ≤ 4294967295 := by omega
                    clear hst hdv hx hnew hacc hall hb hsa hqj hnx hh
                    go_wp2
                    go_roundw
                    case rel => exact ⟨j + 1, _, by omega, rfl, by go_num, trivial, by omega, by have := HN.out; omega, HN.out.trans (by rw [HNX.out]), HALL2.out⟩
                    case measure => simp [RowKit.intOf] <;> omega
                · have hxf : isHex q[j] = false := by simpa using hx
                  have hbad : q.data.toList.all isHex = false := by
                    rw [List.all_eq_false]
                    exact ⟨q[j], List.getElem_mem (by omega), by rw [hxf]; decide⟩
                  have hhv : hexv q.data.toList = none := by unfold hexv; rw [(word8_noHex hbad).2]; rfl
                  have HN : Hid (rdn s.data.toList = none) := by show _ = _; rw [HR.out, ← HD.out]; exact mapM_noneF _ _ hhv HMEM.out
                  have hcase : q[j].toNat < 48 ∨ (57 < q[j].toNat ∧ q[j].toNat < 97) ∨ 102 < q[j].toNat := by
                    have hi : ¬ ((48 ≤ q[j].toNat ∧ q[j].toNat ≤ 57) ∨ (97 ≤ q[j].toNat ∧ q[j].toNat ≤ 102)) := by
                      intro hc
                      apply hx
                      unfold isHex
                      simpa using hc
                    omega
                  clear hst hx hxf hbad hhv hacc hall hsa hqj hh
                  rcases hcase with hc1 | ⟨hc1, hc2⟩ | hc1
                  all_goals
                    go_wp2
                    go_ret2
                    rw [HN.out]
                    exact ⟨rfl, HB.out⟩
              · obtain rfl : j = 8 := by omega
                have hw : word8 q.data.toList = true := by
                  rw [List.take_of_length_le (by omega)] at hall
                  unfold word8
                  rw [hall, decide_eq_true hql]; rfl
                have hlt := word8_lt hw
                rw [List.take_of_length_le (by omega)] at hacc
                have HOK : Hid (okx q.data.toList = decide (bitsN (hval 0 q.data.toList) = hval 0 q.data.toList)) := by
                  show _ = _
                  unfold okx; rw [hw]; rfl
                have HHV : Hid (okx q.data.toList = true → hexv q.data.toList = some (hval 0 q.data.toList)) := by
                  intro ho
                  unfold hexv; rw [if_pos ho]
                have HHN : Hid (okx q.data.toList = false → hexv q.data.toList = none) := by
                  intro ho
                  unfold hexv; rw [if_neg (by rw [ho]; decide)]
                have HSB := Lib.hid (fun w => spec_l01Bits (hval 0 q.data.toList) (by omega) w)
                generalize hval 0 q.data.toList = n at *
                subst hacc
                have hn2 : (n : Int) < 4294967296 := by omega
                have hwr : IntKind.u32.wrap (n : Int) = (n : Int) := by simp [IntKind.wrap, IntKind.signed, IntKind.bits]; omega
                have hf := From32
                clear hw hlt hall hh hql
                by_cases hbn : bitsN n = n
                · have HV := Lib.hid (HHV.out (by rw [HOK.out]; exact decide_eq_true hbn))
                  have hcb : (((bitsN n : Nat) : Int) != (n : Int)) = false := by rw [hbn]; simp
                  go_wp2_with (first
                    | (go_at_call 66; go_in)
                    | (go_at_call 67
                       refine (HSB.out _).mono ?_
                       rintro e w2 ⟨rfl, hw⟩
                       have hw2 := hw.symm
                       subst hw2
                       obtain ⟨g', cap', w3, hap, ho3, hb3, hk3⟩ := behindF w.heap.size _ g cap xs n 28 (by rw [HXL.out]; omega) HO.out HB.out.size
                       have hs3 := ownS_same HS.out (hk3 _ (ownS_lt HS.out) (own_neF HO.out HS.out))
                       rw [HXL.out] at hap
                       have HA := Lib.hid hap
                       have HO3 := Lib.hid ho3
                       have HS3 := Lib.hid hs3
                       have HB3 := Lib.hid (HB.out.trans hb3)
                       clear hap ho3 hs3 hb3 hk3)
                    | (at_builtin; refine wpList_append_eq rfl _ _ 28 rfl rfl rfl HA.out ?_))
                  go_roundw
                  case rel => exact ⟨g', cap', k + 1, xs ++ [n], by omega, by simp [HXL.out], rfl, by go_num, HO3.out, ⟨_, HS3.out⟩, HB3.out, by rw [HTK.out]; exact mapM_snocF _ _ _ _ HM.out HV.out⟩
                  case measure => simp [RowKit.intOf] <;> omega
                · have HV := Lib.hid (HHN.out (by rw [HOK.out]; exact decide_eq_false hbn))
                  have HN : Hid (rdn s.data.toList = none) := by show _ = _; rw [HR.out, ← HD.out]; exact mapM_noneF _ _ HV.out HMEM.out
                  have hcb : (((bitsN n : Nat) : Int) != (n : Int)) = true := by simp; omega
                  go_wp2_with (first
                    | (go_at_call 66; go_in)
                    | (go_at_call 67; refine (HSB.out _).mono ?_; rintro e w2 ⟨rfl, hw⟩; have hw2 := hw.symm; subst hw2))
                  go_ret2
                  rw [HN.out]
                  exact ⟨rfl, HB.out⟩
          · have hd8 : ((q.size : Int) != 8) = true := by simp; omega
            have hhv : hexv q.data.toList = none := by unfold hexv; rw [(word8_no8 (l := q.data.toList) (by simpa using h8)).2]; rfl
            have HN : Hid (rdn s.data.toList = none) := by show _ = _; rw [HR.out, ← HD.out]; exact mapM_noneF _ _ hhv HMEM.out
            clear hhv
            go_wp2
            go_ret2
            rw [HN.out]
            exact ⟨rfl, HB.out⟩
        · obtain rfl : k = ps.length := by omega
          have HX : Hid (rdn s.data.toList = some xs) := by
            have h := HM.out
            rw [List.take_of_length_le (by simp [dat])] at h
            show _ = _
            rw [HR.out, ← HD.out]
            exact h
          have HXL := Lib.hid hxl
          clear hs hxl
          go_wp2
          go_ret2
          rw [HX.out]
          exact ⟨g, cap, by rw [HXL.out]; rfl, HO.out, HB.out⟩
    · have HR : Hid (rdn s.data.toList = none) := by show _ = _; unfold rdn; rw [if_neg hn, if_neg hc]
      have HLEN := Lib.hid hc
      clear hn hc
      go_enter Tryd.func40, Tryd.ntmps40
      go_wp2_with (go_at_call 64; refine (HC.out _).mono ?_; rintro e w' ⟨pg, pcap, ps, rfl, hd, hps, hb⟩; have hlen : ¬ ps.length ≤ 256 := (by have h1 := HLEN.out; rw [← hd] at h1; simpa [dat] using h1); have HB := Lib.hid (((Below.refl w.heap.size w).alloc (Nat.le_refl _) (.cells #[] 51)).trans (hb.mono (by simp))); have hd6 : decide ((ps.length : Int) > 256) = true := (by simp; omega); clear hd hps hb)
      go_ret2
      rw [HR.out]
      exact ⟨rfl, HB.out⟩
theorem spec_ReadNumbers (s : ByteArray) (hm : s.size ≤ 1048576) (w : World) :
    Calls Tryd.prog 16 #[.string s] w (GivesRN w (rdn s.data.toList)) := by
  have HC := Lib.hid (spec_l01NRead s hm w)
  cases hr : rdn s.data.toList with
  | none =>
    rw [hr] at HC
    go_enter Tryd.func16, Tryd.ntmps16
    go_wp2_with (go_at_call 40; refine HC.out.mono ?_; rintro e w' ⟨rfl, hb⟩; have HB := Lib.hid hb; clear hb)
    go_ret2
    exact ⟨rfl, HB.out⟩
  | some xs =>
    rw [hr] at HC
    go_enter Tryd.func16, Tryd.ntmps16
    go_wp2_with (go_at_call 40; refine HC.out.mono ?_; rintro e w' ⟨g, cap, rfl, ho, hb⟩; have HO := Lib.hid ho; have HB := Lib.hid hb; clear ho hb)
    go_ret2
    exact ⟨g, cap, rfl, HO.out, HB.out⟩
end Go.Proofs.YtoafncjmjocaoaaDoor
