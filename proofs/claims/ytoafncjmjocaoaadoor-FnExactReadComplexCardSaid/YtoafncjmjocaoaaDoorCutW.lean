/-
  The reference's cut of a text at its commas, walked.
-/
import Derived.Test.YtoafncjmjocaoaaDoorListI
import Derived.Test.YtoafncjmjocaoaaDoorCut
namespace Go.Proofs.YtoafncjmjocaoaaDoor
open Go Go.RowKit

def dat (ps : List ByteArray) : List (List UInt8) := ps.map (·.data.toList)
/-- what the loop has cut off, and what is left. -/
def CutInv (s : ByteArray) (i f : Nat) (ps : List ByteArray) : Prop := f ≤ i ∧ cutL s.data.toList = dat ps ++ cutL (s.data.toList.drop f) ∧ ∀ j, f ≤ j → j < i → s.data.toList[j]? ≠ some 44
theorem CutInv.keep {s : ByteArray} {i f : Nat} {ps : List ByteArray} (h : CutInv s i f ps) (hi : i < s.size) (hc : s[i].toNat ≠ 44) : CutInv s (i + 1) f ps := by
  refine ⟨by have := h.1; omega, h.2.1, fun j h1 h2 => ?_⟩
  by_cases hj : j < i
  · exact h.2.2 j h1 hj
  · obtain rfl : j = i := by omega
    intro hh
    have : s.data.toList[j]? = some s[j] := List.getElem?_eq_getElem (by simpa using hi)
    rw [this] at hh
    apply hc
    rw [Option.some.inj hh]
    rfl
theorem CutInv.piece {s : ByteArray} {i f : Nat} {ps : List ByteArray} (h : CutInv s i f ps) : ∀ c ∈ (s.extract f i).data.toList, c ≠ 44 := by
  intro c hc hh
  subst hh
  rw [Lib.extract_data] at hc
  obtain ⟨k, hk⟩ := List.mem_iff_getElem?.1 hc
  rw [List.getElem?_take] at hk
  by_cases hki : k < i - f
  · rw [if_pos hki, List.getElem?_drop] at hk
    exact h.2.2 (f + k) (by omega) (by omega) hk
  · rw [if_neg hki] at hk
    cases hk
theorem CutInv.cut {s : ByteArray} {i f : Nat} {ps : List ByteArray} (h : CutInv s i f ps) (hi : i < s.size) (hc : s[i].toNat = 44) : CutInv s (i + 1) (i + 1) (ps ++ [s.extract f i]) := by
  refine ⟨Nat.le_refl _, ?_, fun j h1 h2 => by omega⟩
  have hp := h.piece
  have hl : i < s.data.toList.length := by simpa using hi
  have h44 : s.data.toList[i] = 44 := by
    have : s.data.toList[i] = s[i] := rfl
    rw [this]
    exact UInt8.toNat_inj.1 (by rw [hc]; rfl)
  have hd : s.data.toList.drop f = (s.extract f i).data.toList ++ 44 :: s.data.toList.drop (i + 1) := by
    have h1 := h.1
    rw [Lib.extract_data, ← h44, List.getElem_cons_drop hl]
    have : s.data.toList.drop i = (s.data.toList.drop f).drop (i - f) := by rw [List.drop_drop]; congr 1; omega
    rw [this, List.take_append_drop]
  rw [h.2.1, hd, cut_at _ _ hp]
  simp [dat]
theorem CutInv.last {s : ByteArray} {f : Nat} {ps : List ByteArray} (h : CutInv s s.size f ps) : cutL s.data.toList = dat (ps ++ [s.extract f s.size]) := by
  have hp := h.piece
  have hd : s.data.toList.drop f = (s.extract f s.size).data.toList := by
    rw [Lib.extract_data, List.take_of_length_le (by simp)]
  rw [h.2.1, hd, cut_no _ hp]
  simp [dat]
def GivesCut (w : World) (s : ByteArray) (e : Ending) (w' : World) : Prop := ∃ (g cap : Nat) (ps : List ByteArray), e = .returned (.slice (some ⟨g, 0, none⟩) ps.length cap) ∧ dat ps = cutL s.data.toList ∧ OwnS w.heap.size w' g cap ps ∧ Below w.heap.size w w'
set_option maxHeartbeats 1000000 in
theorem spec_l01Cut (s : ByteArray) (hm : s.size ≤ 1048576) (w : World) :
    Calls Tryd.prog 64 #[.string s, .int .u8 44] w (GivesCut w s) := by
  have hb0 := buildS0
  have hb1 := buildS1
  go_enter Tryd.func64, Tryd.ntmps64
  go_wp2
  go_loopw [5, 6, 7] (fun o f i wr => ∃ (g cap ii ff : Nat) (ps : List ByteArray), ii ≤ s.size + 1 ∧ ff ≤ ii ∧ ps.length ≤ ii ∧ o = .slice (some ⟨g, 0, none⟩) ps.length cap ∧ f = .int .i64 ff ∧ i = .int .i64 ii ∧ OwnS w.heap.size wr g cap ps ∧ Below w.heap.size w wr ∧ ((ii ≤ s.size ∧ CutInv s ii ff ps) ∨ (ii = s.size + 1 ∧ cutL s.data.toList = dat ps))) (fun _ _ i _ => s.size + 1 - (RowKit.intOf i).toNat)
  case atStart => exact ⟨_, 0, 0, 0, [], Nat.zero_le _, Nat.le_refl _, Nat.le_refl _, rfl, rfl, rfl, ownS_empty w, (Below.refl _ _).alloc (Nat.le_refl _) _, .inl ⟨Nat.zero_le _, Nat.le_refl _, rfl, fun j _ h => absurd h (Nat.not_lt_zero _)⟩⟩
  case round =>
    obtain ⟨g, cap, ii, ff, ps, hi1, hf1, hpl, rfl, rfl, rfl, ho, hb, hinv⟩ := hrel
    rcases hinv with ⟨hle, hinv⟩ | ⟨heq, hend⟩
    · obtain ⟨g', cap', w3, hap, ho3, hb3⟩ := behind w.heap.size ‹World› g cap ps (s.extract ff ii) 74 (by omega) ho hb.size
      have HA := Lib.hid hap
      have HO3 := Lib.hid ho3
      have HB3 := Lib.hid (hb.trans hb3)
      have HB := Lib.hid hb
      have HO := Lib.hid ho
      clear hap ho3 hb3 hb ho hb0
      by_cases hend : ii = s.size
      · subst hend
        have HL := Lib.hid hinv.last
        have he : (((s.size : Nat) : Int) == (s.size : Int)) = true := by simp
        clear hinv
        go_wp2_with (at_builtin; refine wpList_append_eq rfl _ _ 74 rfl rfl rfl HA.out ?_)
        go_roundw
        case rel => exact ⟨g', cap', s.size + 1, s.size + 1, ps ++ [s.extract ff s.size], Nat.le_refl _, Nat.le_refl _, by simp <;> omega, by simp, by go_num, by go_num, HO3.out, HB3.out, .inr ⟨rfl, HL.out⟩⟩
        case measure => simp [RowKit.intOf] <;> omega
      · have hlt : ii < s.size := by omega
        have hb := s[ii].toNat_lt
        have he : ((ii : Int) == (s.size : Int)) = false := beq_false_of_ne (by omega)
        by_cases h44 : s[ii].toNat = 44
        · have HL := Lib.hid (hinv.cut hlt h44)
          have h45 : ((s[ii].toNat : Int) == 44) = true := by rw [h44]; rfl
          clear hinv h44
          go_wp2_with (at_builtin; refine wpList_append_eq rfl _ _ 74 rfl rfl rfl HA.out ?_)
          go_roundw
          case rel => exact ⟨g', cap', ii + 1, ii + 1, ps ++ [s.extract ff ii], by omega, Nat.le_refl _, by simp <;> omega, by simp, by go_num, by go_num, HO3.out, HB3.out, .inl ⟨by omega, HL.out⟩⟩
          case measure => simp [RowKit.intOf] <;> omega
        · have HL := Lib.hid (hinv.keep hlt h44)
          have h45 : ((s[ii].toNat : Int) == 44) = false := beq_false_of_ne (by omega)
          clear hinv h44
          go_wp2
          go_roundw
          case rel => exact ⟨g, cap, ii + 1, ff, ps, by omega, by omega, by omega, rfl, by go_num, by go_num, HO.out, HB.out, .inl ⟨by omega, HL.out⟩⟩
          case measure => simp [RowKit.intOf] <;> omega
    · subst heq
      have HO := Lib.hid ho
      have HB := Lib.hid hb
      have HE := Lib.hid hend
      clear ho hb hend hb0 hb1
      go_wp2
      go_ret
      exact ⟨g, cap, ps, rfl, HE.out.symm, HO.out, HB.out⟩
end Go.Proofs.YtoafncjmjocaoaaDoor
