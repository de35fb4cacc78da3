/-
  The program's ListText, joined, and the law's walk.
-/
import Derived.Test.YtoafncjmjocaoaaDoorListI
namespace Go.Proofs.YtoafncjmjocaoaaDoor
open Go Go.RowKit

def strs (xs : List Int) : List ByteArray := xs.map fun n => ⟨(Lib.itoa n).toArray⟩
theorem strs_len (xs : List Int) : (strs xs).length = xs.length := by simp [strs]
theorem strs_step (xs : List Int) (k : Nat) (h : k < xs.length) : strs (xs.take (k + 1)) = strs (xs.take k) ++ [⟨(Lib.itoa xs[k]).toArray⟩] := by
  unfold strs
  rw [List.take_succ_eq_append_getElem h, List.map_append]
  rfl
theorem strs_tx (xs : List Int) : Lib.join ((strs xs).map (·.data.toList)) [44] = tx xs := by
  unfold tx strs
  rw [List.map_map]
  rfl
theorem orNone_any (B : Nat) (g cap : Nat) (xs : List Int) (hm : xs.length ≤ 64) (ha : xs.all inr = true) (w : World) (ho : OwnS B w g cap (strs xs)) :
    Calls Tryd.prog 82 #[.slice (some ⟨g, 0, none⟩) xs.length cap, .string ⟨#[44]⟩] w fun e w' => e = .returned (.string ⟨(txt xs).toArray⟩) ∧ Below w.heap.size w w' := by
  by_cases h0 : xs = []
  · subst h0
    clear ho
    go_enter Tryd.func82, Tryd.ntmps82
    go_wp2
    go_ret
    exact ⟨rfl, Below.refl _ _⟩
  · have hpos : xs.length ≠ 0 := fun h => h0 (List.eq_nil_of_length_eq_zero h)
    have hne : ((xs.length : Int) == 0) = false := beq_false_of_ne (by omega)
    have hcells : ∀ (j : Nat) x, (strs xs)[j]? = some x → w.cell? ⟨g, 0 + j, none⟩ = some (.string x) := fun j x hj => by
      have hjl := (List.getElem?_eq_some_iff.1 hj).1
      have h1 := World.ownsRow.cellAt ho j (by omega)
      rw [Nat.zero_add, h1]
      simp [sv, hj]
    have hbk : g < w.heap.size := World.block_lt_of_cell? _ _ (hcells 0 _ (List.getElem?_eq_getElem (by rw [strs_len]; omega)))
    have hcap : (strs xs).length ≤ cap := by
      rcases ho.2 with ⟨h, _⟩ | ⟨g', cap', cur, h1, h2, h3, h4, _⟩
      · cases h
      · simp only [Value.slice.injEq] at h1
        omega
    have hlen := tx_len xs ha xs.length (Nat.le_refl _)
    rw [List.take_length] at hlen
    have HJ := Lib.hid (Tryd.strings_Join g 0 cap (strs xs) ⟨#[44]⟩ w hcells hbk (by rw [strs_len]; omega) hcap (by rw [show (⟨#[44]⟩ : ByteArray).data.toList = [44] from rfl, strs_tx]; omega))
    have HQ : Hid (txt xs = tx xs) := if_neg h0
    have HW := Lib.hid (strs_tx xs)
    have HL := Lib.hid (strs_len xs)
    clear ho hcells hbk hcap hlen h0 hpos
    go_enter Tryd.func82, Tryd.ntmps82
    go_wp2_with (go_at_call 100; rw [← HL.out]; refine HJ.out.mono ?_; rintro e w' ⟨rfl, hb⟩; have HB := Lib.hid hb; clear hb)
    go_ret
    exact ⟨by rw [HQ.out, ← HW.out]; rfl, HB.out⟩
theorem few_any (a : Option Addr) (c n : Nat) (w : World) : Calls Tryd.prog 81 #[.slice a n c] w (GivesIs w (decide ((n : Int) ≤ 256))) := by
  go_enter Tryd.func81, Tryd.ntmps81
  go_wp2
  go_ret
  exact ⟨rfl, rfl⟩
set_option maxHeartbeats 1000000 in
theorem textOf_any (a : Option Addr) (c : Nat) (xs : List Int) (hm : xs.length ≤ 64) (ha : xs.all inr = true) (w : World) (hr : RowI w a xs) (hp : Pow w) :
    Calls Tryd.prog 57 #[.slice a xs.length c, .func (.func 27) #[] #[]] w fun e w' => e = .returned (.tuple #[.string ⟨(txt xs).toArray⟩, .bool true]) ∧ Below w.heap.size w w' := by
  have hb0 := buildS0
  have hb1 := buildS1
  have hd : (!decide ((xs.length : Int) ≤ 256)) = false := by simp; omega
  have HON := Lib.hid (fun B g cap w ho => orNone_any B g cap xs hm ha w ho)
  rcases cells_ofI hr with rfl | ⟨b, off, rfl, hc⟩
  · have HE := Lib.hid (ownS_empty w)
    clear hr hp
    go_enter Tryd.func57, Tryd.ntmps57
    go_wp2_with (first | (go_at_call 81; refine (few_any _ _ _ _).mono ?_; rintro e w' ⟨rfl, hw⟩; have hw2 := hw.symm; subst hw2))
    go_loopw [6, 15] (fun o i wr => o = .slice (some ⟨w.heap.size, 0, none⟩) 0 0 ∧ i = .int .i64 0 ∧ wr = w.alloc (.cells #[] 9)) (fun _ _ _ => 0)
    case atStart => exact ⟨rfl, rfl, rfl⟩
    case round =>
      obtain ⟨rfl, rfl, rfl⟩ := hrel
      go_wp2_with (first | (go_at_call 82; refine (HON.out w.heap.size _ _ _ ?_).mono ?_; exact HE.out; rintro e w' ⟨rfl, hb⟩; have HB := Lib.hid hb; clear hb))
      go_ret2
      exact ⟨rfl, ((Below.refl _ _).alloc (Nat.le_refl _) _).trans (HB.out.mono (by simp))⟩
  · have hbd : ∀ k (hk : k < xs.length), -1000000000000000 ≤ xs[k] ∧ xs[k] ≤ 1000000000000000 := fun k hk => by
      have := of_decide_eq_true (List.all_eq_true.1 ha _ (List.getElem_mem hk))
      omega
    have H1 := Lib.hid hc
    have HBD := Lib.hid hbd
    have HP := Lib.hid hp
    have HBLK : Hid (∀ k, k < xs.length → b < w.heap.size) := fun k hk => World.block_lt_of_cell? _ _ (hc k hk)
    clear hc hr hbd ha hp
    go_enter Tryd.func57, Tryd.ntmps57
    go_wp2_with (first | (go_at_call 81; refine (few_any _ _ _ _).mono ?_; rintro e w' ⟨rfl, hw⟩; have hw2 := hw.symm; subst hw2))
    go_loopw [6, 15] (fun o i wr => ∃ k g cap : Nat, k ≤ xs.length ∧ o = .slice (some ⟨g, 0, none⟩) k cap ∧ i = .int .i64 k ∧ OwnS w.heap.size wr g cap (strs (xs.take k)) ∧ Below w.heap.size w wr) (fun _ i _ => xs.length - (RowKit.intOf i).toNat)
    case atStart => exact ⟨0, _, 0, Nat.zero_le _, rfl, rfl, ownS_empty w, (Below.refl _ _).alloc (Nat.le_refl _) _⟩
    case round =>
      obtain ⟨k, g, cap, hk, rfl, rfl, ho, hb⟩ := hrel
      have HB := Lib.hid hb
      have HO := Lib.hid ho
      clear ho
      have HK : Hid ((strs (xs.take k)).length = k) := by show _ = _; rw [strs_len, List.length_take]; omega
      by_cases hlt : k < xs.length
      · have h1 := (hb.cell (p := ⟨b, off + k, none⟩) (HBLK.out k hlt)).trans (H1.out k hlt)
        obtain ⟨hx1, hx2⟩ := HBD.out k hlt
        have HS := Lib.hid (strs_step xs k hlt)
        clear hb hb0
        generalize hx : xs[k] = x at *
        clear hx
        go_wp2_with (first
          | (go_at_call 27
             refine (impl_Decimal _ (by omega) (by omega) _ (HP.out.below HB.out)).mono ?_
             rintro e w2 ⟨rfl, hb2⟩
             obtain ⟨g', cap', w3, hap, ho3, hb3⟩ := behind w.heap.size w2 g cap (strs (xs.take k)) ⟨(Lib.itoa x).toArray⟩ 74 (by rw [HK.out]; omega) (ownS_below HO.out hb2) (Nat.le_trans HB.out.size hb2.size)
             rw [HK.out] at hap
             have HA := Lib.hid hap
             have HO3 := Lib.hid ho3
             have HB3 := Lib.hid ((HB.out.trans (hb2.mono HB.out.size)).trans hb3)
             clear hap ho3 hb3 hb2)
          | (at_builtin; refine wpList_append_eq rfl _ _ 74 rfl rfl rfl HA.out ?_))
        go_roundw
        case rel => exact ⟨k + 1, g', cap', by omega, rfl, by go_num, by rw [HS.out]; exact HO3.out, HB3.out⟩
        case measure => simp [RowKit.intOf]; omega
      · obtain rfl : k = xs.length := by omega
        clear hb hb0 hb1
        have HO2 : Hid (OwnS w.heap.size ‹World› g cap (strs xs)) := by
          have h := HO.out
          rw [List.take_length] at h
          exact h
        go_wp2_with (first | (go_at_call 82; refine (HON.out w.heap.size _ _ _ ?_).mono ?_; exact HO2.out; rintro e w' ⟨rfl, hb⟩; have HB2 := Lib.hid hb; clear hb))
        go_ret2
        exact ⟨rfl, HB.out.trans (HB2.out.mono HB.out.size)⟩
theorem impl_ListText (a : Option Addr) (c : Nat) (xs : List Int) (hm : xs.length ≤ 1048576) (w : World) (hr : RowI w a xs) (hp : Pow w) :
    Calls Tryd.prog 32 #[.slice a xs.length c] w fun e w' => e = .returned (.tuple #[.string ⟨(if okList xs then txt xs else []).toArray⟩, .bool (okList xs)]) ∧ Below w.heap.size w w' := by
  by_cases hl : xs.length ≤ 64
  · have hd : decide ((xs.length : Int) > 64) = false := by simp; omega
    have HC := Lib.hid (containsFuncI a c xs hl w hr)
    cases ha : xs.all inr with
    | true =>
      have hok : okList xs = true := by unfold okList; rw [ha, decide_eq_true hl]; rfl
      rw [hok, if_pos rfl]
      have hn : (!(xs.all inr)) = false := by rw [ha]; rfl
      have HT := Lib.hid (textOf_any a c xs hl ha w hr hp)
      clear hr hp hok ha
      go_enter Tryd.func32, Tryd.ntmps32
      go_wp2_with (first
        | (go_at_call 54; refine HC.out.mono ?_; rintro e w' ⟨rfl, rfl⟩)
        | (go_at_call 57; refine HT.out.mono ?_; rintro e w' ⟨rfl, hb⟩; have HB := Lib.hid hb; clear hb))
      go_ret2
      exact ⟨rfl, HB.out⟩
    | false =>
      have hok : okList xs = false := by unfold okList; rw [ha]; rfl
      rw [hok, if_neg (by decide)]
      have hn : (!(xs.all inr)) = true := by rw [ha]; rfl
      clear hr hp hok ha
      go_enter Tryd.func32, Tryd.ntmps32
      go_wp2_with (first
        | (go_at_call 54; refine HC.out.mono ?_; rintro e w' ⟨rfl, rfl⟩))
      go_ret2
      exact ⟨rfl, Below.refl _ _⟩
  · have hd : decide ((xs.length : Int) > 64) = true := by simp; omega
    have hok : okList xs = false := by unfold okList; rw [decide_eq_false hl]; simp
    rw [hok, if_neg (by decide)]
    clear hr hp hok
    go_enter Tryd.func32, Tryd.ntmps32
    go_wp2
    go_ret2
    exact ⟨rfl, Below.refl _ _⟩
end Go.Proofs.YtoafncjmjocaoaaDoor
