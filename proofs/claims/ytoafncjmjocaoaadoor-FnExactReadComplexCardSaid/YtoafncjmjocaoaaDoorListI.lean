/-
  The text of a list of integers, of the program.
-/
import Derived.Test.YtoafncjmjocaoaaDoorListS
import Derived.Test.YtoafncjmjocaoaaDoorShelf4
namespace Go.Proofs.YtoafncjmjocaoaaDoor
open Go Go.RowKit

theorem isValue_any (x : Int) (w : World) : Calls Tryd.prog 55 #[.int .i64 x] w (GivesIs w (!inr x)) := by
  by_cases hlo : x < -1000000000000000
  · have HI : Hid (inr x = false) := by show inr x = false; unfold inr; exact decide_eq_false (by omega)
    go_enter Tryd.func55, Tryd.ntmps55
    go_wp2_with (first | (go_at_call 56; go_in) | (go_at_call 50; go_in))
    go_ret
    exact ⟨by rw [HI.out]; rfl, rfl⟩
  · have hlo' : -1000000000000000 ≤ x := by omega
    by_cases hhi : x > 1000000000000000
    · have HI : Hid (inr x = false) := by show inr x = false; unfold inr; exact decide_eq_false (by omega)
      have hd : decide (x ≤ 1000000000000000) = false := by simp; omega
      go_enter Tryd.func55, Tryd.ntmps55
      go_wp2_with (first | (go_at_call 56; go_in) | (go_at_call 50; go_in))
      go_ret
      exact ⟨by rw [HI.out]; rfl, rfl⟩
    · have HI : Hid (inr x = true) := by show inr x = true; unfold inr; exact decide_eq_true (by omega)
      have hhi' : x ≤ 1000000000000000 := by omega
      go_enter Tryd.func55, Tryd.ntmps55
      go_wp2_with (first | (go_at_call 56; go_in) | (go_at_call 50; go_in))
      go_ret
      exact ⟨by rw [HI.out]; rfl, rfl⟩
def GivesAt (w : World) (xs : List Int) (e : Ending) (w' : World) : Prop := ∃ r : Int, e = .returned (.int .i64 r) ∧ w' = w ∧ decide (0 ≤ r) = !(xs.all inr)
set_option maxHeartbeats 400000 in
theorem indexFuncI (a : Option Addr) (c : Nat) (xs : List Int) (hl : xs.length ≤ 64) (w : World) (hr : RowI w a xs) :
    Calls Tryd.prog 80 #[.slice a xs.length c, .func (.func 55) #[] #[]] w (GivesAt w xs) := by
  rcases cells_ofI hr with rfl | ⟨b, off, rfl, hc⟩
  · go_enter Tryd.func80, Tryd.ntmps80
    go_wp2
    go_loopw [8] (fun i wr => i = .int .i64 0 ∧ wr = w) (fun _ _ => 0)
    case atStart => exact ⟨rfl, rfl⟩
    case round =>
      obtain ⟨rfl, rfl⟩ := hrel
      go_wp2
      go_ret
      exact ⟨-1, rfl, rfl, rfl⟩
  · have H1 := Lib.hid hc
    clear hc hr
    go_enter Tryd.func80, Tryd.ntmps80
    go_wp2
    go_loopw [8] (fun i wr => ∃ k : Nat, k ≤ xs.length ∧ i = .int .i64 k ∧ wr = w ∧ (xs.take k).all inr = true) (fun i _ => xs.length - (RowKit.intOf i).toNat)
    case atStart => exact ⟨0, Nat.zero_le _, rfl, rfl, rfl⟩
    case round =>
      obtain ⟨k, hk, rfl, rfl, ha⟩ := hrel
      have HA := Lib.hid ha
      clear ha
      by_cases hlt : k < xs.length
      · have h1 := H1.out k hlt
        have HS := Lib.hid (all_takeI xs k hlt)
        have HN := Lib.hid (all_notI xs k hlt)
        generalize hx : xs[k] = x at *
        clear hx
        cases hf : inr x
        · have hf' : (!inr x) = true := by rw [hf]; rfl
          have HF := Lib.hid hf
          clear hf
          go_wp2_with (go_at_call 55; refine (isValue_any _ _).mono ?_; rintro e w' ⟨rfl, rfl⟩)
          go_ret
          exact ⟨k, rfl, by simp, by rw [HN.out HF.out]; simp⟩
        · have hf' : (!inr x) = false := by rw [hf]; rfl
          have HF := Lib.hid hf
          clear hf
          go_wp2_with (go_at_call 55; refine (isValue_any _ _).mono ?_; rintro e w' ⟨rfl, rfl⟩)
          go_roundw
          case rel => exact ⟨k + 1, by omega, by go_num, by simp, by rw [HS.out, HA.out, HF.out]; rfl⟩
          case measure => simp [RowKit.intOf]; omega
      · obtain rfl : k = xs.length := by omega
        go_wp2
        go_ret
        refine ⟨-1, rfl, by simp, ?_⟩
        have h := HA.out
        rw [List.take_length] at h
        rw [h]
        rfl
theorem containsFuncI (a : Option Addr) (c : Nat) (xs : List Int) (hl : xs.length ≤ 64) (w : World) (hr : RowI w a xs) :
    Calls Tryd.prog 54 #[.slice a xs.length c, .func (.func 55) #[] #[]] w (GivesIs w (!(xs.all inr))) := by
  have HC := Lib.hid (indexFuncI a c xs hl w hr)
  clear hr
  go_enter Tryd.func54, Tryd.ntmps54
  go_wp2_with (go_at_call 80; refine HC.out.mono ?_; rintro e w' ⟨r, rfl, rfl, hr⟩; have HR := Lib.hid hr; clear hr)
  go_ret
  exact ⟨by rw [← HR.out]; rfl, rfl⟩

/-- texts of our own, from block B on. -/
def sv (ss : List ByteArray) : List Value := ss.map Value.string
def OwnS (B : Nat) (w : World) (g cap : Nat) (ss : List ByteArray) : Prop := w.ownsRow B 9 1 (.slice (some ⟨g, 0, none⟩) ss.length cap) ss.length (sv ss)
theorem infoS : (Tryd.prog.info? 9).map (fun i => (i.zero, i.size, i.bytes)) = some (some (.string ⟨#[]⟩), 1, 16) := by kernel_rfl
theorem info_partsS : ∃ i, Tryd.prog.info? 9 = some i ∧ i.zero = some (.string ⟨#[]⟩) ∧ i.size = 1 ∧ i.bytes = 16 := by
  have h := infoS
  cases hi : Tryd.prog.info? 9 with
  | none => rw [hi] at h; cases h
  | some i =>
    rw [hi] at h
    simp only [Option.map_some, Option.some.injEq, Prod.mk.injEq] at h
    exact ⟨i, rfl, h.1, h.2.1, h.2.2⟩
theorem buildS0 (w : World) : (Instr.buildSlice 74 0 #[]).run Tryd.prog w = .ok (.slice (some ⟨w.heap.size, 0, none⟩) 0 0) (w.alloc (.cells #[] 9)) := by
  obtain ⟨i, hi, hz, hs, hb⟩ := info_partsS
  simp [Instr.buildSlice, run_underlying Tryd.underlying74, sizeOf, typeInfo, hi, newRow, Instr.fill]
  rw [show Array.range 0 = #[] by decide]
  simp
theorem buildS1 (s : ByteArray) (w : World) : (Instr.buildSlice 74 1 #[(0, .string s)]).run Tryd.prog w = .ok (.slice (some ⟨w.heap.size, 0, none⟩) 1 1) (w.alloc (.cells #[.string s] 9)) := by
  obtain ⟨i, hi, hz, hs, hb⟩ := info_partsS
  refine run_buildSlice w 74 9 1 #[(0, .string s)] _ i _ Tryd.underlying74 hi hz (by rw [hs]; decide) (by rw [hs]; decide) ?_
  rw [hs]
  have h1 : Array.range 1 = #[0] := by decide
  simp only [Nat.one_mul, h1]
  simp [Instr.fill, Value.cells]
theorem ownS_empty (w : World) : OwnS w.heap.size (w.alloc (.cells #[] 9)) w.heap.size 0 [] := World.ownsRow_lit w #[] 0 (Nat.le_refl _) (by decide) (by simp)
theorem ownS_below {B : Nat} {w w' : World} {g cap : Nat} {ss : List ByteArray} (h : OwnS B w g cap ss) (hb : Below w.heap.size w w') : OwnS B w' g cap ss := by
  refine ⟨h.1, ?_⟩
  rcases h.2 with h0 | ⟨g', cap', cur, h1, h2, h3, h4⟩
  · exact .inl h0
  · refine .inr ⟨g', cap', cur, h1, h2, ?_, h4⟩
    have hlt : g' < w.heap.size := by
      rcases Nat.lt_or_ge g' w.heap.size with h' | h'
      · exact h'
      · rw [Array.getElem?_eq_none h'] at h3; cases h3
    rw [hb.block g' hlt, h3]
/-- one more text behind those. -/
theorem behind (B : Nat) (w : World) (g cap : Nat) (ss : List ByteArray) (s : ByteArray) (ty : TypeId) (hlen : ss.length ≤ 2000000) (ho : OwnS B w g cap ss) (hB : B ≤ w.heap.size) :
    ∃ g' cap' w', (Builtin.append_ #[74, 74] ty #[.slice (some ⟨g, 0, none⟩) ss.length cap, .slice (some ⟨w.heap.size, 0, none⟩) 1 1]).run Tryd.prog (w.alloc (.cells #[.string s] 9)) = .ok (.slice (some ⟨g', 0, none⟩) (ss.length + 1) cap') w' ∧
      OwnS B w' g' cap' (ss ++ [s]) ∧ Below B w w' := by
  obtain ⟨i, hi, hz, hs, hb⟩ := info_partsS
  have hbel : Below w.heap.size w (w.alloc (.cells #[.string s] 9)) := (Below.refl _ _).alloc (Nat.le_refl _) _
  obtain ⟨v', w', hr, hown, hgr, hn⟩ := run_append_own (P := Tryd.prog) (w.alloc (.cells #[.string s] 9)) B 74 ty 9 i (.string ⟨#[]⟩) 1 16 Tryd.underlying74 hi hz hs hb rfl (by decide)
    _ ss.length _ (ownS_below ho hbel) ⟨w.heap.size, 0, none⟩ 1 1 [.string s] rfl (cell_one_new _ _ _) (fun u hu => by simp at hu; subst hu; rfl) (by simp only [maxLen]; omega) (by omega) (by simp; omega)
  have hne : v' ≠ .slice none 0 0 := fun h => by simpa using (hn.1 h).2
  have hg0 : B ≤ g := by
    rcases ho.2 with ⟨h0, _⟩ | ⟨g', cap', cur, h1, h2, _⟩
    · cases h0
    · simp only [Value.slice.injEq, Option.some.injEq, Addr.mk.injEq] at h1
      omega
  rcases hown.2 with ⟨h0, _⟩ | ⟨g', cap', cur, rfl, hbg, hg, hnc, hcm, hcs, htake⟩
  · exact absurd h0 hne
  · refine ⟨g', cap', w', hr, ?_, ?_⟩
    · refine ⟨by simp [sv], .inr ⟨g', cap', cur, by simp, hbg, hg, by simpa using hnc, hcm, hcs, ?_⟩⟩
      simpa [sv] using htake
    · refine Below.grown ((Below.refl _ _).alloc hB _) hgr (by simp; omega) ?_
      intro k hk
      simp [Value.ownBlock] at hk
      omega
end Go.Proofs.YtoafncjmjocaoaaDoor
