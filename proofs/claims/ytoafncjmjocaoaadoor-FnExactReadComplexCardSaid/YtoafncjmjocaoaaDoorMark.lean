/-
  The laws' marks on a slice of integers of one's own.
-/
import Derived.Test.YtoafncjmjocaoaaDoorListI
namespace Go.Proofs.YtoafncjmjocaoaaDoor
open Go Go.RowKit

def iv (xs : List Int) : List Value := xs.map (Value.int .i64)
/-- integers of our own, from block B on. -/
def OwnI (B : Nat) (w : World) (g cap : Nat) (xs : List Int) : Prop := w.ownsRow B 2 1 (.slice (some ⟨g, 0, none⟩) xs.length cap) xs.length (iv xs)
theorem buildI0 (w : World) : (Instr.buildSlice 22 0 #[]).run Tryd.prog w = .ok (.slice (some ⟨w.heap.size, 0, none⟩) 0 0) (w.alloc (.cells #[] 2)) := by
  obtain ⟨i, hi, hz, hs, hb⟩ := info_partsI
  simp [Instr.buildSlice, run_underlying Tryd.underlying22, sizeOf, typeInfo, hi, newRow, Instr.fill]
  rw [show Array.range 0 = #[] by decide]
  simp
theorem buildI1 (s : Int) (w : World) : (Instr.buildSlice 22 1 #[(0, .int .i64 s)]).run Tryd.prog w = .ok (.slice (some ⟨w.heap.size, 0, none⟩) 1 1) (w.alloc (.cells #[.int .i64 s] 2)) := by
  obtain ⟨i, hi, hz, hs, hb⟩ := info_partsI
  refine run_buildSlice w 22 2 1 #[(0, .int .i64 s)] _ i _ Tryd.underlying22 hi hz (by rw [hs]; decide) (by rw [hs]; decide) ?_
  rw [hs]
  have h1 : Array.range 1 = #[0] := by decide
  simp only [Nat.one_mul, h1]
  simp [Instr.fill, Value.cells]
theorem ownI_empty (w : World) : OwnI w.heap.size (w.alloc (.cells #[] 2)) w.heap.size 0 [] := World.ownsRow_lit w #[] 0 (Nat.le_refl _) (by decide) (by simp)
theorem ownI_below {B : Nat} {w w' : World} {g cap : Nat} {xs : List Int} (h : OwnI B w g cap xs) (hb : Below w.heap.size w w') : OwnI B w' g cap xs := by
  refine ⟨h.1, ?_⟩
  rcases h.2 with h0 | ⟨g', cap', cur, h1, h2, h3, h4⟩
  · exact .inl h0
  · refine .inr ⟨g', cap', cur, h1, h2, ?_, h4⟩
    have hlt : g' < w.heap.size := by
      rcases Nat.lt_or_ge g' w.heap.size with h' | h'
      · exact h'
      · rw [Array.getElem?_eq_none h'] at h3; cases h3
    rw [hb.block g' hlt, h3]
theorem ownI_row {B : Nat} {w : World} {g cap : Nat} {xs : List Int} (h : OwnI B w g cap xs) : RowI w (some ⟨g, 0, none⟩) xs := fun i hi => ⟨g, 0, rfl, by
  rw [Nat.zero_add, World.ownsRow.cellAt h i (by omega)]
  simp [iv, hi]⟩
theorem ownI_ge {B : Nat} {w : World} {g cap : Nat} {xs : List Int} (h : OwnI B w g cap xs) : B ≤ g := by
  rcases h.2 with ⟨h0, _⟩ | ⟨g', cap', cur, h1, h2, _⟩
  · cases h0
  · simp only [Value.slice.injEq, Option.some.injEq, Addr.mk.injEq] at h1
    omega
/-- one more number behind those. -/
theorem behindI (B : Nat) (w : World) (g cap : Nat) (xs : List Int) (s : Int) (ty : TypeId) (hlen : xs.length ≤ 2000000) (ho : OwnI B w g cap xs) (hB : B ≤ w.heap.size) :
    ∃ g' cap' w', (Builtin.append_ #[22, 22] ty #[.slice (some ⟨g, 0, none⟩) xs.length cap, .slice (some ⟨w.heap.size, 0, none⟩) 1 1]).run Tryd.prog (w.alloc (.cells #[.int .i64 s] 2)) = .ok (.slice (some ⟨g', 0, none⟩) (xs.length + 1) cap') w' ∧
      OwnI B w' g' cap' (xs ++ [s]) ∧ Below B w w' ∧ ∀ k, k < w.heap.size → k ≠ g → w'.heap[k]? = w.heap[k]? := by
  obtain ⟨i, hi, hz, hs, hb⟩ := info_partsI
  have hbel : Below w.heap.size w (w.alloc (.cells #[.int .i64 s] 2)) := (Below.refl _ _).alloc (Nat.le_refl _) _
  obtain ⟨v', w', hr, hown, hgr, hn⟩ := run_append_own (P := Tryd.prog) (w.alloc (.cells #[.int .i64 s] 2)) B 22 ty 2 i (.int .i64 0) 1 8 Tryd.underlying22 hi hz hs hb rfl (by decide)
    _ xs.length _ (ownI_below ho hbel) ⟨w.heap.size, 0, none⟩ 1 1 [.int .i64 s] rfl (cell_one_new _ _ _) (fun u hu => by simp at hu; subst hu; rfl) (by simp only [maxLen]; omega) (by omega) (by simp; omega)
  have hne : v' ≠ .slice none 0 0 := fun h => by simpa using (hn.1 h).2
  have hg0 := ownI_ge ho
  rcases hown.2 with ⟨h0, _⟩ | ⟨g', cap', cur, rfl, hbg, hg, hnc, hcm, hcs, htake⟩
  · exact absurd h0 hne
  · refine ⟨g', cap', w', hr, ?_, ?_, ?_⟩
    · refine ⟨by simp [iv], .inr ⟨g', cap', cur, by simp, hbg, hg, by simpa using hnc, hcm, hcs, ?_⟩⟩
      simpa [iv] using htake
    · refine Below.grown ((Below.refl _ _).alloc hB _) hgr (by simp; omega) ?_
      intro k hk
      simp [Value.ownBlock] at hk
      omega
    · intro k hk hne
      rw [hgr.block k (by simp; omega) (by simp [Value.ownBlock]; exact hne)]
      exact hbel.block k hk
/-- the marks k, k+1, .. -/
def marks (k n : Nat) : List Int := (List.range n).map fun i => ((k + i : Nat) : Int)
theorem marks_len (k n : Nat) : (marks k n).length = n := by simp [marks]
theorem marks_get (k n i : Nat) (h : i < (marks k n).length) : (marks k n)[i] = ((k + i : Nat) : Int) := by simp [marks]
/-- the first j are marked. -/
def part (xs : List Int) (k j : Nat) : List Int := (List.range xs.length).map fun i => if i < j then ((k + i : Nat) : Int) else xs.getD i 0
theorem part_len (xs : List Int) (k j : Nat) : (part xs k j).length = xs.length := by simp [part]
theorem part_zero (xs : List Int) (k : Nat) : part xs k 0 = xs := by
  apply List.ext_getElem
  · simp [part]
  · intro i h1 h2
    simp [part, h2]
theorem part_all (xs : List Int) (k : Nat) : part xs k xs.length = marks k xs.length := by
  apply List.ext_getElem
  · simp [part, marks]
  · intro i h1 h2
    have h3 : i < xs.length := by simpa [part] using h1
    simp [part, marks, h3]
theorem part_set (xs : List Int) (k j : Nat) : (iv (part xs k j)).set j (.int .i64 ((k + j : Nat) : Int)) = iv (part xs k (j + 1)) := by
  apply List.ext_getElem
  · simp [part, iv]
  · intro i h1 h2
    rw [List.getElem_set]
    by_cases hij : j = i
    · subst hij
      simp [part, iv]
    · rw [if_neg hij]
      by_cases hlt : i < j
      · have : i < j + 1 := by omega
        simp [part, iv, hlt, this]
      · have : ¬ i < j + 1 := by omega
        simp [part, iv, hlt, this]
theorem ownI_set {B : Nat} {w : World} {g cap : Nat} {xs : List Int} {k j : Nat} (h : OwnI B w g cap (part xs k j)) : OwnI B (w.setCell ⟨g, j, none⟩ (.int .i64 ((k + j : Nat) : Int))) g cap (part xs k (j + 1)) := by
  have h1 := (World.ownsRow.stored h j (.int .i64 ((k + j : Nat) : Int))).1
  rw [part_set] at h1
  unfold OwnI
  rw [part_len] at h1 ⊢
  exact h1
set_option maxHeartbeats 400000 in
theorem mark_any (B : Nat) (g cap k : Nat) (xs : List Int) (hl : xs.length ≤ 1000) (hk : k ≤ 1000000) (w : World) (ho : OwnI B w g cap xs) :
    Calls Tryd.prog 14 #[.slice (some ⟨g, 0, none⟩) xs.length cap, .int .i64 (k : Int)] w fun e w' => e = .returned (.int .i64 ((k + xs.length : Nat) : Int)) ∧ OwnI B w' g cap (marks k xs.length) ∧ Below g w w' := by
  have HO := Lib.hid ho
  clear ho
  go_enter Tryd.func14, Tryd.ntmps14
  go_wp2
  go_loopw [1, 5] (fun n i wr => ∃ j : Nat, j ≤ xs.length ∧ n = .int .i64 ((k + j : Nat) : Int) ∧ i = .int .i64 j ∧ OwnI B wr g cap (part xs k j) ∧ Below g w wr) (fun _ i _ => xs.length - (RowKit.intOf i).toNat)
  case atStart => exact ⟨0, Nat.zero_le _, rfl, rfl, by rw [part_zero]; exact HO.out, Below.refl _ _⟩
  case round =>
    obtain ⟨j, hj, rfl, rfl, ho, hb⟩ := hrel
    have HB := Lib.hid hb
    clear hb
    by_cases hlt : j < xs.length
    · have hpl := part_len xs k j
      have hcell := World.ownsRow.cellAt ho j (by rw [hpl]; omega)
      obtain ⟨u, hu⟩ : ∃ u, (iv (part xs k j))[j]? = some (.int .i64 u) := ⟨(part xs k j)[j]'(by omega), by simp [iv, hpl, hlt]⟩
      have hcell2 := hcell.trans hu
      have hfz := World.ownsRow.frozenAt ho j
      have HS := Lib.hid (ownI_set ho)
      clear ho hcell hu hpl
      go_wp2
      go_roundw
      case rel => exact ⟨j + 1, by omega, by go_num, by go_num, HS.out, HB.out.setCell (by exact Nat.le_refl _) _⟩
      case measure => simp [RowKit.intOf]; omega
    · obtain rfl : j = xs.length := by omega
      have HS := Lib.hid ho
      clear ho
      go_wp2
      go_ret
      exact ⟨rfl, by rw [← part_all]; exact HS.out, HB.out⟩
set_option maxHeartbeats 400000 in
theorem held_any (a : Option Addr) (cap k n : Nat) (hl : n ≤ 1000) (hk : k ≤ 1000000) (w : World) (hr : RowI w a (marks k n)) :
    Calls Tryd.prog 15 #[.slice a n cap, .int .i64 (k : Int)] w fun e w' => e = .returned (.int .i64 ((k + n : Nat) : Int)) ∧ w' = w := by
  have hln := marks_len k n
  rcases cells_ofI hr with h0 | ⟨b, off, rfl, hc⟩
  · obtain rfl : n = 0 := by rw [h0] at hln; exact hln.symm
    clear hr h0 hln
    go_enter Tryd.func15, Tryd.ntmps15
    go_wp2
    go_loopw [1, 5] (fun m i wr => m = .int .i64 (k : Int) ∧ i = .int .i64 0 ∧ wr = w) (fun _ _ _ => 0)
    case atStart => exact ⟨rfl, rfl, rfl⟩
    case round =>
      obtain ⟨rfl, rfl, rfl⟩ := hrel
      go_wp2
      go_ret
      exact ⟨rfl, rfl⟩
  · have H1 : Hid (∀ i (hi : i < n), w.cell? ⟨b, off + i, none⟩ = some (.int .i64 ((k + i : Nat) : Int))) := fun i hi => by
      rw [hc i (by omega), marks_get]
    clear hc hr hln
    go_enter Tryd.func15, Tryd.ntmps15
    go_wp2
    go_loopw [1, 5] (fun m i wr => ∃ j : Nat, j ≤ n ∧ m = .int .i64 ((k + j : Nat) : Int) ∧ i = .int .i64 j ∧ wr = w) (fun _ i _ => n - (RowKit.intOf i).toNat)
    case atStart => exact ⟨0, Nat.zero_le _, rfl, rfl, rfl⟩
    case round =>
      obtain ⟨j, hj, rfl, rfl, rfl⟩ := hrel
      by_cases hlt : j < n
      · have h1 := H1.out j hlt
        go_wp2
        go_roundw
        case rel => exact ⟨j + 1, by omega, by go_num, by go_num, by simp⟩
        case measure => simp [RowKit.intOf]; omega
      · obtain rfl : j = n := by omega
        go_wp2
        go_ret
        exact ⟨rfl, by simp⟩
end Go.Proofs.YtoafncjmjocaoaaDoor
