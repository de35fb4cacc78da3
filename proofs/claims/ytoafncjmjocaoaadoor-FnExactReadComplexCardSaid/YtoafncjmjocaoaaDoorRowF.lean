/-
  The laws' marksF on a slice of 32-bit numbers of one's own.
-/
import Derived.Test.YtoafncjmjocaoaaDoorNumT
namespace Go.Proofs.YtoafncjmjocaoaaDoor
open Go Go.RowKit

def fv (xs : List Nat) : List Value := xs.map (Value.float .f32)
/-- integers of our own, from block B on. -/
def OwnF (B : Nat) (w : World) (g cap : Nat) (xs : List Nat) : Prop := w.ownsRow B 51 1 (.slice (some ⟨g, 0, none⟩) xs.length cap) xs.length (fv xs)
theorem buildF0 (w : World) : (Instr.buildSlice 28 0 #[]).run Tryd.prog w = .ok (.slice (some ⟨w.heap.size, 0, none⟩) 0 0) (w.alloc (.cells #[] 51)) := by
  obtain ⟨i, hi, hz, hs, hb⟩ := info_partsF
  simp [Instr.buildSlice, run_underlying Tryd.underlying28, sizeOf, typeInfo, hi, newRow, Instr.fill]
  rw [show Array.range 0 = #[] by decide]
  simp
theorem buildF1 (s : Nat) (w : World) : (Instr.buildSlice 28 1 #[(0, .float .f32 s)]).run Tryd.prog w = .ok (.slice (some ⟨w.heap.size, 0, none⟩) 1 1) (w.alloc (.cells #[.float .f32 s] 51)) := by
  obtain ⟨i, hi, hz, hs, hb⟩ := info_partsF
  refine run_buildSlice w 28 51 1 #[(0, .float .f32 s)] _ i _ Tryd.underlying28 hi hz (by rw [hs]; decide) (by rw [hs]; decide) ?_
  rw [hs]
  have h1 : Array.range 1 = #[0] := by decide
  simp only [Nat.one_mul, h1]
  simp [Instr.fill, Value.cells]
theorem ownF_empty (w : World) : OwnF w.heap.size (w.alloc (.cells #[] 51)) w.heap.size 0 [] := World.ownsRow_lit w #[] 0 (Nat.le_refl _) (by decide) (by simp)
theorem ownF_below {B : Nat} {w w' : World} {g cap : Nat} {xs : List Nat} (h : OwnF B w g cap xs) (hb : Below w.heap.size w w') : OwnF B w' g cap xs := by
  refine ⟨h.1, ?_⟩
  rcases h.2 with h0 | ⟨g', cap', cur, h1, h2, h3, h4⟩
  · exact .inl h0
  · refine .inr ⟨g', cap', cur, h1, h2, ?_, h4⟩
    have hlt : g' < w.heap.size := by
      rcases Nat.lt_or_ge g' w.heap.size with h' | h'
      · exact h'
      · rw [Array.getElem?_eq_none h'] at h3; cases h3
    rw [hb.block g' hlt, h3]
theorem ownF_row {B : Nat} {w : World} {g cap : Nat} {xs : List Nat} (h : OwnF B w g cap xs) : RowF w (some ⟨g, 0, none⟩) xs := fun i hi => ⟨g, 0, rfl, by
  rw [Nat.zero_add, World.ownsRow.cellAt h i (by omega)]
  simp [fv, hi]⟩
theorem ownF_ge {B : Nat} {w : World} {g cap : Nat} {xs : List Nat} (h : OwnF B w g cap xs) : B ≤ g := by
  rcases h.2 with ⟨h0, _⟩ | ⟨g', cap', cur, h1, h2, _⟩
  · cases h0
  · simp only [Value.slice.injEq, Option.some.injEq, Addr.mk.injEq] at h1
    omega
/-- one more number behind those. -/
theorem behindF (B : Nat) (w : World) (g cap : Nat) (xs : List Nat) (s : Nat) (ty : TypeId) (hlen : xs.length ≤ 2000000) (ho : OwnF B w g cap xs) (hB : B ≤ w.heap.size) :
    ∃ g' cap' w', (Builtin.append_ #[28, 28] ty #[.slice (some ⟨g, 0, none⟩) xs.length cap, .slice (some ⟨w.heap.size, 0, none⟩) 1 1]).run Tryd.prog (w.alloc (.cells #[.float .f32 s] 51)) = .ok (.slice (some ⟨g', 0, none⟩) (xs.length + 1) cap') w' ∧
      OwnF B w' g' cap' (xs ++ [s]) ∧ Below B w w' ∧ ∀ k, k < w.heap.size → k ≠ g → w'.heap[k]? = w.heap[k]? := by
  obtain ⟨i, hi, hz, hs, hb⟩ := info_partsF
  have hbel : Below w.heap.size w (w.alloc (.cells #[.float .f32 s] 51)) := (Below.refl _ _).alloc (Nat.le_refl _) _
  obtain ⟨v', w', hr, hown, hgr, hn⟩ := run_append_own (P := Tryd.prog) (w.alloc (.cells #[.float .f32 s] 51)) B 28 ty 51 i (.float .f32 0) 1 4 Tryd.underlying28 hi hz hs hb rfl (by decide)
    _ xs.length _ (ownF_below ho hbel) ⟨w.heap.size, 0, none⟩ 1 1 [.float .f32 s] rfl (cell_one_new _ _ _) (fun u hu => by simp at hu; subst hu; rfl) (by simp only [maxLen]; omega) (by omega) (by simp; omega)
  have hne : v' ≠ .slice none 0 0 := fun h => by simpa using (hn.1 h).2
  have hg0 := ownF_ge ho
  rcases hown.2 with ⟨h0, _⟩ | ⟨g', cap', cur, rfl, hbg, hg, hnc, hcm, hcs, htake⟩
  · exact absurd h0 hne
  · refine ⟨g', cap', w', hr, ?_, ?_, ?_⟩
    · refine ⟨by simp [fv], .inr ⟨g', cap', cur, by simp, hbg, hg, by simpa using hnc, hcm, hcs, ?_⟩⟩
      simpa [fv] using htake
    · refine Below.grown ((Below.refl _ _).alloc hB _) hgr (by simp; omega) ?_
      intro k hk
      simp [Value.ownBlock] at hk
      omega
    · intro k hk hne
      rw [hgr.block k (by simp; omega) (by simp [Value.ownBlock]; exact hne)]
      exact hbel.block k hk
/-- a mark, as the laws write it. -/
def mk32 (n : Nat) : Nat := floatOfInt .f32 (n : Int)
theorem mk32_nums : ∀ n : Fin 400, isN .f32 (floatOfInt .f32 (n.val : Int)) = false := by decide +kernel
theorem mk32_num (n : Nat) (h : n < 400) : isN .f32 (mk32 n) = false := mk32_nums ⟨n, h⟩
/-- the marksF k, k+1, .. -/
def marksF (k n : Nat) : List Nat := (List.range n).map fun i => mk32 (k + i)
theorem marksF_len (k n : Nat) : (marksF k n).length = n := by simp [marksF]
theorem marksF_get (k n i : Nat) (h : i < (marksF k n).length) : (marksF k n)[i] = mk32 (k + i) := by simp [marksF]
/-- the first j are marked. -/
def partF (xs : List Nat) (k j : Nat) : List Nat := (List.range xs.length).map fun i => if i < j then mk32 (k + i) else xs.getD i 0
theorem partF_len (xs : List Nat) (k j : Nat) : (partF xs k j).length = xs.length := by simp [partF]
theorem partF_zero (xs : List Nat) (k : Nat) : partF xs k 0 = xs := by
  apply List.ext_getElem
  · simp [partF]
  · intro i h1 h2
    simp [partF, h2]
theorem partF_all (xs : List Nat) (k : Nat) : partF xs k xs.length = marksF k xs.length := by
  apply List.ext_getElem
  · simp [partF, marksF]
  · intro i h1 h2
    have h3 : i < xs.length := by simpa [partF] using h1
    simp [partF, marksF, h3]
theorem partF_set (xs : List Nat) (k j : Nat) : (fv (partF xs k j)).set j (.float .f32 (mk32 (k + j))) = fv (partF xs k (j + 1)) := by
  apply List.ext_getElem
  · simp [partF, fv]
  · intro i h1 h2
    rw [List.getElem_set]
    by_cases hij : j = i
    · subst hij
      simp [partF, fv]
    · rw [if_neg hij]
      by_cases hlt : i < j
      · have : i < j + 1 := by omega
        simp [partF, fv, hlt, this]
      · have : ¬ i < j + 1 := by omega
        simp [partF, fv, hlt, this]
theorem ownF_set {B : Nat} {w : World} {g cap : Nat} {xs : List Nat} {k j : Nat} (h : OwnF B w g cap (partF xs k j)) : OwnF B (w.setCell ⟨g, j, none⟩ (.float .f32 (mk32 (k + j)))) g cap (partF xs k (j + 1)) := by
  have h1 := (World.ownsRow.stored h j (.float .f32 (mk32 (k + j)))).1
  rw [partF_set] at h1
  unfold OwnF
  rw [partF_len] at h1 ⊢
  exact h1
set_option maxHeartbeats 400000 in
theorem mark_anyF (B : Nat) (g cap k : Nat) (xs : List Nat) (hl : xs.length ≤ 300) (hk : k ≤ 50) (w : World) (ho : OwnF B w g cap xs) :
    Calls Tryd.prog 19 #[.slice (some ⟨g, 0, none⟩) xs.length cap, .int .i64 (k : Int)] w fun e w' => e = .returned (.int .i64 ((k + xs.length : Nat) : Int)) ∧ OwnF B w' g cap (marksF k xs.length) ∧ Below g w w' := by
  have HO := Lib.hid ho
  clear ho
  go_enter Tryd.func19, Tryd.ntmps19
  go_wp2
  go_loopw [1, 5] (fun n i wr => ∃ j : Nat, j ≤ xs.length ∧ n = .int .i64 ((k + j : Nat) : Int) ∧ i = .int .i64 j ∧ OwnF B wr g cap (partF xs k j) ∧ Below g w wr) (fun _ i _ => xs.length - (RowKit.intOf i).toNat)
  case atStart => exact ⟨0, Nat.zero_le _, rfl, rfl, by rw [partF_zero]; exact HO.out, Below.refl _ _⟩
  case round =>
    obtain ⟨j, hj, rfl, rfl, ho, hb⟩ := hrel
    have HB := Lib.hid hb
    clear hb
    by_cases hlt : j < xs.length
    · have hpl := partF_len xs k j
      have hcell := World.ownsRow.cellAt ho j (by rw [hpl]; omega)
      obtain ⟨u, hu⟩ : ∃ u, (fv (partF xs k j))[j]? = some (.float .f32 u) := ⟨(partF xs k j)[j]'(by omega), by simp [fv, hpl, hlt]⟩
      have hcell2 := hcell.trans hu
      have hfz := World.ownsRow.frozenAt ho j
      have hmk : floatOfInt .f32 ((k : Int) + (j : Int)) = mk32 (k + j) := by unfold mk32; congr 1
      have HS := Lib.hid (ownF_set ho)
      clear ho hcell hu hpl
      go_wp2
      go_roundw
      case rel => exact ⟨j + 1, by omega, by go_num, by go_num, HS.out, HB.out.setCell (by exact Nat.le_refl _) _⟩
      case measure => simp [RowKit.intOf]; omega
    · obtain rfl : j = xs.length := by omega
      have HS := Lib.hid ho
      clear ho
      go_wp2
      go_ret
      exact ⟨rfl, by rw [← partF_all]; exact HS.out, HB.out⟩
set_option maxHeartbeats 400000 in
theorem held_anyF (a : Option Addr) (cap k n : Nat) (hl : n ≤ 300) (hk : k ≤ 50) (w : World) (hr : RowF w a (marksF k n)) :
    Calls Tryd.prog 20 #[.slice a n cap, .int .i64 (k : Int)] w fun e w' => e = .returned (.int .i64 ((k + n : Nat) : Int)) ∧ w' = w := by
  have hln := marksF_len k n
  rcases cells_ofF hr with h0 | ⟨b, off, rfl, hc⟩
  · obtain rfl : n = 0 := by rw [h0] at hln; exact hln.symm
    clear hr h0 hln
    go_enter Tryd.func20, Tryd.ntmps20
    go_wp2
    go_loopw [1, 5] (fun m i wr => m = .int .i64 (k : Int) ∧ i = .int .i64 0 ∧ wr = w) (fun _ _ _ => 0)
    case atStart => exact ⟨rfl, rfl, rfl⟩
    case round =>
      obtain ⟨rfl, rfl, rfl⟩ := hrel
      go_wp2
      go_ret
      exact ⟨rfl, rfl⟩
  · have H1 : Hid (∀ i (hi : i < n), w.cell? ⟨b, off + i, none⟩ = some (.float .f32 (mk32 (k + i)))) := fun i hi => by
      rw [hc i (by omega), marksF_get]
    clear hc hr hln
    go_enter Tryd.func20, Tryd.ntmps20
    go_wp2
    go_loopw [1, 5] (fun m i wr => ∃ j : Nat, j ≤ n ∧ m = .int .i64 ((k + j : Nat) : Int) ∧ i = .int .i64 j ∧ wr = w) (fun _ i _ => n - (RowKit.intOf i).toNat)
    case atStart => exact ⟨0, Nat.zero_le _, rfl, rfl, rfl⟩
    case round =>
      obtain ⟨j, hj, rfl, rfl, rfl⟩ := hrel
      by_cases hlt : j < n
      · have h1 := H1.out j hlt
        have hmk : floatOfInt .f32 ((k : Int) + (j : Int)) = mk32 (k + j) := by unfold mk32; congr 1
        have hne := neq_num (mk32_num (k + j) (by omega))
        go_wp2
        go_roundw
        case rel => exact ⟨j + 1, by omega, by go_num, by go_num, by simp⟩
        case measure => simp [RowKit.intOf]; omega
      · obtain rfl : j = n := by omega
        go_wp2
        go_ret
        exact ⟨rfl, by simp⟩
end Go.Proofs.YtoafncjmjocaoaaDoor
