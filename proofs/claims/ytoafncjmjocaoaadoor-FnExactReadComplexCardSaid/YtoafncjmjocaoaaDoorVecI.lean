/-
  Slices of 64-bit integers: the laws' copy of one and their comparison of two.
-/
import Derived.Test.YtoafncjmjocaoaaDoorChecked
import Derived.WalkKit
import Derived.WalkSmall
import Derived.Deep.Draws
import Derived.Lib.Hide
import Derived.Below
import Derived.Handy
import Derived.Laws.MakeOwn
namespace Go.Proofs.YtoafncjmjocaoaaDoor
open Go Go.RowKit

/-- the slice at a holds these numbers. -/
def RowI (w : World) (a : Option Addr) (xs : List Int) : Prop := ∀ i (h : i < xs.length), ∃ b off, a = some ⟨b, off, none⟩ ∧ w.cell? ⟨b, off + i, none⟩ = some (.int .i64 xs[i])
theorem RowI.drewN {w : World} {a : Option Addr} {xs : List Int} (h : RowI w a xs) (n : Nat) : RowI (w.drewN n) a xs := h
theorem RowI.below {w w' : World} {a : Option Addr} {xs : List Int} (h : RowI w a xs) (hb : Below w.heap.size w w') : RowI w' a xs := by
  intro i hi
  obtain ⟨b, off, ha, hc⟩ := h i hi
  exact ⟨b, off, ha, (hb.cell (p := ⟨b, off + i, none⟩) (World.block_lt_of_cell? _ _ hc)).trans hc⟩
theorem RowI.at {w : World} {a : Option Addr} {x : Int} {xs : List Int} (h : RowI w a (x :: xs)) : ∃ b off, a = some ⟨b, off, none⟩ ∧ ∀ i (hi : i < (x :: xs).length), w.cell? ⟨b, off + i, none⟩ = some (.int .i64 (x :: xs)[i]) := by
  obtain ⟨b, off, ha, _⟩ := h 0 (by simp)
  refine ⟨b, off, ha, fun i hi => ?_⟩
  obtain ⟨b', off', ha', hc⟩ := h i hi
  rw [ha] at ha'
  simp only [Option.some.injEq, Addr.mk.injEq] at ha'
  obtain ⟨rfl, rfl, _⟩ := ha'
  exact hc

def fillI (xs : List Int) (k : Nat) : Array Value := ((xs.take k).map (Value.int .i64) ++ List.replicate (xs.length - k) (Value.int .i64 0)).toArray
theorem fillI_zero (xs : List Int) : fillI xs 0 = madeCells (Value.int .i64 0).cells (xs.length * 1) := by
  unfold fillI
  simp only [List.take_zero, List.map_nil, List.nil_append, Nat.sub_zero, Nat.mul_one]
  apply Array.ext'
  show List.replicate xs.length (Value.int .i64 0) = (madeCells #[Value.int .i64 0] xs.length).toList
  rw [toList_madeCells_one]
theorem fillI_get (xs : List Int) (k : Nat) (h : k < xs.length) : (fillI xs k)[k]? = some (.int .i64 0) := by
  unfold fillI
  rw [List.getElem?_toArray, List.getElem?_append_right (by simp; omega)]
  simp only [List.length_map, List.length_take]
  rw [List.getElem?_replicate]
  rw [if_pos (by omega)]
theorem fillI_set (xs : List Int) (k : Nat) (h : k < xs.length) : (fillI xs k).setIfInBounds k (.int .i64 xs[k]) = fillI xs (k + 1) := by
  unfold fillI
  rw [List.setIfInBounds_toArray]
  congr 1
  have hl : ((xs.take k).map (Value.int .i64)).length = k := by simp; omega
  rw [List.set_append_right _ _ (by omega), hl, Nat.sub_self]
  obtain ⟨n, hn⟩ : ∃ n, xs.length - k = n + 1 := ⟨xs.length - k - 1, by omega⟩
  rw [hn, List.replicate_succ, List.set_cons_zero, List.take_succ_eq_append_getElem h, List.map_append, List.append_assoc]
  have e : xs.length - (k + 1) = n := by omega
  rw [e]
  rfl
theorem fillI_all (xs : List Int) : fillI xs xs.length = (xs.map (Value.int .i64)).toArray := by
  unfold fillI
  simp

theorem infoI : (Tryd.prog.info? 2).map (fun i => (i.zero, i.size, i.bytes)) = some (some (.int .i64 0), 1, 8) := by kernel_rfl
theorem info_partsI : ∃ i, Tryd.prog.info? 2 = some i ∧ i.zero = some (.int .i64 0) ∧ i.size = 1 ∧ i.bytes = 8 := by
  have h := infoI
  cases hi : Tryd.prog.info? 2 with
  | none => rw [hi] at h; cases h
  | some i =>
    rw [hi] at h
    simp only [Option.map_some, Option.some.injEq, Prod.mk.injEq] at h
    exact ⟨i, rfl, h.1, h.2.1, h.2.2⟩
theorem makeI (n : Nat) (hn : n ≤ 1048576) (w : World) : (Instr.makeSlice 22 (.int .i64 (n : Int)) (.int .i64 (n : Int))).run Tryd.prog w = .ok (.slice (some ⟨w.heap.size, 0, none⟩) n n) (w.alloc (.cells (madeCells (Value.int .i64 0).cells (n * 1)) 2)) := by
  obtain ⟨i, hi, hz, hs, hb⟩ := info_partsI
  have h := run_make (P := Tryd.prog) w 22 2 i _ Tryd.underlying22 hi hz .i64 .i64 (n : Int) (n : Int) (by omega) (by omega) (by rw [hb]; omega) (by omega)
  rw [hs, Int.toNat_natCast] at h
  exact h

/-- what the laws' copy comes to: a new block that holds the numbers. -/
def GivesCopyI (w : World) (xs : List Int) (e : Ending) (w' : World) : Prop := ∃ b, e = .returned (.slice (some ⟨b, 0, none⟩) xs.length xs.length) ∧ Below w.heap.size w w' ∧ b < w'.heap.size ∧ RowI w' (some ⟨b, 0, none⟩) xs
theorem copy_rowI (w : World) (xs : List Int) : GivesCopyI w xs (.returned (.slice (some ⟨w.heap.size, 0, none⟩) xs.length xs.length)) (w.alloc (.cells (fillI xs xs.length) 2)) := by
  refine ⟨_, rfl, (Below.refl _ _).alloc (Nat.le_refl _) _, by simp, fun i hi => ⟨_, _, rfl, ?_⟩⟩
  rw [Nat.zero_add, World.cell?_alloc_new, fillI_all]
  simp [hi]
set_option maxHeartbeats 400000 in
theorem toI_any (a : Option Addr) (c : Nat) (xs : List Int) (hl : xs.length ≤ 1048576) (w : World) (hr : RowI w a xs) :
    Calls Tryd.prog 31 #[.slice a xs.length c] w (GivesCopyI w xs) := by
  have hmk := makeI xs.length hl
  rw [← fillI_zero] at hmk
  have HC := Lib.hid (copy_rowI w xs)
  cases xs with
  | nil =>
    clear hr
    have hmk' : ∀ w, (Instr.makeSlice 22 (.int .i64 0) (.int .i64 0)).run Tryd.prog w = .ok (.slice (some ⟨w.heap.size, 0, none⟩) 0 0) (w.alloc (.cells (fillI [] 0) 2)) := hmk
    clear hmk
    go_enter Tryd.func31, Tryd.ntmps31
    go_wp2
    go_loopw [4] (fun i wr => i = .int .i64 0 ∧ wr = w.alloc (.cells (fillI [] 0) 2)) (fun _ _ => 0)
    case atStart => exact ⟨rfl, rfl⟩
    case round =>
      obtain ⟨rfl, rfl⟩ := hrel
      go_wp2
      go_ret
      exact HC.out
  | cons x xs =>
    obtain ⟨b, off, rfl, hc⟩ := hr.at
    have hbl : b < w.heap.size := World.block_lt_of_cell? _ _ (hc 0 (by simp))
    generalize hys : x :: xs = ys at *
    have hx0 : 0 < ys.length := by rw [← hys]; simp
    clear hys hr
    have HCell := Lib.hid hc
    clear hc
    go_enter Tryd.func31, Tryd.ntmps31
    go_wp2
    clear hmk
    go_loopw [4] (fun i wr => ∃ k : Nat, k ≤ ys.length ∧ i = .int .i64 k ∧ wr = w.alloc (.cells (fillI ys k) 2)) (fun i _ => ys.length - (intOf i).toNat)
    case atStart => exact ⟨0, Nat.zero_le _, rfl, rfl⟩
    case round =>
      obtain ⟨k, hk, rfl, rfl⟩ := hrel
      by_cases hlt : k < ys.length
      · have hld : ∀ o, (w.alloc o).cell? ⟨b, off + k, none⟩ = some (.int .i64 ys[k]) := fun o => (World.cell?_alloc_lt _ _ _ hbl).trans (HCell.out k hlt)
        have hgt := fillI_get ys k hlt
        have HS := Lib.hid (fillI_set ys k hlt)
        go_wp2
        go_roundw
        case rel => exact ⟨k + 1, by omega, by go_num, by rw [← HS.out]⟩
        case measure => simp [intOf]; omega
      · have hk' : k = ys.length := by omega
        have HK := Lib.hid hk'
        clear hk'
        go_wp2
        go_ret
        rw [HK.out]
        exact HC.out
end Go.Proofs.YtoafncjmjocaoaaDoor
