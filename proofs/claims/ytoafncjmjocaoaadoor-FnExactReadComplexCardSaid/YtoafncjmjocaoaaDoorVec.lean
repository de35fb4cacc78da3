/-
  Slices of 32-bit numbers: the laws' copy of one and their comparison of two.
-/
import Derived.Test.YtoafncjmjocaoaaDoorChecked
import Derived.Test.YtoafncjmjocaoaaDoorSame
import Derived.Below
import Derived.Handy
import Derived.Laws.MakeOwn
namespace Go.Proofs.YtoafncjmjocaoaaDoor
open Go Go.RowKit

section
variable (P : Program) (w : World) (a : Addr) (m : Mode)
@[go_sem] theorem run_store_float (k : FloatKind) (b : Nat) : (store a (.float k b) m).run P w = stored P w a (.float k b) m := run_store P w a _ m rfl
@[go_sem] theorem run_store_complex (k : FloatKind) (b c : Nat) : (store a (.complex k b c) m).run P w = stored P w a (.complex k b c) m := run_store P w a _ m rfl
end

/-- the slice at a holds these numbers. -/
def RowF (w : World) (a : Option Addr) (xs : List Nat) : Prop := ∀ i (h : i < xs.length), ∃ b off, a = some ⟨b, off, none⟩ ∧ w.cell? ⟨b, off + i, none⟩ = some (.float .f32 xs[i])
theorem RowF.drewN {w : World} {a : Option Addr} {xs : List Nat} (h : RowF w a xs) (n : Nat) : RowF (w.drewN n) a xs := h
theorem RowF.below {w w' : World} {a : Option Addr} {xs : List Nat} (h : RowF w a xs) (hb : Below w.heap.size w w') : RowF w' a xs := by
  intro i hi
  obtain ⟨b, off, ha, hc⟩ := h i hi
  exact ⟨b, off, ha, (hb.cell (p := ⟨b, off + i, none⟩) (World.block_lt_of_cell? _ _ hc)).trans hc⟩
theorem RowF.at {w : World} {a : Option Addr} {x : Nat} {xs : List Nat} (h : RowF w a (x :: xs)) : ∃ b off, a = some ⟨b, off, none⟩ ∧ ∀ i (hi : i < (x :: xs).length), w.cell? ⟨b, off + i, none⟩ = some (.float .f32 (x :: xs)[i]) := by
  obtain ⟨b, off, ha, _⟩ := h 0 (by simp)
  refine ⟨b, off, ha, fun i hi => ?_⟩
  obtain ⟨b', off', ha', hc⟩ := h i hi
  rw [ha] at ha'
  simp only [Option.some.injEq, Addr.mk.injEq] at ha'
  obtain ⟨rfl, rfl, _⟩ := ha'
  exact hc

def fillF (xs : List Nat) (k : Nat) : Array Value := ((xs.take k).map (Value.float .f32) ++ List.replicate (xs.length - k) (Value.float .f32 0)).toArray
theorem fillF_zero (xs : List Nat) : fillF xs 0 = madeCells (Value.float .f32 0).cells (xs.length * 1) := by
  unfold fillF
  simp only [List.take_zero, List.map_nil, List.nil_append, Nat.sub_zero, Nat.mul_one]
  apply Array.ext'
  show List.replicate xs.length (Value.float .f32 0) = (madeCells #[Value.float .f32 0] xs.length).toList
  rw [toList_madeCells_one]
theorem fillF_get (xs : List Nat) (k : Nat) (h : k < xs.length) : (fillF xs k)[k]? = some (.float .f32 0) := by
  unfold fillF
  rw [List.getElem?_toArray, List.getElem?_append_right (by simp; omega)]
  simp only [List.length_map, List.length_take]
  rw [List.getElem?_replicate]
  rw [if_pos (by omega)]
theorem fillF_set (xs : List Nat) (k : Nat) (h : k < xs.length) : (fillF xs k).setIfInBounds k (.float .f32 xs[k]) = fillF xs (k + 1) := by
  unfold fillF
  rw [List.setIfInBounds_toArray]
  congr 1
  have hl : ((xs.take k).map (Value.float .f32)).length = k := by simp; omega
  rw [List.set_append_right _ _ (by omega), hl, Nat.sub_self]
  obtain ⟨n, hn⟩ : ∃ n, xs.length - k = n + 1 := ⟨xs.length - k - 1, by omega⟩
  rw [hn, List.replicate_succ, List.set_cons_zero, List.take_succ_eq_append_getElem h, List.map_append, List.append_assoc]
  have e : xs.length - (k + 1) = n := by omega
  rw [e]
  rfl
theorem fillF_all (xs : List Nat) : fillF xs xs.length = (xs.map (Value.float .f32)).toArray := by
  unfold fillF
  simp

theorem infoF : (Tryd.prog.info? 51).map (fun i => (i.zero, i.size, i.bytes)) = some (some (.float .f32 0), 1, 4) := by kernel_rfl
theorem info_partsF : ∃ i, Tryd.prog.info? 51 = some i ∧ i.zero = some (.float .f32 0) ∧ i.size = 1 ∧ i.bytes = 4 := by
  have h := infoF
  cases hi : Tryd.prog.info? 51 with
  | none => rw [hi] at h; cases h
  | some i =>
    rw [hi] at h
    simp only [Option.map_some, Option.some.injEq, Prod.mk.injEq] at h
    exact ⟨i, rfl, h.1, h.2.1, h.2.2⟩
theorem makeF (n : Nat) (hn : n ≤ 1048576) (w : World) : (Instr.makeSlice 28 (.int .i64 (n : Int)) (.int .i64 (n : Int))).run Tryd.prog w = .ok (.slice (some ⟨w.heap.size, 0, none⟩) n n) (w.alloc (.cells (madeCells (Value.float .f32 0).cells (n * 1)) 51)) := by
  obtain ⟨i, hi, hz, hs, hb⟩ := info_partsF
  have h := run_make (P := Tryd.prog) w 28 51 i _ Tryd.underlying28 hi hz .i64 .i64 (n : Int) (n : Int) (by omega) (by omega) (by rw [hb]; omega) (by omega)
  rw [hs, Int.toNat_natCast] at h
  exact h

/-- what the laws' copy comes to: a new block that holds the numbers. -/
def GivesCopy (w : World) (xs : List Nat) (e : Ending) (w' : World) : Prop := ∃ b, e = .returned (.slice (some ⟨b, 0, none⟩) xs.length xs.length) ∧ Below w.heap.size w w' ∧ b < w'.heap.size ∧ RowF w' (some ⟨b, 0, none⟩) xs
theorem copy_row (w : World) (xs : List Nat) : GivesCopy w xs (.returned (.slice (some ⟨w.heap.size, 0, none⟩) xs.length xs.length)) (w.alloc (.cells (fillF xs xs.length) 51)) := by
  refine ⟨_, rfl, (Below.refl _ _).alloc (Nat.le_refl _) _, by simp, fun i hi => ⟨_, _, rfl, ?_⟩⟩
  rw [Nat.zero_add, World.cell?_alloc_new, fillF_all]
  simp [hi]
set_option maxHeartbeats 400000 in
set_option maxRecDepth 100000 in
theorem toF_any (a : Option Addr) (c : Nat) (xs : List Nat) (hl : xs.length ≤ 1048576) (w : World) (hr : RowF w a xs) :
    Calls Tryd.prog 34 #[.slice a xs.length c] w (GivesCopy w xs) := by
  have hmk := makeF xs.length hl
  rw [← fillF_zero] at hmk
  have HC := Lib.hid (copy_row w xs)
  match xs, hr, hl, hmk, HC with
  | [], _, _, hmk, HC =>
    have hmk' : ∀ w, (Instr.makeSlice 28 (.int .i64 0) (.int .i64 0)).run Tryd.prog w = .ok (.slice (some ⟨w.heap.size, 0, none⟩) 0 0) (w.alloc (.cells (fillF [] 0) 51)) := hmk
    clear hmk
    go_enter Tryd.func34, Tryd.ntmps34
    go_wp2
    go_loopw [4] (fun i wr => i = .int .i64 0 ∧ wr = w.alloc (.cells (fillF [] 0) 51)) (fun _ _ => 0)
    case atStart => exact ⟨rfl, rfl⟩
    case round =>
      obtain ⟨rfl, rfl⟩ := hrel
      go_wp2
      go_ret
      exact HC.out
  | x :: xs, hr, hl, hmk, HC =>
    obtain ⟨b, off, rfl, hc⟩ := hr.at
    have hbl : b < w.heap.size := World.block_lt_of_cell? _ _ (hc 0 (by simp))
    generalize hys : x :: xs = ys at *
    have hx0 : 0 < ys.length := by rw [← hys]; simp
    clear hys hr
    have HCell := Lib.hid hc
    clear hc
    go_enter Tryd.func34, Tryd.ntmps34
    go_wp2
    clear hmk
    go_loopw [4] (fun i wr => ∃ k : Nat, k ≤ ys.length ∧ i = .int .i64 k ∧ wr = w.alloc (.cells (fillF ys k) 51)) (fun i _ => ys.length - (intOf i).toNat)
    case atStart => exact ⟨0, Nat.zero_le _, rfl, rfl⟩
    case round =>
      obtain ⟨k, hk, rfl, rfl⟩ := hrel
      by_cases hlt : k < ys.length
      · have hld : ∀ o, (w.alloc o).cell? ⟨b, off + k, none⟩ = some (.float .f32 ys[k]) := fun o => (World.cell?_alloc_lt _ _ _ hbl).trans (HCell.out k hlt)
        have hgt := fillF_get ys k hlt
        have HS := Lib.hid (fillF_set ys k hlt)
        go_wp2
        go_roundw
        case rel => exact ⟨k + 1, by omega, by go_num, by rw [← HS.out]⟩
        case measure => simp [intOf]; omega
      · have hk' : k = ys.length := by omega
        have HK := Lib.hid hk'
        clear hk'
        go_wp2
        go_ret
        rw [HK.out]
        exact HC.out
end Go.Proofs.YtoafncjmjocaoaaDoor
