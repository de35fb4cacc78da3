/-
  The program's question whether grains are valid, walked.
-/
import Derived.Test.YtlolmopfeglifaaGrR
namespace Go.Proofs.Ytlolmopfeglifaa
open Go Go.RowKit

theorem areFinite_four (x y z u : Nat) (t : TypeId) (n : Nat) (w : World) :
    Calls Try.prog 17 #[.slice (some ⟨w.heap.size, 0, none⟩) 4 4] ((w.alloc (.cells #[.float .f32 x, .float .f32 y, .float .f32 z, .float .f32 u] t)).drewN n) (GivesB ((w.alloc (.cells #[.float .f32 x, .float .f32 y, .float .f32 z, .float .f32 u] t)).drewN n) (fin .f32 x && (fin .f32 y && (fin .f32 z && fin .f32 u)))) := by
  have h := areFinite_any [x, y, z, u] w.heap.size 4 ((w.alloc (.cells #[.float .f32 x, .float .f32 y, .float .f32 z, .float .f32 u] t)).drewN n) (by simp) (fun i h => by
    rw [World.cell?_drewN, World.cell?_alloc_new]
    match i, h with
    | 0, _ => rfl
    | 1, _ => rfl
    | 2, _ => rfl
    | 3, _ => rfl)
  have e : [x, y, z, u].all (fin .f32) = (fin .f32 x && (fin .f32 y && (fin .f32 z && fin .f32 u))) := by simp [List.all_cons]
  rw [e] at h
  exact h
/-- a bool is handed back; what was there stays. -/
def GivesBb (w : World) (b : Bool) (e : Ending) (w' : World) : Prop := e = .returned (.bool b) ∧ Below w.heap.size w w'
theorem impl_IsFiniteComplex (x y : Nat) (w : World) : Calls Try.prog 39 #[.complex .f32 x y] w (GivesBb w (fin .f32 x && fin .f32 y)) := by
  have HF := Lib.hid (fun t => areFinite_two x y t 0 w)
  have HB := Lib.hid (fun o => (Below.refl w.heap.size w).alloc (Nat.le_refl _) o)
  go_enter Try.func39, Try.ntmps39
  go_wp2_with (go_at_call 17; refine (HF.out _).mono ?_; rintro e w' ⟨rfl, n1, rfl⟩)
  go_ret
  exact ⟨rfl, below_drewNG (HB.out _) _⟩
theorem G7.below {w w' : World} {b off r m : Nat} {p : Nat × Nat} (h : G7 w b off r m p) (hb : Below w.heap.size w w') : G7 w' b off r m p := fun k hk => by
  have h1 := h k hk
  rw [← h1]
  exact hb.cell (p := ⟨b, off + k, none⟩) (World.block_lt_of_cell? _ _ (h1.trans (List.getElem?_eq_getElem (by rw [gc_len]; exact hk))))
theorem G7.new (w : World) (r m x y : Nat) (t : TypeId) : G7 (w.alloc (.cells (gc r m x y).toArray t)) w.heap.size 0 r m (x, y) := fun k hk => by
  rw [World.cell?_alloc_new]
  simp
theorem G7.six {w : World} {b r m : Nat} {x y : Nat} (h : G7 w b 0 r m (x, y)) : w.cell? ⟨b, 0, none⟩ = some (.complex .f32 x y) ∧ w.cell? ⟨b, 1, none⟩ = some (.complex .f32 0 0) ∧ w.cell? ⟨b, 2, none⟩ = some (.float .f32 r) ∧ w.cell? ⟨b, 3, none⟩ = some (.float .f32 m) ∧ w.cell? ⟨b, 4, none⟩ = some (.float .f32 0) ∧ w.cell? ⟨b, 5, none⟩ = some (.float .f32 0) ∧ w.cell? ⟨b, 6, none⟩ = some (.bool false) :=
  ⟨h 0 (by decide), h 1 (by decide), h 2 (by decide), h 3 (by decide), h 4 (by decide), h 5 (by decide), h 6 (by decide)⟩
theorem gv_alt (r m x y : Nat) : gv r m (x, y) = ((fin .f32 x && fin .f32 y) && ((fin .f32 r && (fin .f32 m && (true && true))) && ((FloatKind.f32.format.order r 0 == some .gt) && (FloatKind.f32.format.order m 0 == some .gt)))) := by
  unfold gv above
  cases fin .f32 x <;> cases fin .f32 y <;> cases fin .f32 r <;> cases fin .f32 m <;> simp
set_option maxHeartbeats 4000000 in
theorem impl_ValidGrain (x y r m : Nat) (w : World) :
    Calls Try.prog 33 #[.agg #[.complex .f32 x y, .complex .f32 0 0, .float .f32 r, .float .f32 m, .float .f32 0, .float .f32 0, .bool false]] w (GivesBb w (gv r m (x, y))) := by
  have HC := Lib.hid (fun w => impl_IsFiniteComplex x y w)
  have HZ := Lib.hid (fun w => impl_IsFiniteComplex 0 0 w)
  have HF := Lib.hid (fun t w => areFinite_four r m 0 0 t 0 w)
  rw [fin32_0] at HF HZ
  have HB := Lib.hid ((Below.refl w.heap.size w).alloc (Nat.le_refl _) (.cells (gc r m x y).toArray 40))
  have HG := Lib.hid (G7.new w r m x y 40)
  have HA := Lib.hid (gv_alt r m x y)
  generalize (fin .f32 x && fin .f32 y) = bx at *
  generalize (fin .f32 r && (fin .f32 m && (true && true))) = bf at *
  generalize hbr : (FloatKind.f32.format.order r 0 == some .gt) = br at *
  generalize hbm : (FloatKind.f32.format.order m 0 == some .gt) = bm at *
  cases bx <;> cases bf <;> cases br <;> cases bm
  all_goals
    go_enter Try.func33, Try.ntmps33
    go_wp2_with (first
      | (go_at_call 39; first | ((with_reducible refine (HC.out _).mono ?_); rintro e w1 ⟨rfl, hb⟩; have HG1 := Lib.hid (G7.below (by exact HG.out) hb); obtain ⟨c0, c1, c2, c3, c4, c5, c6⟩ := HG1.out.six; have HB1 := Lib.hid (HB.out.trans (hb.mono HB.out.size)); clear hb) | ((with_reducible refine (HZ.out _).mono ?_); rintro e w2 ⟨rfl, hb⟩; have HG2 := Lib.hid (HG1.out.below hb); obtain ⟨d0, d1, d2, d3, d4, d5, d6⟩ := HG2.out.six; have hl2 : w.heap.size < w2.heap.size := World.block_lt_of_cell? _ _ d0; have HB2 := Lib.hid (HB1.out.trans (hb.mono HB1.out.size)); clear hb))
      | (go_at_call 17; refine (HF.out _ _).mono ?_; rintro e w' ⟨rfl, n1, rfl⟩))
    go_ret
    first
    | exact ⟨by rw [HA.out]; rfl, HB1.out⟩
    | exact ⟨by rw [HA.out]; rfl, below_drewNG (HB2.out.alloc (Nat.le_of_lt hl2) _) _⟩
end Go.Proofs.Ytlolmopfeglifaa
