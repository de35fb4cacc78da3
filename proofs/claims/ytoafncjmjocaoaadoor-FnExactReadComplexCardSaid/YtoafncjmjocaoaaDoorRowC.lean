/-
  Slices of complex numbers: rows, rows of one's own, the laws' comparison and their marks.
-/
import Derived.Test.YtoafncjmjocaoaaDoorRowF
namespace Go.Proofs.YtoafncjmjocaoaaDoor
open Go Go.RowKit

/-- the slice at a holds these numbers. -/
def RowC (w : World) (a : Option Addr) (xs : List (Nat × Nat)) : Prop := ∀ i (h : i < xs.length), ∃ b off, a = some ⟨b, off, none⟩ ∧ w.cell? ⟨b, off + i, none⟩ = some (.complex .f32 xs[i].1 xs[i].2)
theorem RowC.drewN {w : World} {a : Option Addr} {xs : List (Nat × Nat)} (h : RowC w a xs) (n : Nat) : RowC (w.drewN n) a xs := h
theorem RowC.below {w w' : World} {a : Option Addr} {xs : List (Nat × Nat)} (h : RowC w a xs) (hb : Below w.heap.size w w') : RowC w' a xs := by
  intro i hi
  obtain ⟨b, off, ha, hc⟩ := h i hi
  exact ⟨b, off, ha, (hb.cell (p := ⟨b, off + i, none⟩) (World.block_lt_of_cell? _ _ hc)).trans hc⟩
theorem RowC.at {w : World} {a : Option Addr} {x : Nat × Nat} {xs : List (Nat × Nat)} (h : RowC w a (x :: xs)) : ∃ b off, a = some ⟨b, off, none⟩ ∧ ∀ i (hi : i < (x :: xs).length), w.cell? ⟨b, off + i, none⟩ = some (.complex .f32 (x :: xs)[i].1 (x :: xs)[i].2) := by
  obtain ⟨b, off, ha, _⟩ := h 0 (by simp)
  refine ⟨b, off, ha, fun i hi => ?_⟩
  obtain ⟨b', off', ha', hc⟩ := h i hi
  rw [ha] at ha'
  simp only [Option.some.injEq, Addr.mk.injEq] at ha'
  obtain ⟨rfl, rfl, _⟩ := ha'
  exact hc

theorem cells_ofC {w : World} {a : Option Addr} {xs : List (Nat × Nat)} (h : RowC w a xs) : xs = [] ∨ ∃ b off, a = some ⟨b, off, none⟩ ∧ ∀ i (hi : i < xs.length), w.cell? ⟨b, off + i, none⟩ = some (.complex .f32 xs[i].1 xs[i].2) := by
  cases xs with
  | nil => exact .inl rfl
  | cons x xs => exact .inr h.at
theorem infoC : (Tryd.prog.info? 56).map (fun i => (i.zero, i.size, i.bytes)) = some (some (.complex .f32 0 0), 1, 8) := by kernel_rfl
theorem info_partsC : ∃ i, Tryd.prog.info? 56 = some i ∧ i.zero = some (.complex .f32 0 0) ∧ i.size = 1 ∧ i.bytes = 8 := by
  have h := infoC
  cases hi : Tryd.prog.info? 56 with
  | none => rw [hi] at h; cases h
  | some i =>
    rw [hi] at h
    simp only [Option.map_some, Option.some.injEq, Prod.mk.injEq] at h
    exact ⟨i, rfl, h.1, h.2.1, h.2.2⟩
def cv (xs : List (Nat × Nat)) : List Value := xs.map fun x => Value.complex .f32 x.1 x.2
/-- integers of our own, from block B on. -/
def OwnC (B : Nat) (w : World) (g cap : Nat) (xs : List (Nat × Nat)) : Prop := w.ownsRow B 56 1 (.slice (some ⟨g, 0, none⟩) xs.length cap) xs.length (cv xs)
theorem buildC0 (w : World) : (Instr.buildSlice 33 0 #[]).run Tryd.prog w = .ok (.slice (some ⟨w.heap.size, 0, none⟩) 0 0) (w.alloc (.cells #[] 56)) := by
  obtain ⟨i, hi, hz, hs, hb⟩ := info_partsC
  simp [Instr.buildSlice, run_underlying Tryd.underlying33, sizeOf, typeInfo, hi, newRow, Instr.fill]
  rw [show Array.range 0 = #[] by decide]
  simp
theorem buildC1 (s : Nat × Nat) (w : World) : (Instr.buildSlice 33 1 #[(0, .complex .f32 s.1 s.2)]).run Tryd.prog w = .ok (.slice (some ⟨w.heap.size, 0, none⟩) 1 1) (w.alloc (.cells #[.complex .f32 s.1 s.2] 56)) := by
  obtain ⟨i, hi, hz, hs, hb⟩ := info_partsC
  refine run_buildSlice w 33 56 1 #[(0, .complex .f32 s.1 s.2)] _ i _ Tryd.underlying33 hi hz (by rw [hs]; decide) (by rw [hs]; decide) ?_
  rw [hs]
  have h1 : Array.range 1 = #[0] := by decide
  simp only [Nat.one_mul, h1]
  simp [Instr.fill, Value.cells]
theorem ownC_empty (w : World) : OwnC w.heap.size (w.alloc (.cells #[] 56)) w.heap.size 0 [] := World.ownsRow_lit w #[] 0 (Nat.le_refl _) (by decide) (by simp)
theorem ownC_below {B : Nat} {w w' : World} {g cap : Nat} {xs : List (Nat × Nat)} (h : OwnC B w g cap xs) (hb : Below w.heap.size w w') : OwnC B w' g cap xs := by
  refine ⟨h.1, ?_⟩
  rcases h.2 with h0 | ⟨g', cap', cur, h1, h2, h3, h4⟩
  · exact .inl h0
  · refine .inr ⟨g', cap', cur, h1, h2, ?_, h4⟩
    have hlt : g' < w.heap.size := by
      rcases Nat.lt_or_ge g' w.heap.size with h' | h'
      · exact h'
      · rw [Array.getElem?_eq_none h'] at h3; cases h3
    rw [hb.block g' hlt, h3]
theorem ownC_row {B : Nat} {w : World} {g cap : Nat} {xs : List (Nat × Nat)} (h : OwnC B w g cap xs) : RowC w (some ⟨g, 0, none⟩) xs := fun i hi => ⟨g, 0, rfl, by
  rw [Nat.zero_add, World.ownsRow.cellAt h i (by omega)]
  simp [cv, hi]⟩
theorem ownC_ge {B : Nat} {w : World} {g cap : Nat} {xs : List (Nat × Nat)} (h : OwnC B w g cap xs) : B ≤ g := by
  rcases h.2 with ⟨h0, _⟩ | ⟨g', cap', cur, h1, h2, _⟩
  · cases h0
  · simp only [Value.slice.injEq, Option.some.injEq, Addr.mk.injEq] at h1
    omega
/-- one more number behind those. -/
theorem behindC (B : Nat) (w : World) (g cap : Nat) (xs : List (Nat × Nat)) (s : Nat × Nat) (ty : TypeId) (hlen : xs.length ≤ 2000000) (ho : OwnC B w g cap xs) (hB : B ≤ w.heap.size) :
    ∃ g' cap' w', (Builtin.append_ #[33, 33] ty #[.slice (some ⟨g, 0, none⟩) xs.length cap, .slice (some ⟨w.heap.size, 0, none⟩) 1 1]).run Tryd.prog (w.alloc (.cells #[.complex .f32 s.1 s.2] 56)) = .ok (.slice (some ⟨g', 0, none⟩) (xs.length + 1) cap') w' ∧
      OwnC B w' g' cap' (xs ++ [s]) ∧ Below B w w' ∧ ∀ k, k < w.heap.size → k ≠ g → w'.heap[k]? = w.heap[k]? := by
  obtain ⟨i, hi, hz, hs, hb⟩ := info_partsC
  have hbel : Below w.heap.size w (w.alloc (.cells #[.complex .f32 s.1 s.2] 56)) := (Below.refl _ _).alloc (Nat.le_refl _) _
  obtain ⟨v', w', hr, hown, hgr, hn⟩ := run_append_own (P := Tryd.prog) (w.alloc (.cells #[.complex .f32 s.1 s.2] 56)) B 33 ty 56 i (.complex .f32 0 0) 1 8 Tryd.underlying33 hi hz hs hb rfl (by decide)
    _ xs.length _ (ownC_below ho hbel) ⟨w.heap.size, 0, none⟩ 1 1 [.complex .f32 s.1 s.2] rfl (cell_one_new _ _ _) (fun u hu => by simp at hu; subst hu; rfl) (by simp only [maxLen]; omega) (by omega) (by simp; omega)
  have hne : v' ≠ .slice none 0 0 := fun h => by simpa using (hn.1 h).2
  have hg0 := ownC_ge ho
  rcases hown.2 with ⟨h0, _⟩ | ⟨g', cap', cur, rfl, hbg, hg, hnc, hcm, hcs, htake⟩
  · exact absurd h0 hne
  · refine ⟨g', cap', w', hr, ?_, ?_, ?_⟩
    · refine ⟨by simp [cv], .inr ⟨g', cap', cur, by simp, hbg, hg, by simpa using hnc, hcm, hcs, ?_⟩⟩
      simpa [cv] using htake
    · refine Below.grown ((Below.refl _ _).alloc hB _) hgr (by simp; omega) ?_
      intro k hk
      simp [Value.ownBlock] at hk
      omega
    · intro k hk hne
      rw [hgr.block k (by simp; omega) (by simp [Value.ownBlock]; exact hne)]
      exact hbel.block k hk
theorem mkC_nums : ∀ n : Fin 400, cConvBits .f64 (floatOfInt .f64 (n.val : Int)) 4607182418800017408 .f32 = some (mk32 n.val, 1065353216) := by decide +kernel
theorem mkC_conv (n : Nat) (h : n < 400) (w : World) : (convert 60 56 (.complex .f64 (floatOfInt .f64 (n : Int)) 4607182418800017408)).run Tryd.prog w = .ok (.complex .f32 (mk32 n) 1065353216) w :=
  run_convert_complex w 60 56 .f64 .f32 _ _ _ _ (by rw [Tryd.underlying60]; rfl) Tryd.underlying56 (mkC_nums ⟨n, h⟩)
theorem one_num : isN .f32 1065353216 = false := by decide +kernel
/-- the marksC k, k+1, .. -/
def marksC (k n : Nat) : List (Nat × Nat) := (List.range n).map fun i => (mk32 (k + i), 1065353216)
theorem marksC_len (k n : Nat) : (marksC k n).length = n := by simp [marksC]
theorem marksC_get (k n i : Nat) (h : i < (marksC k n).length) : (marksC k n)[i] = (mk32 (k + i), 1065353216) := by simp [marksC]
/-- the first j are marked. -/
def partC (xs : List (Nat × Nat)) (k j : Nat) : List (Nat × Nat) := (List.range xs.length).map fun i => if i < j then (mk32 (k + i), 1065353216) else xs.getD i (0, 0)
theorem partC_len (xs : List (Nat × Nat)) (k j : Nat) : (partC xs k j).length = xs.length := by simp [partC]
theorem partC_zero (xs : List (Nat × Nat)) (k : Nat) : partC xs k 0 = xs := by
  apply List.ext_getElem
  · simp [partC]
  · intro i h1 h2
    simp [partC, h2]
theorem partC_all (xs : List (Nat × Nat)) (k : Nat) : partC xs k xs.length = marksC k xs.length := by
  apply List.ext_getElem
  · simp [partC, marksC]
  · intro i h1 h2
    have h3 : i < xs.length := by simpa [partC] using h1
    simp [partC, marksC, h3]
theorem partC_set (xs : List (Nat × Nat)) (k j : Nat) : (cv (partC xs k j)).set j (.complex .f32 (mk32 (k + j)) 1065353216) = cv (partC xs k (j + 1)) := by
  apply List.ext_getElem
  · simp [partC, cv]
  · intro i h1 h2
    rw [List.getElem_set]
    by_cases hij : j = i
    · subst hij
      simp [partC, cv]
    · rw [if_neg hij]
      by_cases hlt : i < j
      · have : i < j + 1 := by omega
        simp [partC, cv, hlt, this]
      · have : ¬ i < j + 1 := by omega
        simp [partC, cv, hlt, this]
theorem ownC_set {B : Nat} {w : World} {g cap : Nat} {xs : List (Nat × Nat)} {k j : Nat} (h : OwnC B w g cap (partC xs k j)) : OwnC B (w.setCell ⟨g, j, none⟩ (.complex .f32 (mk32 (k + j)) 1065353216)) g cap (partC xs k (j + 1)) := by
  have h1 := (World.ownsRow.stored h j (.complex .f32 (mk32 (k + j)) 1065353216)).1
  rw [partC_set] at h1
  unfold OwnC
  rw [partC_len] at h1 ⊢
  exact h1
set_option maxHeartbeats 400000 in
theorem mark_anyC (B : Nat) (g cap k : Nat) (xs : List (Nat × Nat)) (hl : xs.length ≤ 300) (hk : k ≤ 50) (w : World) (ho : OwnC B w g cap xs) :
    Calls Tryd.prog 24 #[.slice (some ⟨g, 0, none⟩) xs.length cap, .int .i64 (k : Int)] w fun e w' => e = .returned (.int .i64 ((k + xs.length : Nat) : Int)) ∧ OwnC B w' g cap (marksC k xs.length) ∧ Below g w w' := by
  have HO := Lib.hid ho
  clear ho
  go_enter Tryd.func24, Tryd.ntmps24
  go_wp2
  go_loopw [1, 5] (fun n i wr => ∃ j : Nat, j ≤ xs.length ∧ n = .int .i64 ((k + j : Nat) : Int) ∧ i = .int .i64 j ∧ OwnC B wr g cap (partC xs k j) ∧ Below g w wr) (fun _ i _ => xs.length - (RowKit.intOf i).toNat)
  case atStart => exact ⟨0, Nat.zero_le _, rfl, rfl, by rw [partC_zero]; exact HO.out, Below.refl _ _⟩
  case round =>
    obtain ⟨j, hj, rfl, rfl, ho, hb⟩ := hrel
    have HB := Lib.hid hb
    clear hb
    by_cases hlt : j < xs.length
    · have hpl := partC_len xs k j
      have hcell := World.ownsRow.cellAt ho j (by rw [hpl]; omega)
      obtain ⟨u, hu⟩ : ∃ u, (cv (partC xs k j))[j]? = some (.complex .f32 u.1 u.2) := ⟨(partC xs k j)[j]'(by omega), by simp [cv, hpl, hlt]⟩
      have hcell2 := hcell.trans hu
      have hfz := World.ownsRow.frozenAt ho j
      have hmk := fun w => mkC_conv (k + j) (by omega) w
      rw [show (((k + j : Nat)) : Int) = (k : Int) + (j : Int) by omega] at hmk
      have HS := Lib.hid (ownC_set ho)
      clear ho hcell hu hpl
      go_wp2
      go_roundw
      case rel => exact ⟨j + 1, by omega, by go_num, by go_num, HS.out, HB.out.setCell (by exact Nat.le_refl _) _⟩
      case measure => simp [RowKit.intOf]; omega
    · obtain rfl : j = xs.length := by omega
      have HS := Lib.hid ho
      clear ho
      go_wp2
      go_ret
      exact ⟨rfl, by rw [← partC_all]; exact HS.out, HB.out⟩
set_option maxHeartbeats 400000 in
theorem held_anyC (a : Option Addr) (cap k n : Nat) (hl : n ≤ 300) (hk : k ≤ 50) (w : World) (hr : RowC w a (marksC k n)) :
    Calls Tryd.prog 25 #[.slice a n cap, .int .i64 (k : Int)] w fun e w' => e = .returned (.int .i64 ((k + n : Nat) : Int)) ∧ w' = w := by
  have hln := marksC_len k n
  rcases cells_ofC hr with h0 | ⟨b, off, rfl, hc⟩
  · obtain rfl : n = 0 := by rw [h0] at hln; exact hln.symm
    clear hr h0 hln
    go_enter Tryd.func25, Tryd.ntmps25
    go_wp2
    go_loopw [1, 5] (fun m i wr => m = .int .i64 (k : Int) ∧ i = .int .i64 0 ∧ wr = w) (fun _ _ _ => 0)
    case atStart => exact ⟨rfl, rfl, rfl⟩
    case round =>
      obtain ⟨rfl, rfl, rfl⟩ := hrel
      go_wp2
      go_ret
      exact ⟨rfl, rfl⟩
  · have H1 : Hid (∀ i (hi : i < n), w.cell? ⟨b, off + i, none⟩ = some (.complex .f32 (mk32 (k + i)) 1065353216)) := fun i hi => by
      rw [hc i (by omega), marksC_get]
    clear hc hr hln
    go_enter Tryd.func25, Tryd.ntmps25
    go_wp2
    go_loopw [1, 5] (fun m i wr => ∃ j : Nat, j ≤ n ∧ m = .int .i64 ((k + j : Nat) : Int) ∧ i = .int .i64 j ∧ wr = w) (fun _ i _ => n - (RowKit.intOf i).toNat)
    case atStart => exact ⟨0, Nat.zero_le _, rfl, rfl, rfl⟩
    case round =>
      obtain ⟨j, hj, rfl, rfl, rfl⟩ := hrel
      by_cases hlt : j < n
      · have h1 := H1.out j hlt
        have hmk := fun w => mkC_conv (k + j) (by omega) w
        rw [show (((k + j : Nat)) : Int) = (k : Int) + (j : Int) by omega] at hmk
        have hne := eql_num (mk32_num (k + j) (by omega))
        have hne1 := eql_num one_num
        go_wp2
        go_roundw
        case rel => exact ⟨j + 1, by omega, by go_num, by go_num, by simp⟩
        case measure => simp [RowKit.intOf]; omega
      · obtain rfl : j = n := by omega
        go_wp2
        go_ret
        exact ⟨rfl, by simp⟩
section
variable {P : Program} (w : World)
/-- complex64 to complex128. -/
@[go_sem] theorem run_widen_complex (src dst : TypeId) (a b : Nat) (hs : (P.underlying src).isSome = true) (hd : P.underlying dst = some (.complex .f64)) :
    (convert src dst (.complex .f32 a b)).run P w = .ok (.complex .f64 (widV a w) (widV b (w.drewN (widN a)))) ((w.drewN (widN a)).drewN (widN b)) := by
  obtain ⟨u, hs'⟩ := Option.isSome_iff_exists.1 hs
  have h1 := run_widen0 (P := P) w a
  have h2 := run_widen0 (P := P) (w.drewN (widN a)) b
  cases u <;> simp [convert, run_underlying hs', run_underlying hd, Conv.complexToComplex, h1, h2]
end
theorem sameC_ok (a b c d : Nat) (h1 : FEq .f64 a c) (h2 : FEq .f64 b d) (w : World) : Calls Tryd.prog 47 #[.complex .f64 a b, .complex .f64 c d] w (GivesB w true) := by
  have H1 := Lib.hid h1
  have H2 := Lib.hid h2
  clear h1 h2
  go_enter Tryd.func47, Tryd.ntmps47
  go_wp2_with (go_at_call 43; first | (refine (same_ok _ _ H1.out _).mono ?_; rintro e w' ⟨rfl, m1, rfl⟩; clear H1) | (refine (same_ok _ _ H2.out _).mono ?_; rintro e w' ⟨rfl, m2, rfl⟩))
  go_ret
  exact ⟨rfl, _, rfl⟩
set_option maxHeartbeats 1000000 in
set_option maxRecDepth 100000 in
theorem eqC_any (a b : Option Addr) (c d : Nat) (xs : List (Nat × Nat)) (hl : xs.length ≤ 1048576) (w : World) (ha : RowC w a xs) (hb : RowC w b xs) :
    Calls Tryd.prog 23 #[.slice a xs.length c, .slice b xs.length d] w (GivesB w true) := by
  match xs, ha, hb, hl with
  | [], _, _, _ =>
    go_enter Tryd.func23, Tryd.ntmps23
    go_wp2
    go_loopw [5] (fun i wr => i = .int .i64 0 ∧ wr = w) (fun _ _ => 0)
    case atStart => exact ⟨rfl, rfl⟩
    case round =>
      obtain ⟨rfl, rfl⟩ := hrel
      go_wp2
      go_ret
      exact ⟨rfl, 0, rfl⟩
  | x :: xs, ha, hb, hl =>
    obtain ⟨b1, o1, rfl, hc1⟩ := ha.at
    obtain ⟨b2, o2, rfl, hc2⟩ := hb.at
    generalize hys : x :: xs = ys at *
    clear hys ha hb
    have H1 := Lib.hid hc1
    have H2 := Lib.hid hc2
    clear hc1 hc2
    go_enter Tryd.func23, Tryd.ntmps23
    go_wp2
    go_loopw [5] (fun i wr => ∃ k n : Nat, k ≤ ys.length ∧ i = .int .i64 k ∧ wr = w.drewN n) (fun i _ => ys.length - (intOf i).toNat)
    case atStart => exact ⟨0, 0, Nat.zero_le _, rfl, rfl⟩
    case round =>
      obtain ⟨k, n, hk, rfl, rfl⟩ := hrel
      by_cases hlt : k < ys.length
      · have h1 := H1.out k hlt
        have h2 := H2.out k hlt
        go_wp2
        go_region_with (go_at_call 47; refine (sameC_ok _ _ _ _ (fsame _ _ _) (fsame _ _ _) _).mono ?_; rintro e w' ⟨rfl, m, rfl⟩)
        all_goals
          go_wp2
          go_roundw
          case rel => exact ⟨k + 1, _, by omega, by go_num, rfl⟩
          case measure => simp [intOf]; omega
      · go_wp2
        go_ret
        exact ⟨rfl, _, rfl⟩
end Go.Proofs.YtoafncjmjocaoaaDoor
