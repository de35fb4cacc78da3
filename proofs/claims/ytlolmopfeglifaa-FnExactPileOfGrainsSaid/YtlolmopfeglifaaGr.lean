/-
  Grains of one's own: seven cells each; the append of one more.
-/
import Derived.Test.YtlolmopfeglifaaSame
import Derived.Below
import Derived.Handy
import Derived.Great.BuildSlice
import Derived.Laws.MakeOwn
import Derived.WalkSpells
import Derived.Lib.Hide
namespace Go.Proofs.Ytlolmopfeglifaa
open Go Go.RowKit

/-- a grain's cells, of its place, radius and mass. -/
def gc (r m x y : Nat) : List Value := [.complex .f32 x y, .complex .f32 0 0, .float .f32 r, .float .f32 m, .float .f32 0, .float .f32 0, .bool false]
def gl (r m : Nat) (ps : List (Nat × Nat)) : List Value := ps.flatMap fun p => gc r m p.1 p.2
theorem gc_len (r m x y : Nat) : (gc r m x y).length = 7 := rfl
theorem gl_len (r m : Nat) (ps : List (Nat × Nat)) : (gl r m ps).length = ps.length * 7 := by
  induction ps with
  | nil => rfl
  | cons p ps ih =>
    show (gc r m p.1 p.2 ++ gl r m ps).length = _
    rw [List.length_append, ih, gc_len, List.length_cons]
    omega
theorem gl_snoc (r m : Nat) (ps : List (Nat × Nat)) (p : Nat × Nat) : gl r m (ps ++ [p]) = gl r m ps ++ gc r m p.1 p.2 := by simp [gl]
theorem gl_get (r m : Nat) (ps : List (Nat × Nat)) (i : Nat) (h : i < ps.length) (k : Nat) (hk : k < 7) : (gl r m ps)[i * 7 + k]? = (gc r m ps[i].1 ps[i].2)[k]? := by
  induction ps generalizing i with
  | nil => simp at h
  | cons p ps ih =>
    show (gc r m p.1 p.2 ++ gl r m ps)[i * 7 + k]? = _
    cases i with
    | zero => rw [List.getElem?_append_left (by rw [gc_len]; omega)]; simp
    | succ i =>
      rw [List.getElem?_append_right (by rw [gc_len]; omega), gc_len]
      have := ih i (by simpa using h)
      rw [show (i + 1) * 7 + k - 7 = i * 7 + k by omega, this]
      simp
theorem infoG : (Try.prog.info? 40).map (fun i => (i.zero, i.size, i.bytes)) = some (some (.agg (gc 0 0 0 0).toArray), 7, 36) := by kernel_rfl
theorem info_partsG : ∃ i, Try.prog.info? 40 = some i ∧ i.zero = some (.agg (gc 0 0 0 0).toArray) ∧ i.size = 7 ∧ i.bytes = 36 := by
  have h := infoG
  cases hi : Try.prog.info? 40 with
  | none => rw [hi] at h; cases h
  | some i =>
    rw [hi] at h
    simp only [Option.map_some, Option.some.injEq, Prod.mk.injEq] at h
    exact ⟨i, rfl, h.1, h.2.1, h.2.2⟩
theorem buildH0 (w : World) : (Instr.build 25 #[]).run Try.prog w = .ok (.agg #[.slice none 0 0]) w := run_build w _ _ _ (by kernel_rfl)
theorem buildH1 (a : Option Addr) (n c : Nat) (w : World) : (Instr.build 25 #[(0, .slice a n c)]).run Try.prog w = .ok (.agg #[.slice a n c]) w := run_build w _ _ _ (by kernel_rfl)
theorem buildGr (x y r m : Nat) (w : World) : (Instr.build 40 #[(0, .complex .f32 x y), (2, .float .f32 r), (3, .float .f32 m)]).run Try.prog w = .ok (.agg (gc r m x y).toArray) w := run_build w _ _ _ (by kernel_rfl)
theorem buildG0 (w : World) : (Instr.buildSlice 23 0 #[]).run Try.prog w = .ok (.slice (some ⟨w.heap.size, 0, none⟩) 0 0) (w.alloc (.cells #[] 40)) := by
  obtain ⟨i, hi, hz, hs, hb⟩ := info_partsG
  simp [Instr.buildSlice, run_underlying Try.underlying23, sizeOf, typeInfo, hi, newRow, Instr.fill]
  rw [show Array.range 0 = #[] by decide]
  simp
theorem buildG1 (x y r m : Nat) (w : World) : (Instr.buildSlice 23 1 #[(0, .agg (gc r m x y).toArray)]).run Try.prog w = .ok (.slice (some ⟨w.heap.size, 0, none⟩) 1 1) (w.alloc (.cells (gc r m x y).toArray 40)) := by
  obtain ⟨i, hi, hz, hs, hb⟩ := info_partsG
  refine run_buildSlice w 23 40 1 #[(0, .agg (gc r m x y).toArray)] _ i _ Try.underlying23 hi hz (by rw [hs]; decide) (by rw [hs]; decide) ?_
  rw [hs]
  have h1 : Array.range 7 = #[0, 1, 2, 3, 4, 5, 6] := by decide
  simp only [Nat.one_mul, h1]
  simp [Instr.fill, Value.cells, gc]
/-- grains of our own, from block B on (v: nil, or a row in a block). -/
def OwnG (B : Nat) (w : World) (v : Value) (r m : Nat) (ps : List (Nat × Nat)) : Prop := w.ownsRow B 40 7 v ps.length (gl r m ps)
theorem ownG_empty (w : World) (r m : Nat) : OwnG w.heap.size (w.alloc (.cells #[] 40)) (.slice (some ⟨w.heap.size, 0, none⟩) 0 0) r m [] := World.ownsRow_lit w #[] 0 (Nat.le_refl _) (by decide) (by simp)
theorem ownG_nil (B : Nat) (w : World) (r m : Nat) : OwnG B w (.slice none 0 0) r m [] := ⟨rfl, .inl ⟨rfl, rfl⟩⟩
theorem ownG_same {B : Nat} {w w' : World} {v : Value} {r m : Nat} {ps : List (Nat × Nat)} (h : OwnG B w v r m ps) (hb : ∀ k, v.ownBlock = some k → k < w.heap.size → w'.heap[k]? = w.heap[k]?) : OwnG B w' v r m ps := by
  refine ⟨h.1, ?_⟩
  rcases h.2 with h0 | ⟨g', cap', cur, rfl, h2, h3, h4⟩
  · exact .inl h0
  · refine .inr ⟨g', cap', cur, rfl, h2, ?_, h4⟩
    have hlt : g' < w.heap.size := by
      rcases Nat.lt_or_ge g' w.heap.size with h' | h'
      · exact h'
      · rw [Array.getElem?_eq_none h'] at h3; cases h3
    rw [hb g' (by simp [Value.ownBlock]) hlt, h3]
theorem ownG_below {B : Nat} {w w' : World} {v : Value} {r m : Nat} {ps : List (Nat × Nat)} (h : OwnG B w v r m ps) (hb : Below w.heap.size w w') : OwnG B w' v r m ps := ownG_same h fun k _ hk => hb.block k hk
theorem ownG_block {B : Nat} {w : World} {v : Value} {r m : Nat} {ps : List (Nat × Nat)} (h : OwnG B w v r m ps) : ∀ k, v.ownBlock = some k → B ≤ k ∧ k < w.heap.size := World.ownsRow.lt h
/-- one more grain behind those. -/
theorem behindG (B : Nat) (w : World) (v : Value) (r m : Nat) (ps : List (Nat × Nat)) (x y : Nat) (ty : TypeId) (hlen : ps.length ≤ 2000) (ho : OwnG B w v r m ps) (hB : B ≤ w.heap.size) :
    ∃ g cap w', (Builtin.append_ #[23, 23] ty #[v, .slice (some ⟨w.heap.size, 0, none⟩) 1 1]).run Try.prog (w.alloc (.cells (gc r m x y).toArray 40)) = .ok (.slice (some ⟨g, 0, none⟩) (ps.length + 1) cap) w' ∧
      OwnG B w' (.slice (some ⟨g, 0, none⟩) (ps.length + 1) cap) r m (ps ++ [(x, y)]) ∧ Below B w w' ∧ ∀ k, k < w.heap.size → v.ownBlock ≠ some k → w'.heap[k]? = w.heap[k]? := by
  obtain ⟨i, hi, hz, hs, hb⟩ := info_partsG
  have hbel : Below w.heap.size w (w.alloc (.cells (gc r m x y).toArray 40)) := (Below.refl _ _).alloc (Nat.le_refl _) _
  have hnews : ∀ j u, (gc r m x y)[j]? = some u → (w.alloc (.cells (gc r m x y).toArray 40)).cell? ((⟨w.heap.size, 0, none⟩ : Addr).add j) = some u := by
    intro j u hj
    rw [show ((⟨w.heap.size, 0, none⟩ : Addr).add j) = ⟨w.heap.size, j, none⟩ by unfold Addr.add; split <;> simp_all]
    rw [World.cell?_alloc_new]
    simpa using hj
  obtain ⟨v', w', hr, hown, hgr, hn⟩ := run_append_own (P := Try.prog) (w.alloc (.cells (gc r m x y).toArray 40)) B 23 ty 40 i (.agg (gc 0 0 0 0).toArray) 7 36 Try.underlying23 hi hz hs hb rfl (by decide)
    v ps.length _ (ownG_below ho hbel) ⟨w.heap.size, 0, none⟩ 1 1 (gc r m x y) rfl hnews (fun u hu => by simp [gc] at hu; rcases hu with rfl | rfl | rfl | rfl | rfl | rfl <;> rfl) (by simp only [maxLen]; omega) (by omega) (by simp; omega)
  have hne : v' ≠ .slice none 0 0 := fun h => by simpa using (hn.1 h).2
  have hg0 := ownG_block ho
  rcases hown.2 with ⟨h0, _⟩ | ⟨g', cap', cur, rfl, hbg, hg, hnc, hcm, hcs, htake⟩
  · exact absurd h0 hne
  · refine ⟨g', cap', w', hr, ?_, ?_, ?_⟩
    · refine ⟨by rw [gl_len], .inr ⟨g', cap', cur, by simp, hbg, hg, by simpa using hnc, hcm, hcs, ?_⟩⟩
      rw [gl_snoc]
      simpa using htake
    · refine Below.grown ((Below.refl _ _).alloc hB _) hgr (by simp; omega) ?_
      intro k hk
      exact (hg0 k hk).1
    · intro k hk hne
      rw [hgr.block k (by simp; omega) (fun h => hne h.symm)]
      exact hbel.block k hk
end Go.Proofs.Ytlolmopfeglifaa
