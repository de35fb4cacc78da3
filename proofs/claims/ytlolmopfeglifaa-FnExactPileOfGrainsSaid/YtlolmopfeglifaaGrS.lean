/-
  The reference's rows of grains, walked.
-/
import Derived.Test.YtlolmopfeglifaaGr
namespace Go.Proofs.Ytlolmopfeglifaa
open Go Go.RowKit

/-- a variable that holds a heap of grains. -/
def HV (w : World) (b : Nat) (v : Value) : Prop := w.heap[b]? = some (.cells #[v] 25)
theorem HV.cell {w : World} {b : Nat} {v : Value} (h : HV w b v) : w.cell? ⟨b, 0, none⟩ = some v := by
  rw [cell_of_row w b 0 _ _ (0, 0) h]; rfl
theorem HV.frozen {w : World} {b : Nat} {v : Value} (h : HV w b v) : w.frozen? ⟨b, 0, none⟩ = false := frozen_of_row w b 0 _ _ h
theorem HV.same {w w' : World} {b : Nat} {v : Value} (h : HV w b v) (hb : w'.heap[b]? = w.heap[b]?) : HV w' b v := hb.trans h
theorem HV.lt {w : World} {b : Nat} {v : Value} (h : HV w b v) : b < w.heap.size := (Array.getElem?_eq_some_iff.1 h).1
theorem HV.set {w : World} {b : Nat} {v : Value} (h : HV w b v) (u : Value) : HV (w.setCell ⟨b, 0, none⟩ u) b u := heap_setCell_same w b 0 _ _ u h
theorem HV.ne {w : World} {b B : Nat} {v u : Value} {r m : Nat} {ps : List (Nat × Nat)} (h : HV w b v) (ho : OwnG B w u r m ps) : u.ownBlock ≠ some b := by
  intro hu
  rcases ho.2 with ⟨rfl, _⟩ | ⟨g, cap, cur, rfl, _, hg, _⟩
  · simp [Value.ownBlock] at hu
  · simp [Value.ownBlock] at hu
    subst hu
    unfold HV at h
    rw [h] at hg
    simp at hg
theorem HV.new (w : World) (v : Value) : HV (w.alloc (.cells #[v] 25)) w.heap.size v := by
  show (w.heap.push _)[w.heap.size]? = _
  simp
theorem HV.new3 (w : World) (o o' : Obj) (v : Value) : HV (((w.alloc o).alloc o').alloc (.cells #[v] 25)) (w.heap.size + 1 + 1) v := by
  have h := HV.new ((w.alloc o).alloc o') v
  have e : ((w.alloc o).alloc o').heap.size = w.heap.size + 1 + 1 := by simp
  rwa [e] at h
theorem HV.alloc {w : World} {b : Nat} {v : Value} (h : HV w b v) (o : Obj) : HV (w.alloc o) b v := h.same (by
  show (w.heap.push o)[b]? = _
  rw [Array.getElem?_push, if_neg (by have := h.lt; omega)])
theorem ownG_mono {B B' : Nat} {w : World} {v : Value} {r m : Nat} {ps : List (Nat × Nat)} (h : OwnG B w v r m ps) (hb : B' ≤ B) : OwnG B' w v r m ps := ⟨h.1, h.2.imp id fun ⟨g, cap, cur, h1, h2, h3⟩ => ⟨g, cap, cur, h1, Nat.le_trans hb h2, h3⟩⟩
theorem heap_set_other (w : World) (b j k : Nat) (u : Value) (h : k ≠ b) : (w.setCell ⟨b, j, none⟩ u).heap[k]? = w.heap[k]? := by
  unfold World.setCell
  simp [Array.getElem?_modify, Ne.symm h]
theorem HV.other {w : World} {b c : Nat} {v : Value} (h : HV w b v) (hne : b ≠ c) (u : Value) : HV (w.setCell ⟨c, 0, none⟩ u) b v := h.same (heap_set_other w c 0 b u hne)
theorem ownG_set {B b : Nat} {w : World} {v : Value} {r m : Nat} {ps : List (Nat × Nat)} (h : OwnG B w v r m ps) (hne : v.ownBlock ≠ some b) (u : Value) : OwnG B (w.setCell ⟨b, 0, none⟩ u) v r m ps :=
  ownG_same h fun k hk _ => heap_set_other w b 0 k u (fun e => hne (by rw [hk, e]))
/-- an append, its outcome known to be there. -/
theorem wpList_append_ex {P : Program} {w : World} {ops : Array Oper} {rest : List Oper} {o : Oper} {a : Act} {Q : Exit → Act → World → Prop} {R : Value → World → Prop} (hgd : o.guard = none) (s x : Operand) (t : TypeId)
    (ho : o.op = .call { callee := .builtin .append, args := #[s, x], argTypes := #[t, t] }) {v1 v2 : Value} (hs : a.eval s = v1) (hx : a.eval x = v2)
    (hr : ∃ r w', (Builtin.append_ #[t, t] o.type #[v1, v2]).run P w = .ok r w' ∧ R r w') (h : ∀ r w', R r w' → wpList P ops Q rest (a.put o.dst r) w') : wpList P ops Q (o :: rest) a w := by
  obtain ⟨r, w', h1, h2⟩ := hr
  exact wpList_plain hgd fun _ hK => by
    unfold Oper.wp execOp
    simp only [ho, resolve, invoke, builtin, Sem.run_bind, Sem.run_pure, Result.andThen_ok, List.map_toArray, List.map_cons, List.map_nil, hs, hx, h1]
    exact hK _ _ (h _ _ h2)
theorem behindE (B N : Nat) (w : World) (v : Value) (r m : Nat) (ps : List (Nat × Nat)) (x y : Nat) (ty : TypeId) (hlen : ps.length ≤ 2000) (hN : N = w.heap.size) (ho : OwnG B w v r m ps) (hB : B ≤ w.heap.size) :
    ∃ v' w', (Builtin.append_ #[23, 23] ty #[v, .slice (some ⟨N, 0, none⟩) 1 1]).run Try.prog (w.alloc (.cells (gc r m x y).toArray 40)) = .ok v' w' ∧
      ((∃ g cap, v' = .slice (some ⟨g, 0, none⟩) (ps.length + 1) cap) ∧ OwnG B w' v' r m (ps ++ [(x, y)]) ∧ Below B w w' ∧ ∀ k, k < w.heap.size → v.ownBlock ≠ some k → w'.heap[k]? = w.heap[k]?) := by
  subst hN
  obtain ⟨g, cap, w', h1, h2, h3, h4⟩ := behindG B w v r m ps x y ty hlen ho hB
  exact ⟨_, w', h1, ⟨g, cap, rfl⟩, h2, h3, h4⟩
/-- the same places, but for not-a-numbers. -/
def FE2 (ps qs : List (Nat × Nat)) : Prop := ps.length = qs.length ∧ ∀ i (h : i < ps.length) (h' : i < qs.length), FEq .f32 ps[i].1 qs[i].1 ∧ FEq .f32 ps[i].2 qs[i].2
theorem FE2.nil : FE2 [] [] := ⟨rfl, fun i h => absurd h (by simp)⟩
theorem FE2.snoc {ps qs : List (Nat × Nat)} {p q : Nat × Nat} (h : FE2 ps qs) (h1 : FEq .f32 p.1 q.1) (h2 : FEq .f32 p.2 q.2) : FE2 (ps ++ [p]) (qs ++ [q]) := by
  refine ⟨by simp [h.1], fun i hi hi' => ?_⟩
  rw [List.getElem_append, List.getElem_append]
  by_cases hlt : i < ps.length
  · rw [dif_pos hlt, dif_pos (by rw [← h.1]; exact hlt)]
    exact h.2 i hlt (by rw [← h.1]; exact hlt)
  · rw [dif_neg hlt, dif_neg (by rw [← h.1]; exact hlt)]
    simp only [List.getElem_singleton]
    exact ⟨h1, h2⟩
/-- the places of a row. -/
def rowX (r gap k : Nat) : Nat := pa .mul .f32 (floatOfInt .f32 (k : Int)) (pa .add .f32 (pa .mul .f32 1073741824 r) gap)
def rowL (r gap n : Nat) : List (Nat × Nat) := (List.range n).map fun k => (rowX r gap k, 0)
theorem rowL_succ (r gap n : Nat) : rowL r gap (n + 1) = rowL r gap n ++ [(rowX r gap n, 0)] := by simp [rowL, List.range_succ]
theorem below_drewNG {B : Nat} {a w : World} (h : Below B a w) (n : Nat) : Below B a (w.drewN n) := ⟨h.os, h.tape, h.output, h.size, h.block⟩
/-- a row in memory of one's own, its places the same as qs. -/
def GivesG (w : World) (r m : Nat) (qs : List (Nat × Nat)) (e : Ending) (w' : World) : Prop := ∃ a n c ps, e = .returned (.agg #[.slice a n c]) ∧ FE2 ps qs ∧ OwnG w.heap.size w' (.slice a n c) r m ps ∧ Below w.heap.size w w'
set_option maxHeartbeats 1000000 in
theorem spec_l02Row (n : Nat) (hn : n ≤ 100) (r gap m : Nat) (w : World) :
    Calls Try.prog 15 #[.int .i64 n, .float .f32 r, .float .f32 gap, .float .f32 m] w (GivesG w r m (rowL r gap n)) := by
  have hg0 := buildG0
  have hg1 := buildG1
  have hh1 := buildH1
  have hgr := buildGr
  go_enter Try.func15, Try.ntmps15
  go_wp2
  go_loopw [10] (fun i wr => ∃ (k : Nat) (v : Value) (ps : List (Nat × Nat)), k ≤ n ∧ i = .int .i64 k ∧ FE2 ps (rowL r gap k) ∧ (∃ a l c, v = .slice a l c) ∧ OwnG w.heap.size wr v r m ps ∧ HV wr (w.heap.size + 1 + 1) v ∧ HV wr w.heap.size (.slice none 0 0) ∧ Below w.heap.size w wr) (fun i _ => n - (RowKit.intOf i).toNat)
  case atStart =>
    refine ⟨0, .slice (some ⟨w.heap.size + 1, 0, none⟩) 0 0, [], Nat.zero_le _, rfl, FE2.nil, ⟨_, _, _, rfl⟩, ?_, ?_, ?_, ?_⟩
    · have h := ownG_empty (w.alloc (.cells #[.slice none 0 0] 25)) r m
      have e : (w.alloc (.cells #[.slice none 0 0] 25)).heap.size = w.heap.size + 1 := by simp
      rw [e] at h
      exact World.ownsRow.alloc (ownG_mono h (Nat.le_succ _)) _
    · exact HV.new3 _ _ _ _
    · exact ((HV.new _ _).alloc _).alloc _
    · exact (((Below.refl _ _).alloc (Nat.le_refl _) _).alloc (by simp) _).alloc (by simp; omega) _
  case round =>
    obtain ⟨k, v, ps, hk, rfl, hfe, ⟨a, l, c, rfl⟩, ho, hv, hr, hb⟩ := hrel
    have HO := Lib.hid ho
    have HVV := Lib.hid hv
    have HR := Lib.hid hr
    have HB := Lib.hid hb
    have HF := Lib.hid hfe
    have hc := hv.cell
    have hcf := hv.frozen
    have hrc := hr.cell
    have hrf := hr.frozen
    clear ho hv hr hb hfe
    by_cases hlt : k < n
    · have hlen : ps.length ≤ 2000 := by rw [HF.out.1]; simp [rowL]; omega
      clear hc hcf hrc hrf
      have hc := HVV.out.cell
      go_wp2_with (first
        | (at_builtin
           refine wpList_append_ex rfl _ _ 23 rfl rfl rfl (behindE w.heap.size _ _ _ r m ps _ _ _ hlen ?_ ?_ ?_) ?_
           rfl
           exact HO.out
           exact HB.out.size
           rintro _ w3 ⟨⟨g, cap, rfl⟩, ho3, hb3, hk3⟩
           have hv3 : HV w3 (w.heap.size + 1 + 1) (.slice a l c) := HV.same HVV.out (hk3 _ HVV.out.lt (HVV.out.ne HO.out))
           have hr3 : HV w3 w.heap.size (.slice none 0 0) := HV.same HR.out (hk3 _ HR.out.lt (HR.out.ne HO.out))
           have hc3 := hv3.cell
           have hf3 := hv3.frozen
           have HV3 := Lib.hid hv3
           have HR3 := Lib.hid hr3
           have HO3 := Lib.hid ho3
           have HB3 := Lib.hid ((below_drewNG HB.out _).trans hb3)
           clear ho3 hb3 hk3 hv3 hr3))
      go_roundw
      case rel => exact ⟨k + 1, _, _, by omega, by go_num, by rw [rowL_succ]; exact HF.out.snoc (ar_same .mul _ (FEq.refl _ _) (ar_same .add _ (ar_same .mul _ (FEq.refl _ _) (FEq.refl _ _)) (FEq.refl _ _))) (FEq.refl _ _), ⟨_, _, _, rfl⟩, ownG_set HO3.out (HV3.out.ne HO3.out) _, (HV3.out.set _), HR3.out.other (by omega) _, HB3.out.setCell (Nat.le_add_right _ 2) _⟩
      case measure => simp [RowKit.intOf]; omega
    · obtain rfl : k = n := by omega
      go_wp2
      have hce := (HR.out.set (.slice a l c)).cell
      refine bodyPost_ret (v := .agg #[.slice a l c]) (by simp [results, Try.results15, go_sem, hce]) rfl ⟨_, _, _, ps, rfl, HF.out, ownG_set HO.out (HR.out.ne HO.out) _, HB.out.setCell (Nat.le_refl _) _⟩
end Go.Proofs.Ytlolmopfeglifaa
