/-
  The laws' marks on grains of one's own.
-/
import Derived.Test.YtlolmopfeglifaaGrE
import Derived.Laws.ComplexArith
namespace Go.Proofs.Ytlolmopfeglifaa
open Go Go.RowKit

theorem mkC_nums : ∀ n : Fin 400, cConvBits .f64 (floatOfInt .f64 (n.val : Int)) 4607182418800017408 .f32 = some (floatOfInt .f32 (n.val : Int), 1065353216) := by decide +kernel
theorem mkC_conv (n : Int) (h0 : 0 ≤ n) (h : n < 400) (w : World) : (convert 50 38 (.complex .f64 (floatOfInt .f64 n) 4607182418800017408)).run Try.prog w = .ok (.complex .f32 (floatOfInt .f32 n) 1065353216) w := by
  obtain ⟨k, rfl⟩ : ∃ k : Nat, n = k := ⟨n.toNat, by omega⟩
  exact run_convert_complex w 50 38 .f64 .f32 _ _ _ _ (by rw [Try.underlying50]; rfl) Try.underlying38 (mkC_nums ⟨k, by omega⟩)
theorem mk32_nums : ∀ n : Fin 400, isN .f32 (floatOfInt .f32 (n.val : Int)) = false := by decide +kernel
theorem mk32_num (n : Int) (h0 : 0 ≤ n) (h : n < 400) : isN .f32 (floatOfInt .f32 n) = false := by
  obtain ⟨k, rfl⟩ : ∃ k : Nat, n = k := ⟨n.toNat, by omega⟩
  exact mk32_nums ⟨k, by omega⟩
theorem one_num : isN .f32 1065353216 = false := by decide +kernel
section
variable (P : Program) (w : World) (a : Addr) (m : Mode)
@[go_sem] theorem run_store_float (k : FloatKind) (b : Nat) : (store a (.float k b) m).run P w = stored P w a (.float k b) m := run_store P w a _ m rfl
@[go_sem] theorem run_store_complex (k : FloatKind) (b c : Nat) : (store a (.complex k b c) m).run P w = stored P w a (.complex k b c) m := run_store P w a _ m rfl
end
/-- grains' cells of our own. -/
def OwnX (B : Nat) (w : World) (g n cap : Nat) (xs : List Value) : Prop := w.ownsRow B 40 7 (.slice (some ⟨g, 0, none⟩) n cap) n xs
/-- a grain's marks, as the laws write them. -/
def mc (k : Int) : List Value := [.complex .f32 (floatOfInt .f32 k) 1065353216, .complex .f32 (floatOfInt .f32 (k + 1)) 1065353216, .float .f32 (floatOfInt .f32 (k + 1 + 1)), .float .f32 (floatOfInt .f32 (k + 1 + 1 + 1)), .float .f32 (floatOfInt .f32 (k + 1 + 1 + 1 + 1)), .float .f32 (floatOfInt .f32 (k + 1 + 1 + 1 + 1 + 1)), .bool ((k + 1 + 1 + 1 + 1 + 1 + 1) % 3 == 0)]
def mcs (k : Int) (n : Nat) : List Value := (List.range n).flatMap fun (i : Nat) => mc (k + 7 * (i : Int))
theorem mcs_succ (k : Int) (n : Nat) : mcs k (n + 1) = mcs k n ++ mc (k + 7 * (n : Int)) := by simp [mcs, List.range_succ]
theorem mcs_len (k : Int) (n : Nat) : (mcs k n).length = n * 7 := by
  induction n with
  | zero => rfl
  | succ n ih => rw [mcs_succ, List.length_append, ih]; show _ + 7 = _; omega
/-- seven cells set in a row. -/
theorem set7 (P T : List Value) (r0 r1 r2 r3 r4 r5 r6 a0 a1 a2 a3 a4 a5 a6 : Value) (p : Nat) (hp : P.length = p) :
    ((((((((P ++ (r0 :: r1 :: r2 :: r3 :: r4 :: r5 :: r6 :: T)).set p a0).set (p + 1) a1).set (p + 2) a2).set (p + 3) a3).set (p + 4) a4).set (p + 5) a5).set (p + 6) a6) = P ++ ([a0, a1, a2, a3, a4, a5, a6] ++ T) := by
  subst hp
  simp
theorem own7 {B g n cap : Nat} {w : World} (P T : List Value) (r0 r1 r2 r3 r4 r5 r6 a0 a1 a2 a3 a4 a5 a6 : Value) (p : Nat) (hp : P.length = p) (h : OwnX B w g n cap (P ++ (r0 :: r1 :: r2 :: r3 :: r4 :: r5 :: r6 :: T))) :
    OwnX B (((((((w.setCell ⟨g, p, none⟩ a0).setCell ⟨g, p + 1, none⟩ a1).setCell ⟨g, p + 2, none⟩ a2).setCell ⟨g, p + 3, none⟩ a3).setCell ⟨g, p + 4, none⟩ a4).setCell ⟨g, p + 5, none⟩ a5).setCell ⟨g, p + 6, none⟩ a6) g n cap (P ++ ([a0, a1, a2, a3, a4, a5, a6] ++ T)) := by
  have h1 := (World.ownsRow.stored (World.ownsRow.stored (World.ownsRow.stored (World.ownsRow.stored (World.ownsRow.stored (World.ownsRow.stored (World.ownsRow.stored h p a0).1 (p + 1) a1).1 (p + 2) a2).1 (p + 3) a3).1 (p + 4) a4).1 (p + 5) a5).1 (p + 6) a6).1
  rw [set7 P T r0 r1 r2 r3 r4 r5 r6 a0 a1 a2 a3 a4 a5 a6 p hp] at h1
  exact h1
theorem drop7 (ys : List Value) (j n : Nat) (h : ys.length = n * 7) (hj : j < n) : ∃ r0 r1 r2 r3 r4 r5 r6, ys.drop (j * 7) = r0 :: r1 :: r2 :: r3 :: r4 :: r5 :: r6 :: ys.drop ((j + 1) * 7) := by
  have e : ∀ i, i < 7 → j * 7 + i < ys.length := fun i hi => by rw [h]; omega
  refine ⟨ys[j * 7], ys[j * 7 + 1], ys[j * 7 + 2], ys[j * 7 + 3], ys[j * 7 + 4], ys[j * 7 + 5], ys[j * 7 + 6], ?_⟩
  rw [List.drop_eq_getElem_cons (show j * 7 < ys.length from e 0 (by decide)), List.drop_eq_getElem_cons (e 1 (by decide)), List.drop_eq_getElem_cons (e 2 (by decide)), List.drop_eq_getElem_cons (e 3 (by decide)), List.drop_eq_getElem_cons (e 4 (by decide)), List.drop_eq_getElem_cons (e 5 (by decide)), List.drop_eq_getElem_cons (e 6 (by decide))]
  rw [show j * 7 + 6 + 1 = (j + 1) * 7 by omega]
/-- nothing changes but the block g, and new blocks. -/
structure Only (g : Nat) (w w' : World) : Prop where
  os : w'.os = w.os
  tape : w'.tape = w.tape
  output : w'.output = w.output
  size : w.heap.size ≤ w'.heap.size
  block : ∀ k, k < w.heap.size → k ≠ g → w'.heap[k]? = w.heap[k]?
theorem Only.refl (g : Nat) (w : World) : Only g w w := ⟨rfl, rfl, rfl, Nat.le_refl _, fun _ _ _ => rfl⟩
theorem Only.trans {g : Nat} {a b c : World} (h : Only g a b) (k : Only g b c) : Only g a c := ⟨k.os.trans h.os, k.tape.trans h.tape, k.output.trans h.output, Nat.le_trans h.size k.size, fun i hi hne => (k.block i (Nat.lt_of_lt_of_le hi h.size) hne).trans (h.block i hi hne)⟩
theorem Only.of_below {g : Nat} {a b : World} (h : Below a.heap.size a b) : Only g a b := ⟨h.os, h.tape, h.output, h.size, fun i hi _ => h.block i hi⟩
theorem Only.below {g B : Nat} {a b : World} (h : Only g a b) (hB : B ≤ a.heap.size) (hg : B ≤ g) : Below B a b := ⟨h.os, h.tape, h.output, h.size, fun i hi => h.block i (by omega) (by omega)⟩
theorem Only.set {g j : Nat} {a b : World} (h : Only g a b) (u : Value) : Only g a (b.setCell ⟨g, j, none⟩ u) :=
  ⟨h.os, h.tape, h.output, by
    have : (b.setCell ⟨g, j, none⟩ u).heap.size = b.heap.size := by unfold World.setCell; simp
    rw [this]; exact h.size, fun i hi hne => (heap_set_other b g j i u hne).trans (h.block i hi hne)⟩
theorem HV.only {g : Nat} {w w' : World} {b : Nat} {v : Value} (h : HV w b v) (ho : Only g w w') (hne : b ≠ g) : HV w' b v := h.same (ho.block b h.lt hne)
theorem RowG.only {g : Nat} {w w' : World} {a : Option Addr} {r m : Nat} {ps : List (Nat × Nat)} (h : RowG w a r m ps) (ho : Only g w w') (hne : ∀ b, a = some ⟨b, 0, none⟩ → b ≠ g) : RowG w' a r m ps := fun i hi => by
  obtain ⟨b, hab, hg⟩ := h i hi
  refine ⟨b, hab, fun k hk => ?_⟩
  have h1 := hg k hk
  rw [← h1]
  have hlt : b < w.heap.size := World.block_lt_of_cell? _ _ (h1.trans (List.getElem?_eq_getElem (by rw [gc_len]; exact hk)))
  exact World.cell?_of_block (a := ⟨b, i * 7 + k, none⟩) (ho.block b hlt (hne b hab))
set_option maxHeartbeats 4000000 in
theorem mark_ok (B g n cap : Nat) (ys : List Value) (hn : n ≤ 24) (hy : ys.length = n * 7) (w : World) (ho : OwnX B w g n cap ys) :
    Calls Try.prog 20 #[.slice (some ⟨g, 0, none⟩) n cap, .int .i64 1] w fun e w' => e = .returned (.int .i64 (1 + 7 * (n : Int))) ∧ OwnX B w' g n cap (mcs 1 n) ∧ Only g w w' := by
  have HO := Lib.hid ho
  clear ho
  go_enter Try.func20, Try.ntmps20
  go_wp2
  go_loopw [1, 5] (fun m i wr => ∃ (j : Nat) (k : Int), j ≤ n ∧ m = .int .i64 k ∧ i = .int .i64 j ∧ Hid (k = 1 + 7 * (j : Int)) ∧ OwnX B wr g n cap (mcs 1 j ++ ys.drop (j * 7)) ∧ Only g w wr) (fun _ i _ => n - (RowKit.intOf i).toNat)
  case atStart => exact ⟨0, 1, Nat.zero_le _, rfl, rfl, rfl, by simpa [mcs] using HO.out, Only.refl _ _⟩
  case round =>
    obtain ⟨j, k, hj, rfl, rfl, hk, ho, hb⟩ := hrel
    have HB := Lib.hid hb
    clear hb
    by_cases hlt : j < n
    · obtain ⟨r0, r1, r2, r3, r4, r5, r6, hdr⟩ := drop7 ys j n hy hlt
      rw [hdr] at ho
      have hP : (mcs 1 j).length = j * 7 := mcs_len 1 j
      have hat : ∀ i (u : Value), i < 7 → [r0, r1, r2, r3, r4, r5, r6][i]? = some u → ‹World›.cell? ⟨g, j * 7 + i, none⟩ = some u := fun i u hi hu => by
        rw [World.ownsRow.cellAt ho (j * 7 + i) (by omega), List.getElem?_append_right (by omega), hP, show j * 7 + i - j * 7 = i by omega]
        rcases i with _ | _ | _ | _ | _ | _ | _ | i <;> first | exact hu | omega
      have hfz := World.ownsRow.frozenAt ho
      have c0 := hat 0 r0 (by decide) rfl
      have c1 := hat 1 r1 (by decide) rfl
      have c2 := hat 2 r2 (by decide) rfl
      have c3 := hat 3 r3 (by decide) rfl
      have c4 := hat 4 r4 (by decide) rfl
      have c5 := hat 5 r5 (by decide) rfl
      have c6 := hat 6 r6 (by decide) rfl
      rw [Nat.add_zero] at c0
      have k0 : 0 ≤ k := by have := hk.out; omega
      have k1 : k ≤ 300 := by have := hk.out; omega
      have hv0 := mkC_conv k (by omega) (by omega)
      have hv1 := mkC_conv (k + 1) (by omega) (by omega)
      have HOO := Lib.hid ho
      clear ho hat hdr hy
      go_wp2
      go_roundw
      case rel =>
        refine ⟨j + 1, _, by omega, rfl, by go_num, by have := hk.out; show _ = _; omega, ?_, ((((((HB.out.set _).set _).set _).set _).set _).set _).set _⟩
        rw [mcs_succ, ← hk.out, List.append_assoc]
        exact own7 _ _ r0 r1 r2 r3 r4 r5 r6 _ _ _ _ _ _ _ _ hP HOO.out
      case measure => simp [RowKit.intOf]; omega
    · obtain rfl : j = n := by omega
      have HOO := Lib.hid ho
      clear ho
      go_wp2
      go_ret
      refine ⟨by rw [← hk.out]; rfl, ?_, HB.out⟩
      have h := HOO.out
      rw [List.drop_of_length_le (by omega), List.append_nil] at h
      exact h
/-- n marked grains lie at a. -/
def RowM (w : World) (a : Option Addr) (n : Nat) : Prop := ∀ i, i < n → ∃ b, a = some ⟨b, 0, none⟩ ∧ ∀ c, c < 7 → w.cell? ⟨b, i * 7 + c, none⟩ = (mc (1 + 7 * (i : Int)))[c]?
theorem mcs_get (k : Int) (n i c : Nat) (hi : i < n) (hc : c < 7) : (mcs k n)[i * 7 + c]? = (mc (k + 7 * (i : Int)))[c]? := by
  induction n with
  | zero => omega
  | succ n ih =>
    rw [mcs_succ]
    by_cases h : i < n
    · rw [List.getElem?_append_left (by rw [mcs_len]; omega), ih h]
    · obtain rfl : i = n := by omega
      rw [List.getElem?_append_right (by rw [mcs_len]; omega), mcs_len, show i * 7 + c - i * 7 = c by omega]
theorem ownX_row {B g n cap : Nat} {w : World} (h : OwnX B w g n cap (mcs 1 n)) : RowM w (some ⟨g, 0, none⟩) n := fun i hi => ⟨g, rfl, fun c hc => by
  rw [World.ownsRow.cellAt h (i * 7 + c) (by omega), mcs_get 1 n i c hi hc]⟩
theorem RowM.below {w w' : World} {a : Option Addr} {n : Nat} (h : RowM w a n) (hb : Below w.heap.size w w') : RowM w' a n := fun i hi => by
  obtain ⟨b, hab, hc⟩ := h i hi
  refine ⟨b, hab, fun c hc7 => ?_⟩
  have h1 := hc c hc7
  rw [← h1]
  exact hb.cell (p := ⟨b, i * 7 + c, none⟩) (World.block_lt_of_cell? _ _ (h1.trans (List.getElem?_eq_getElem (by exact hc7))))
set_option maxHeartbeats 4000000 in
set_option maxRecDepth 100000 in
theorem held_ok (a : Option Addr) (n cap : Nat) (hn : n ≤ 24) (w : World) (hr : RowM w a n) :
    Calls Try.prog 21 #[.slice a n cap, .int .i64 1] w fun e w' => e = .returned (.int .i64 (1 + 7 * (n : Int))) ∧ w' = w := by
  have HR := Lib.hid hr
  clear hr
  go_enter Try.func21, Try.ntmps21
  go_wp2
  go_loopw [1, 5] (fun m i wr => ∃ (j : Nat) (k : Int), j ≤ n ∧ m = .int .i64 k ∧ i = .int .i64 j ∧ Hid (k = 1 + 7 * (j : Int)) ∧ wr = w) (fun _ i _ => n - (RowKit.intOf i).toNat)
  case atStart => exact ⟨0, 1, Nat.zero_le _, rfl, rfl, rfl, rfl⟩
  case round =>
    obtain ⟨j, k, hj, rfl, rfl, hk, rfl⟩ := hrel
    by_cases hlt : j < n
    · obtain ⟨b, rfl, hc⟩ := HR.out j hlt
      rw [← hk.out] at hc
      have c0 := (hc 0 (by decide)).trans (show (mc k)[0]? = some (.complex .f32 (floatOfInt .f32 k) 1065353216) from rfl)
      rw [Nat.add_zero] at c0
      have c1 := (hc 1 (by decide)).trans (show (mc k)[1]? = some (.complex .f32 (floatOfInt .f32 (k + 1)) 1065353216) from rfl)
      have c2 := (hc 2 (by decide)).trans (show (mc k)[2]? = some (.float .f32 (floatOfInt .f32 (k + 1 + 1))) from rfl)
      have c3 := (hc 3 (by decide)).trans (show (mc k)[3]? = some (.float .f32 (floatOfInt .f32 (k + 1 + 1 + 1))) from rfl)
      have c4 := (hc 4 (by decide)).trans (show (mc k)[4]? = some (.float .f32 (floatOfInt .f32 (k + 1 + 1 + 1 + 1))) from rfl)
      have c5 := (hc 5 (by decide)).trans (show (mc k)[5]? = some (.float .f32 (floatOfInt .f32 (k + 1 + 1 + 1 + 1 + 1))) from rfl)
      have c6 := (hc 6 (by decide)).trans (show (mc k)[6]? = some (.bool ((k + 1 + 1 + 1 + 1 + 1 + 1) % 3 == 0)) from rfl)
      have k0 : 0 ≤ k := by have := hk.out; omega
      have k1 : k ≤ 300 := by have := hk.out; omega
      have hv0 := mkC_conv k (by omega) (by omega)
      have hv1 := mkC_conv (k + 1) (by omega) (by omega)
      have n0 := eql_num (mk32_num k (by omega) (by omega))
      have n1 := eql_num (mk32_num (k + 1) (by omega) (by omega))
      have n2 := neq_num (mk32_num (k + 1 + 1) (by omega) (by omega))
      have n3 := neq_num (mk32_num (k + 1 + 1 + 1) (by omega) (by omega))
      have n4 := neq_num (mk32_num (k + 1 + 1 + 1 + 1) (by omega) (by omega))
      have n5 := neq_num (mk32_num (k + 1 + 1 + 1 + 1 + 1) (by omega) (by omega))
      have no := eql_num one_num
      clear hc
      go_wp2
      go_roundw
      case rel => exact ⟨j + 1, _, by omega, rfl, by go_num, by have := hk.out; show _ = _; omega, by simp⟩
      case measure => simp [RowKit.intOf]; omega
    · obtain rfl : j = n := by omega
      go_wp2
      go_ret
      exact ⟨by rw [← hk.out]; rfl, rfl⟩
theorem mark_nilG (w : World) : Calls Try.prog 20 #[.slice none 0 0, .int .i64 1] w fun e w' => e = .returned (.int .i64 1) ∧ w' = w := by
  go_enter Try.func20, Try.ntmps20
  go_wp2
  go_loopw [1, 5] (fun m i wr => m = .int .i64 1 ∧ i = .int .i64 0 ∧ wr = w) (fun _ _ _ => 0)
  case atStart => exact ⟨rfl, rfl, rfl⟩
  case round =>
    obtain ⟨rfl, rfl, rfl⟩ := hrel
    go_wp2
    go_ret
    exact ⟨rfl, rfl⟩
theorem markHeap_ok (B g n cap : Nat) (ys : List Value) (hn : n ≤ 24) (hy : ys.length = n * 7) (w : World) (ho : OwnX B w g n cap ys) :
    Calls Try.prog 8 #[.agg #[.slice (some ⟨g, 0, none⟩) n cap], .int .i64 1] w fun e w' => e = .returned (.int .i64 (1 + 7 * (n : Int))) ∧ RowM w' (some ⟨g, 0, none⟩) n ∧ Only g w w' := by
  have HM : Hid (∀ o, Calls Try.prog 20 #[.slice (some ⟨g, 0, none⟩) n cap, .int .i64 1] (w.alloc o) fun e w' => e = .returned (.int .i64 (1 + 7 * (n : Int))) ∧ OwnX B w' g n cap (mcs 1 n) ∧ Only g (w.alloc o) w') := fun o => mark_ok B g n cap ys hn hy (w.alloc o) (World.ownsRow.alloc ho o)
  clear ho hy
  go_enter Try.func8, Try.ntmps8
  go_wp2_with (go_at_call 20; (refine (HM.out _).mono ?_); rintro e w' ⟨rfl, ho, hb⟩; have HO := Lib.hid ho; have HB := Lib.hid ((Only.of_below ((Below.refl w.heap.size w).alloc (Nat.le_refl _) _)).trans hb); clear ho hb)
  go_ret
  exact ⟨rfl, ownX_row HO.out, HB.out⟩
theorem markHeap_nil (w : World) :
    Calls Try.prog 8 #[.agg #[.slice none 0 0], .int .i64 1] w fun e w' => e = .returned (.int .i64 1) ∧ Below w.heap.size w w' := by
  have HM := Lib.hid (fun w => mark_nilG w)
  have HB := Lib.hid (fun o => (Below.refl w.heap.size w).alloc (Nat.le_refl _) o)
  go_enter Try.func8, Try.ntmps8
  go_wp2_with (go_at_call 20; (refine (HM.out _).mono ?_); rintro e w' ⟨rfl, rfl⟩)
  go_ret
  exact ⟨rfl, HB.out _⟩
theorem heldHeap_ok (a : Option Addr) (n cap : Nat) (hn : n ≤ 24) (w : World) (hr : RowM w a n) :
    Calls Try.prog 9 #[.agg #[.slice a n cap], .int .i64 1] w fun e w' => e = .returned (.int .i64 (1 + 7 * (n : Int))) ∧ Below w.heap.size w w' := by
  have HB := Lib.hid (fun o => (Below.refl w.heap.size w).alloc (Nat.le_refl _) o)
  have HM : Hid (∀ o, Calls Try.prog 21 #[.slice a n cap, .int .i64 1] (w.alloc o) fun e w' => e = .returned (.int .i64 (1 + 7 * (n : Int))) ∧ w' = w.alloc o) := fun o => held_ok a n cap hn (w.alloc o) (hr.below (HB.out o))
  clear hr
  have hd : decide ((1 + 7 * (n : Int)) < 0) = false := by simp; omega
  go_enter Try.func9, Try.ntmps9
  go_wp2_with (go_at_call 21; (refine (HM.out _).mono ?_); rintro e w' ⟨rfl, rfl⟩)
  go_ret
  exact ⟨rfl, HB.out _⟩
end Go.Proofs.Ytlolmopfeglifaa
