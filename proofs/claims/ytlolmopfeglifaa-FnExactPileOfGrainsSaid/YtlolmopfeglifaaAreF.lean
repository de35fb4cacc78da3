/-
  The walk of the program's areFinite, over a slice of 32-bit numbers: are all of them finite?
-/
import Derived.Test.YtlolmopfeglifaaFinF
import Derived.Handy
namespace Go.Proofs.Ytlolmopfeglifaa
open Go Go.RowKit

theorem notFinite (x : Nat) (w : World) : Calls Try.prog 25 #[.float .f32 x] w (GivesB w (!fin .f32 x)) := by
  go_enter Try.func25, Try.ntmps25
  go_wp2_with (go_at_call 26; refine (impl_IsFinite _ _).mono ?_; rintro e w' ⟨rfl, n, rfl⟩)
  go_ret
  exact ⟨rfl, _, rfl⟩
def GivesFirst (w : World) (xs : List Nat) (e : Ending) (w' : World) : Prop := ∃ (r : Int) (n : Nat), e = .returned (.int .i64 r) ∧ w' = w.drewN n ∧ decide (0 ≤ r) = !(xs.all (fin .f32))
theorem all_take_snoc (xs : List Nat) (k : Nat) (h : k < xs.length) : (xs.take (k + 1)).all (fin .f32) = ((xs.take k).all (fin .f32) && fin .f32 xs[k]) := by
  rw [List.take_succ_eq_append_getElem h, List.all_append]
  simp only [List.all_cons, List.all_nil, Bool.and_true]
theorem all_false (xs : List Nat) (k : Nat) (h : k < xs.length) (hf : fin .f32 xs[k] = false) : xs.all (fin .f32) = false := by
  rw [List.all_eq_false]
  exact ⟨xs[k], List.getElem_mem h, by rw [hf]; decide⟩
set_option maxHeartbeats 400000 in
theorem indexFunc_any (xs : List Nat) (b : Nat) (c : Nat) (w : World) (hl : xs.length ≤ 1000) (hcell : ∀ i (h : i < xs.length), w.cell? ⟨b, i, none⟩ = some (.float .f32 xs[i])) :
    Calls Try.prog 30 #[.slice (some ⟨b, 0, none⟩) xs.length c, .func (.func 25) #[] #[]] w (GivesFirst w xs) := by
  go_enter Try.func30, Try.ntmps30
  go_wp2
  go_loopw [8] (fun i wr => ∃ k n : Nat, k ≤ xs.length ∧ i = .int .i64 k ∧ wr = w.drewN n ∧ (xs.take k).all (fin .f32) = true) (fun i _ => xs.length - (intOf i).toNat)
  case atStart => exact ⟨0, 0, Nat.zero_le _, rfl, rfl, rfl⟩
  case round =>
    obtain ⟨k, n, hk, rfl, rfl, ha⟩ := hrel
    have HA := Lib.hid ha
    clear ha
    by_cases hlt : k < xs.length
    · have hc := hcell k hlt
      have hs := all_take_snoc xs k hlt
      cases hf : fin .f32 xs[k]
      · have HB := Lib.hid (all_false xs k hlt hf)
        have hf' : (!fin .f32 xs[k]) = true := by rw [hf]; rfl
        clear hcell hs hf
        go_wp2_with (go_at_call 25; refine (notFinite _ _).mono ?_; rintro e w' ⟨rfl, m, rfl⟩)
        go_ret
        exact ⟨k, _, rfl, rfl, by rw [HB.out]; simp⟩
      · rw [hf, HA.out] at hs
        have HS := Lib.hid hs
        have hf' : (!fin .f32 xs[k]) = false := by rw [hf]; rfl
        clear hcell hs hf
        go_wp2_with (go_at_call 25; refine (notFinite _ _).mono ?_; rintro e w' ⟨rfl, m, rfl⟩)
        go_roundw
        case rel => exact ⟨k + 1, _, by omega, by go_num, rfl, HS.out⟩
        case measure => simp [intOf]; omega
    · have hk' : k = xs.length := by omega
      have HK := Lib.hid hk'
      clear hcell hk'
      go_wp2
      go_ret
      refine ⟨-1, n, rfl, rfl, ?_⟩
      have h := HA.out
      rw [HK.out, List.take_length] at h
      rw [h]
      rfl
theorem containsFunc_any (xs : List Nat) (b : Nat) (c : Nat) (w : World) (hl : xs.length ≤ 1000) (hcell : ∀ i (h : i < xs.length), w.cell? ⟨b, i, none⟩ = some (.float .f32 xs[i])) :
    Calls Try.prog 24 #[.slice (some ⟨b, 0, none⟩) xs.length c, .func (.func 25) #[] #[]] w (GivesB w (!(xs.all (fin .f32)))) := by
  have HC := Lib.hid hcell
  clear hcell
  go_enter Try.func24, Try.ntmps24
  go_wp2_with (go_at_call 30; refine (indexFunc_any xs b c _ hl HC.out).mono ?_; rintro e w' ⟨r, m, rfl, rfl, hr⟩; have HR := Lib.hid hr; clear hr)
  go_ret
  exact ⟨ret_bool HR.out, _, rfl⟩
theorem areFinite_any (xs : List Nat) (b : Nat) (c : Nat) (w : World) (hl : xs.length ≤ 1000) (hcell : ∀ i (h : i < xs.length), w.cell? ⟨b, i, none⟩ = some (.float .f32 xs[i])) :
    Calls Try.prog 17 #[.slice (some ⟨b, 0, none⟩) xs.length c] w (GivesB w (xs.all (fin .f32))) := by
  have HC := Lib.hid hcell
  clear hcell
  go_enter Try.func17, Try.ntmps17
  go_wp2_with (go_at_call 24; refine (containsFunc_any xs b c _ hl HC.out).mono ?_; rintro e w' ⟨rfl, m, rfl⟩)
  go_ret
  exact ⟨rfl, _, rfl⟩
/-- the same of two and of three numbers in a new block. -/
theorem areFinite_two (x y : Nat) (t : TypeId) (n : Nat) (w : World) :
    Calls Try.prog 17 #[.slice (some ⟨w.heap.size, 0, none⟩) 2 2] ((w.alloc (.cells #[.float .f32 x, .float .f32 y] t)).drewN n) (GivesB ((w.alloc (.cells #[.float .f32 x, .float .f32 y] t)).drewN n) (fin .f32 x && fin .f32 y)) := by
  have h := areFinite_any [x, y] w.heap.size 2 ((w.alloc (.cells #[.float .f32 x, .float .f32 y] t)).drewN n) (by simp) (fun i h => by
    rw [World.cell?_drewN, World.cell?_alloc_new]
    match i, h with
    | 0, _ => rfl
    | 1, _ => rfl)
  have e : [x, y].all (fin .f32) = (fin .f32 x && fin .f32 y) := by simp [List.all_cons]
  rw [e] at h
  exact h
theorem areFinite_three (x y z : Nat) (t : TypeId) (n : Nat) (w : World) :
    Calls Try.prog 17 #[.slice (some ⟨w.heap.size, 0, none⟩) 3 3] ((w.alloc (.cells #[.float .f32 x, .float .f32 y, .float .f32 z] t)).drewN n) (GivesB ((w.alloc (.cells #[.float .f32 x, .float .f32 y, .float .f32 z] t)).drewN n) (fin .f32 x && (fin .f32 y && fin .f32 z))) := by
  have h := areFinite_any [x, y, z] w.heap.size 3 ((w.alloc (.cells #[.float .f32 x, .float .f32 y, .float .f32 z] t)).drewN n) (by simp) (fun i h => by
    rw [World.cell?_drewN, World.cell?_alloc_new]
    match i, h with
    | 0, _ => rfl
    | 1, _ => rfl
    | 2, _ => rfl)
  have e : [x, y, z].all (fin .f32) = (fin .f32 x && (fin .f32 y && fin .f32 z)) := by simp [List.all_cons]
  rw [e] at h
  exact h
end Go.Proofs.Ytlolmopfeglifaa
