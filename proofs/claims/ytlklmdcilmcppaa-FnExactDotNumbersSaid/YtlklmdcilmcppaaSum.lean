/-
  Sums and sums of products, of the program and of the reference: both fold from left to right.
-/
import Derived.Test.YtlklmdcilmcppaaEqF
namespace Go.Proofs.Ytlklmdcilmcppaa
open Go Go.RowKit

/-- a number, the same as v, and a bool are handed back; nothing is written. -/
def GivesFP (w : World) (v : Nat) (b : Bool) (e : Ending) (w' : World) : Prop := ∃ r n, e = .returned (.tuple #[.float .f32 r, .bool b]) ∧ w' = w.drewN n ∧ FEq .f32 r v
def sumF (xs : List Nat) : Nat := xs.foldl (pa .add .f32) 0
theorem sumF_snoc (xs : List Nat) (k : Nat) (h : k < xs.length) : sumF (xs.take (k + 1)) = pa .add .f32 (sumF (xs.take k)) xs[k] := by
  unfold sumF
  rw [List.take_succ_eq_append_getElem h, List.foldl_append]
  rfl
def dotF (zs : List (Nat × Nat)) : Nat := zs.foldl (fun s p => pa .add .f32 s (pa .mul .f32 p.1 p.2)) 0
theorem dotF_snoc (xs ys : List Nat) (k : Nat) (h : k < xs.length) (h2 : k < ys.length) : dotF ((xs.zip ys).take (k + 1)) = pa .add .f32 (dotF ((xs.zip ys).take k)) (pa .mul .f32 xs[k] ys[k]) := by
  unfold dotF
  rw [List.take_succ_eq_append_getElem (by simp; omega), List.foldl_append]
  simp
theorem cells_of {w : World} {a : Option Addr} {xs : List Nat} (h : RowF w a xs) : xs = [] ∨ ∃ b off, a = some ⟨b, off, none⟩ ∧ ∀ i (hi : i < xs.length), w.cell? ⟨b, off + i, none⟩ = some (.float .f32 xs[i]) := by
  cases xs with
  | nil => exact .inl rfl
  | cons x xs => exact .inr h.at

theorem spec_l01Sum (a : Option Addr) (c : Nat) (xs : List Nat) (hl : xs.length ≤ 256) (w : World) (hr : RowF w a xs) :
    Calls Try.prog 15 #[.slice a xs.length c] w (GivesF .f32 w (sumF xs)) := by
  rcases cells_of hr with rfl | ⟨b, off, rfl, hc⟩
  · go_enter Try.func15, Try.ntmps15
    go_wp2
    go_loopw [3, 4] (fun s i wr => s = .float .f32 0 ∧ i = .int .i64 0 ∧ wr = w) (fun _ _ _ => 0)
    case atStart => exact ⟨rfl, rfl, rfl⟩
    case round =>
      obtain ⟨rfl, rfl, rfl⟩ := hrel
      go_wp2
      go_ret
      exact ⟨_, 0, rfl, rfl, FEq.refl _ _⟩
  · have H1 := Lib.hid hc
    clear hc hr
    go_enter Try.func15, Try.ntmps15
    go_wp2
    go_loopw [3, 4] (fun s i wr => ∃ k n r : Nat, k ≤ xs.length ∧ s = .float .f32 r ∧ i = .int .i64 k ∧ wr = w.drewN n ∧ FEq .f32 r (sumF (xs.take k))) (fun _ i _ => xs.length - (intOf i).toNat)
    case atStart => exact ⟨0, 0, 0, Nat.zero_le _, rfl, rfl, rfl, FEq.refl _ _⟩
    case round =>
      obtain ⟨k, n, r, hk, rfl, rfl, rfl, hf⟩ := hrel
      have HF := Lib.hid hf
      clear hf
      by_cases hlt : k < xs.length
      · have h1 := H1.out k hlt
        have HS := Lib.hid (sumF_snoc xs k hlt)
        go_wp2
        go_roundw
        case rel => exact ⟨k + 1, _, _, by omega, rfl, by go_num, rfl, by rw [HS.out]; exact ar_same _ _ HF.out (FEq.refl _ _)⟩
        case measure => simp [intOf]; omega
      · have hk' : k = xs.length := by omega
        have HK := Lib.hid hk'
        clear hk'
        go_wp2
        go_ret
        refine ⟨_, n, rfl, rfl, ?_⟩
        have h := HF.out
        rw [HK.out, List.take_length] at h
        exact h
theorem spec_SumNumbers (a : Option Addr) (c : Nat) (xs : List Nat) (hm : xs.length ≤ 1048576) (w : World) (hr : RowF w a xs) :
    Calls Try.prog 10 #[.slice a xs.length c] w (GivesFP w (if xs.length ≤ 256 then sumF xs else 0) (decide (xs.length ≤ 256))) := by
  by_cases hl : xs.length ≤ 256
  · rw [if_pos hl, decide_eq_true hl]
    have hd : (!decide ((xs.length : Int) ≤ 256)) = false := by simp; omega
    have HC := Lib.hid (fun w hr => spec_l01Sum a c xs hl w hr)
    have HR := Lib.hid hr
    clear hr
    go_enter Try.func10, Try.ntmps10
    go_wp2_with (first | (go_at_call 12; go_in) | (go_at_call 15; refine (HC.out _ HR.out).mono ?_; rintro e w' ⟨r, n, rfl, rfl, hf⟩; have HF := Lib.hid hf; clear hf))
    go_ret2
    exact ⟨_, _, rfl, rfl, HF.out⟩
  · rw [if_neg hl, decide_eq_false hl]
    have hd : (!decide ((xs.length : Int) ≤ 256)) = true := by simp; omega
    clear hr
    go_enter Try.func10, Try.ntmps10
    go_wp2_with (first | (go_at_call 12; go_in))
    go_ret2
    exact ⟨_, 0, rfl, rfl, FEq.refl _ _⟩
theorem impl_SumNumbers (a : Option Addr) (c : Nat) (xs : List Nat) (hm : xs.length ≤ 1048576) (w : World) (hr : RowF w a xs) :
    Calls Try.prog 11 #[.slice a xs.length c] w (GivesFP w (if xs.length ≤ 256 then sumF xs else 0) (decide (xs.length ≤ 256))) := by
  by_cases hl : xs.length ≤ 256
  · rw [if_pos hl, decide_eq_true hl]
    have hd : (!decide ((xs.length : Int) ≤ 256)) = false := by simp; omega
    rcases cells_of hr with rfl | ⟨b, off, rfl, hc⟩
    · go_enter Try.func11, Try.ntmps11
      go_wp2_with (first | (go_at_call 14; go_in))
      go_loopw [4, 12] (fun s i wr => s = .float .f32 0 ∧ i = .int .i64 0 ∧ wr = w) (fun _ _ _ => 0)
      case atStart => exact ⟨rfl, rfl, rfl⟩
      case round =>
        obtain ⟨rfl, rfl, rfl⟩ := hrel
        go_wp2
        go_ret2
        exact ⟨_, 0, rfl, rfl, FEq.refl _ _⟩
    · have H1 := Lib.hid hc
      clear hc hr
      go_enter Try.func11, Try.ntmps11
      go_wp2_with (first | (go_at_call 14; go_in))
      go_loopw [4, 12] (fun s i wr => ∃ k n r : Nat, k ≤ xs.length ∧ s = .float .f32 r ∧ i = .int .i64 k ∧ wr = w.drewN n ∧ FEq .f32 r (sumF (xs.take k))) (fun _ i _ => xs.length - (intOf i).toNat)
      case atStart => exact ⟨0, 0, 0, Nat.zero_le _, rfl, rfl, rfl, FEq.refl _ _⟩
      case round =>
        obtain ⟨k, n, r, hk, rfl, rfl, rfl, hf⟩ := hrel
        have HF := Lib.hid hf
        clear hf
        by_cases hlt : k < xs.length
        · have h1 := H1.out k hlt
          have HS := Lib.hid (sumF_snoc xs k hlt)
          go_wp2
          go_roundw
          case rel => exact ⟨k + 1, _, _, by omega, rfl, by go_num, rfl, by rw [HS.out]; exact ar_same _ _ HF.out (FEq.refl _ _)⟩
          case measure => simp [intOf]; omega
        · have hk' : k = xs.length := by omega
          have HK := Lib.hid hk'
          clear hk'
          go_wp2
          go_ret2
          refine ⟨_, n, rfl, rfl, ?_⟩
          have h := HF.out
          rw [HK.out, List.take_length] at h
          exact h
  · rw [if_neg hl, decide_eq_false hl]
    have hd : (!decide ((xs.length : Int) ≤ 256)) = true := by simp; omega
    clear hr
    go_enter Try.func11, Try.ntmps11
    go_wp2_with (first | (go_at_call 14; go_in))
    go_ret2
    exact ⟨_, 0, rfl, rfl, FEq.refl _ _⟩
end Go.Proofs.Ytlklmdcilmcppaa
