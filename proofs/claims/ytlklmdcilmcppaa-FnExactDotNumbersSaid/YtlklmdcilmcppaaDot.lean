/-
  The sum of the products of two lists, of the program and of the reference.
-/
import Derived.Test.YtlklmdcilmcppaaSum
namespace Go.Proofs.Ytlklmdcilmcppaa
open Go Go.RowKit

theorem spec_l01Dot (a b : Option Addr) (c d : Nat) (xs ys : List Nat) (hl : xs.length ≤ 256) (he : xs.length = ys.length) (w : World) (hr : RowF w a xs) (hs : RowF w b ys) :
    Calls Try.prog 13 #[.slice a xs.length c, .slice b ys.length d] w (GivesF .f32 w (dotF (xs.zip ys))) := by
  rw [← he]
  rcases cells_of hr with rfl | ⟨b1, o1, rfl, hc⟩
  · go_enter Try.func13, Try.ntmps13
    go_wp2
    go_loopw [5, 6] (fun s i wr => s = .float .f32 0 ∧ i = .int .i64 0 ∧ wr = w) (fun _ _ _ => 0)
    case atStart => exact ⟨rfl, rfl, rfl⟩
    case round =>
      obtain ⟨rfl, rfl, rfl⟩ := hrel
      go_wp2
      go_ret
      exact ⟨_, 0, rfl, rfl, FEq.refl _ _⟩
  rcases cells_of hs with rfl | ⟨b2, o2, rfl, hd⟩
  · obtain rfl : xs = [] := List.eq_nil_of_length_eq_zero he
    go_enter Try.func13, Try.ntmps13
    go_wp2
    go_loopw [5, 6] (fun s i wr => s = .float .f32 0 ∧ i = .int .i64 0 ∧ wr = w) (fun _ _ _ => 0)
    case atStart => exact ⟨rfl, rfl, rfl⟩
    case round =>
      obtain ⟨rfl, rfl, rfl⟩ := hrel
      go_wp2
      go_ret
      exact ⟨_, 0, rfl, rfl, FEq.refl _ _⟩
  · have H1 := Lib.hid hc
    have H2 := Lib.hid hd
    have HE := Lib.hid he
    clear hc hr hd hs he
    go_enter Try.func13, Try.ntmps13
    go_wp2
    go_loopw [5, 6] (fun s i wr => ∃ k n r : Nat, k ≤ xs.length ∧ s = .float .f32 r ∧ i = .int .i64 k ∧ wr = w.drewN n ∧ FEq .f32 r (dotF ((xs.zip ys).take k))) (fun _ i _ => xs.length - (intOf i).toNat)
    case atStart => exact ⟨0, 0, 0, Nat.zero_le _, rfl, rfl, rfl, FEq.refl _ _⟩
    case round =>
      obtain ⟨k, n, r, hk, rfl, rfl, rfl, hf⟩ := hrel
      have HF := Lib.hid hf
      clear hf
      by_cases hlt : k < xs.length
      · have hlt2 : k < ys.length := by rw [← HE.out]; exact hlt
        have h1 := H1.out k hlt
        have h2 := H2.out k hlt2
        have HS := Lib.hid (dotF_snoc xs ys k hlt hlt2)
        go_wp2
        go_region_with (fail)
        all_goals
          go_wp2
          go_roundw
          case rel => exact ⟨k + 1, _, _, by omega, rfl, by go_num, rfl, by rw [HS.out]; exact ar_same _ _ HF.out (ar_same _ _ (FEq.refl _ _) (FEq.refl _ _))⟩
          case measure => simp [intOf]; omega
      · have hk' : k = xs.length := by omega
        have HK := Lib.hid hk'
        clear hk'
        go_wp2
        go_ret
        refine ⟨_, n, rfl, rfl, ?_⟩
        have h := HF.out
        rw [HK.out, List.take_of_length_le (by simp; omega)] at h
        exact h
/-- whether the two lists are served. -/
def okDot (xs ys : List Nat) : Bool := decide (xs.length ≤ 256) && decide (xs.length = ys.length)
theorem spec_DotNumbers (a b : Option Addr) (c d : Nat) (xs ys : List Nat) (hm : xs.length ≤ 1048576) (_ : ys.length ≤ 1048576) (w : World) (hr : RowF w a xs) (hs : RowF w b ys) :
    Calls Try.prog 5 #[.slice a xs.length c, .slice b ys.length d] w (GivesFP w (if okDot xs ys then dotF (xs.zip ys) else 0) (okDot xs ys)) := by
  by_cases hl : xs.length ≤ 256
  · by_cases he : xs.length = ys.length
    · have hok : okDot xs ys = true := by unfold okDot; simp [he]; omega
      rw [hok, if_pos rfl]
      have hd : (!decide ((xs.length : Int) ≤ 256)) = false := by simp; omega
      have hd2 : ((xs.length : Int) != (ys.length : Int)) = false := by simp; omega
      have HC := Lib.hid (fun w hr hs => spec_l01Dot a b c d xs ys hl he w hr hs)
      have HR := Lib.hid hr
      have HS := Lib.hid hs
      clear hr hs hok he
      go_enter Try.func5, Try.ntmps5
      go_wp2_with (first | (go_at_call 12; go_in) | (go_at_call 13; refine (HC.out _ HR.out HS.out).mono ?_; rintro e w' ⟨r, n, rfl, rfl, hf⟩; have HF := Lib.hid hf; clear hf))
      go_ret2
      exact ⟨_, _, rfl, rfl, HF.out⟩
    · have hok : okDot xs ys = false := by unfold okDot; simp [he]
      rw [hok, if_neg (by decide)]
      have hd : (!decide ((xs.length : Int) ≤ 256)) = false := by simp; omega
      have hd2 : ((xs.length : Int) != (ys.length : Int)) = true := by simp; omega
      clear hr hs hok he
      go_enter Try.func5, Try.ntmps5
      go_wp2_with (first | (go_at_call 12; go_in))
      go_ret2
      exact ⟨_, 0, rfl, rfl, FEq.refl _ _⟩
  · have hok : okDot xs ys = false := by unfold okDot; simp [hl]
    rw [hok, if_neg (by decide)]
    have hd : (!decide ((xs.length : Int) ≤ 256)) = true := by simp; omega
    clear hr hs hok
    go_enter Try.func5, Try.ntmps5
    go_wp2_with (first | (go_at_call 12; go_in))
    go_ret2
    exact ⟨_, 0, rfl, rfl, FEq.refl _ _⟩
theorem impl_DotNumbers (a b : Option Addr) (c d : Nat) (xs ys : List Nat) (hm : xs.length ≤ 1048576) (_ : ys.length ≤ 1048576) (w : World) (hr : RowF w a xs) (hs : RowF w b ys) :
    Calls Try.prog 7 #[.slice a xs.length c, .slice b ys.length d] w (GivesFP w (if okDot xs ys then dotF (xs.zip ys) else 0) (okDot xs ys)) := by
  by_cases hl : xs.length ≤ 256
  · by_cases he : xs.length = ys.length
    · have hok : okDot xs ys = true := by unfold okDot; simp [he]; omega
      rw [hok, if_pos rfl]
      have hd : (!decide ((xs.length : Int) ≤ 256)) = false := by simp; omega
      have hd2 : ((xs.length : Int) != (ys.length : Int)) = false := by simp; omega
      rcases cells_of hr with rfl | ⟨b1, o1, rfl, hc⟩
      · obtain rfl : ys = [] := List.eq_nil_of_length_eq_zero he.symm
        clear hr hs hok
        go_enter Try.func7, Try.ntmps7
        go_wp2_with (first | (go_at_call 14; go_in))
        go_loopw [6, 21] (fun s i wr => s = .float .f32 0 ∧ i = .int .i64 0 ∧ wr = w) (fun _ _ _ => 0)
        case atStart => exact ⟨rfl, rfl, rfl⟩
        case round =>
          obtain ⟨rfl, rfl, rfl⟩ := hrel
          go_wp2
          go_ret2
          exact ⟨_, 0, rfl, rfl, FEq.refl _ _⟩
      rcases cells_of hs with rfl | ⟨b2, o2, rfl, hd⟩
      · obtain rfl : xs = [] := List.eq_nil_of_length_eq_zero he
        clear hr hs hok hc
        go_enter Try.func7, Try.ntmps7
        go_wp2_with (first | (go_at_call 14; go_in))
        go_loopw [6, 21] (fun s i wr => s = .float .f32 0 ∧ i = .int .i64 0 ∧ wr = w) (fun _ _ _ => 0)
        case atStart => exact ⟨rfl, rfl, rfl⟩
        case round =>
          obtain ⟨rfl, rfl, rfl⟩ := hrel
          go_wp2
          go_ret2
          exact ⟨_, 0, rfl, rfl, FEq.refl _ _⟩
      have H1 := Lib.hid hc
      have H2 := Lib.hid hd
      have HE := Lib.hid he
      clear hc hr hd hs he hok
      go_enter Try.func7, Try.ntmps7
      go_wp2_with (first | (go_at_call 14; go_in))
      go_loopw [6, 21] (fun s i wr => ∃ k n r : Nat, k ≤ xs.length ∧ s = .float .f32 r ∧ i = .int .i64 k ∧ wr = w.drewN n ∧ FEq .f32 r (dotF ((xs.zip ys).take k))) (fun _ i _ => xs.length - (intOf i).toNat)
      case atStart => exact ⟨0, 0, 0, Nat.zero_le _, rfl, rfl, rfl, FEq.refl _ _⟩
      case round =>
        obtain ⟨k, n, r, hk, rfl, rfl, rfl, hf⟩ := hrel
        have HF := Lib.hid hf
        clear hf
        by_cases hlt : k < xs.length
        · have hlt2 : k < ys.length := by rw [← HE.out]; exact hlt
          have h1 := H1.out k hlt
          have h2 := H2.out k hlt2
          have HS := Lib.hid (dotF_snoc xs ys k hlt hlt2)
          go_wp2
          go_roundw
          case rel => exact ⟨k + 1, _, _, by omega, rfl, by go_num, rfl, by rw [HS.out]; exact ar_same _ _ HF.out (ar_same _ _ (FEq.refl _ _) (FEq.refl _ _))⟩
          case measure => simp [intOf]; omega
        · have hk' : k = xs.length := by omega
          have HK := Lib.hid hk'
          clear hk'
          go_wp2
          go_ret2
          refine ⟨_, n, rfl, rfl, ?_⟩
          have h := HF.out
          have h0 := HE.out
          rw [HK.out, List.take_of_length_le (by simp; omega)] at h
          exact h
    · have hok : okDot xs ys = false := by unfold okDot; simp [he]
      rw [hok, if_neg (by decide)]
      have hd : (!decide ((xs.length : Int) ≤ 256)) = false := by simp; omega
      have hd2 : ((xs.length : Int) != (ys.length : Int)) = true := by simp; omega
      clear hr hs hok he
      go_enter Try.func7, Try.ntmps7
      go_wp2_with (first | (go_at_call 14; go_in))
      go_ret2
      exact ⟨_, 0, rfl, rfl, FEq.refl _ _⟩
  · have hok : okDot xs ys = false := by unfold okDot; simp [hl]
    rw [hok, if_neg (by decide)]
    have hd : (!decide ((xs.length : Int) ≤ 256)) = true := by simp; omega
    clear hr hs hok
    go_enter Try.func7, Try.ntmps7
    go_wp2_with (first | (go_at_call 14; go_in))
    go_ret2
    exact ⟨_, 0, rfl, rfl, FEq.refl _ _⟩
end Go.Proofs.Ytlklmdcilmcppaa
