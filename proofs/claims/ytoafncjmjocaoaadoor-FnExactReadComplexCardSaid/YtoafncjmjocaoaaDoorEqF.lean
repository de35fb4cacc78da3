/-
  The laws' comparison of two slices of 32-bit numbers answers true where both hold the same ones.
-/
import Derived.Test.YtoafncjmjocaoaaDoorVec
import Derived.Deep.RegionWith
namespace Go.Proofs.YtoafncjmjocaoaaDoor
open Go Go.RowKit

theorem fsame (x : Nat) (w1 w2 : World) : FEq .f64 (widV x w1) (widV x w2) := (widV_same w1 (FEq.refl _ _)).trans (widV_same w2 (FEq.refl _ _)).symm
set_option maxHeartbeats 1000000 in
theorem eqF_any (a b : Option Addr) (c d : Nat) (xs : List Nat) (hl : xs.length ≤ 1048576) (w : World) (ha : RowF w a xs) (hb : RowF w b xs) :
    Calls Tryd.prog 18 #[.slice a xs.length c, .slice b xs.length d] w (GivesB w true) := by
  match xs, ha, hb, hl with
  | [], _, _, _ =>
    go_enter Tryd.func18, Tryd.ntmps18
    go_wp2
    go_loopw [5] (fun i wr => i = .int .i64 0 ∧ wr = w) (fun _ _ => 0)
    case atStart => exact ⟨rfl, rfl⟩
    case round =>
      obtain ⟨rfl, rfl⟩ := hrel
      go_wp2
      go_ret
      exact ⟨rfl, 0, rfl⟩
  | x :: xs, ha, hb, hl =>
    obtain ⟨b1, o1, rfl, hc1⟩ := ha.at
    obtain ⟨b2, o2, rfl, hc2⟩ := hb.at
    generalize hys : x :: xs = ys at *
    clear hys ha hb
    have H1 := Lib.hid hc1
    have H2 := Lib.hid hc2
    clear hc1 hc2
    go_enter Tryd.func18, Tryd.ntmps18
    go_wp2
    go_loopw [5] (fun i wr => ∃ k n : Nat, k ≤ ys.length ∧ i = .int .i64 k ∧ wr = w.drewN n) (fun i _ => ys.length - (intOf i).toNat)
    case atStart => exact ⟨0, 0, Nat.zero_le _, rfl, rfl⟩
    case round =>
      obtain ⟨k, n, hk, rfl, rfl⟩ := hrel
      by_cases hlt : k < ys.length
      · have h1 := H1.out k hlt
        have h2 := H2.out k hlt
        go_wp2
        go_region_with (go_at_call 43; refine (same_ok _ _ (fsame _ _ _) _).mono ?_; rintro e w' ⟨rfl, m, rfl⟩)
        all_goals
          go_wp2
          go_roundw
          case rel => exact ⟨k + 1, _, by omega, by go_num, rfl⟩
          case measure => simp [intOf]; omega
      · go_wp2
        go_ret
        exact ⟨rfl, _, rfl⟩
end Go.Proofs.YtoafncjmjocaoaaDoor
