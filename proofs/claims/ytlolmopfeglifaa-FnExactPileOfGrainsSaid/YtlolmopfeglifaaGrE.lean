/-
  The laws' comparison of grains, of rows and heaps of them.
-/
import Derived.Test.YtlolmopfeglifaaGrK
import Derived.Deep.RegionWith
namespace Go.Proofs.Ytlolmopfeglifaa
open Go Go.RowKit

section
variable {P : Program} (w : World)
/-- complex64 to complex128. -/
@[go_sem] theorem run_widen_complex (src dst : TypeId) (a b : Nat) (hs : (P.underlying src).isSome = true) (hd : P.underlying dst = some (.complex .f64)) :
    (convert src dst (.complex .f32 a b)).run P w = .ok (.complex .f64 (widV a w) (widV b (w.drewN (widN a)))) ((w.drewN (widN a)).drewN (widN b)) := by
  obtain ⟨u, hs'⟩ := Option.isSome_iff_exists.1 hs
  have h1 := run_widen0 (P := P) w a
  have h2 := run_widen0 (P := P) (w.drewN (widN a)) b
  cases u <;> simp [convert, run_underlying hs', run_underlying hd, Conv.complexToComplex, h1, h2]
end
theorem sameC_ok (a b c d : Nat) (h1 : FEq .f64 a c) (h2 : FEq .f64 b d) (w : World) : Calls Try.prog 34 #[.complex .f64 a b, .complex .f64 c d] w (GivesB w true) := by
  have H1 := Lib.hid h1
  have H2 := Lib.hid h2
  clear h1 h2
  go_enter Try.func34, Try.ntmps34
  go_wp2_with (go_at_call 35; first | (refine (same_ok _ _ H1.out _).mono ?_; rintro e w' ⟨rfl, m1, rfl⟩; clear H1) | (refine (same_ok _ _ H2.out _).mono ?_; rintro e w' ⟨rfl, m2, rfl⟩))
  go_ret
  exact ⟨rfl, _, rfl⟩
theorem wsame {x y : Nat} (h : FEq .f32 x y) (w1 w2 : World) : FEq .f64 (widV x w1) (widV y w2) := (widV_same w1 h).trans (widV_same w2 (FEq.refl _ _)).symm
set_option maxHeartbeats 4000000 in
theorem eqGrain_ok (x y x' y' r m : Nat) (hx : FEq .f32 x x') (hy : FEq .f32 y y') (w : World) :
    Calls Try.prog 28 #[.agg #[.complex .f32 x y, .complex .f32 0 0, .float .f32 r, .float .f32 m, .float .f32 0, .float .f32 0, .bool false], .agg #[.complex .f32 x' y', .complex .f32 0 0, .float .f32 r, .float .f32 m, .float .f32 0, .float .f32 0, .bool false]] w (GivesBb w true) := by
  have HX := Lib.hid hx
  have HY := Lib.hid hy
  have HB := Lib.hid (fun o => (Below.refl w.heap.size w).alloc (Nat.le_refl _) o)
  clear hx hy
  go_enter Try.func28, Try.ntmps28
  go_wp2_with (first
    | (go_at_call 34; first | ((with_reducible refine (sameC_ok _ _ _ _ (wsame HX.out _ _) (wsame HY.out _ _) _).mono ?_); rintro e w' ⟨rfl, m1, rfl⟩) | ((with_reducible refine (sameC_ok _ _ _ _ (wsame (FEq.refl _ _) _ _) (wsame (FEq.refl _ _) _ _) _).mono ?_); rintro e w' ⟨rfl, m2, rfl⟩))
    | (go_at_call 35; (with_reducible refine (same_ok _ _ (wsame (FEq.refl _ _) _ _) _).mono ?_); rintro e w' ⟨rfl, m3, rfl⟩))
  go_ret
  exact ⟨rfl, below_drewNG ((HB.out _).alloc (by simp) _) _⟩
set_option maxHeartbeats 4000000 in
theorem eqGrainS_ok (a b : Option Addr) (c d r m : Nat) (ps qs : List (Nat × Nat)) (hl : ps.length ≤ 1000) (hfe : FE2 ps qs) (w : World) (ha : RowG w a r m ps) (hb : RowG w b r m qs) :
    Calls Try.prog 19 #[.slice a ps.length c, .slice b qs.length d] w (GivesBb w true) := by
  have hle := hfe.1
  rw [← hle]
  have HA := Lib.hid ha
  have HBb := Lib.hid hb
  have HFE := Lib.hid hfe
  have HLE := Lib.hid hle
  clear ha hb hfe hle
  go_enter Try.func19, Try.ntmps19
  go_wp2
  go_loopw [5] (fun i wr => ∃ k : Nat, k ≤ ps.length ∧ i = .int .i64 k ∧ Below w.heap.size w wr) (fun i _ => ps.length - (RowKit.intOf i).toNat)
  case atStart => exact ⟨0, Nat.zero_le _, rfl, Below.refl _ _⟩
  case round =>
    obtain ⟨k, hk, rfl, hb⟩ := hrel
    have HB := Lib.hid hb
    clear hb
    by_cases hlt : k < ps.length
    · have hlt2 : k < qs.length := HLE.out ▸ hlt
      obtain ⟨b1, rfl, hg1⟩ := HA.out k hlt
      obtain ⟨b2, rfl, hg2⟩ := HBb.out k hlt2
      obtain ⟨c0, c1, c2, c3, c4, c5, c6⟩ := (hg1.below HB.out).sev
      obtain ⟨d0, d1, d2, d3, d4, d5, d6⟩ := (hg2.below HB.out).sev
      have HE := Lib.hid (HFE.out.2 k hlt hlt2)
      clear hg1 hg2
      generalize ps[k] = p at *
      generalize qs[k] = q at *
      obtain ⟨x, y⟩ := p
      obtain ⟨x', y'⟩ := q
      have HC := Lib.hid (eqGrain_ok x y x' y' r m HE.out.1 HE.out.2)
      go_wp2
      go_region_with (go_at_call 28; (with_reducible refine (HC.out _).mono ?_); rintro e w' ⟨rfl, hb2⟩; have HB2 := Lib.hid ((below_drewNG HB.out _).trans (hb2.mono HB.out.size)); clear hb2)
      all_goals
        clear hlt2
        go_wp2
        go_roundw
        case rel => exact ⟨k + 1, by omega, by go_num, HB2.out⟩
        case measure => simp [RowKit.intOf]; omega
    · go_wp2
      go_ret
      exact ⟨rfl, HB.out⟩
theorem eqHeap_ok (a b : Option Addr) (c d r m : Nat) (ps qs : List (Nat × Nat)) (hl : ps.length ≤ 1000) (hfe : FE2 ps qs) (w : World) (ha : RowG w a r m ps) (hb : RowG w b r m qs) :
    Calls Try.prog 7 #[.agg #[.slice a ps.length c], .agg #[.slice b qs.length d]] w (GivesBb w true) := by
  have HB := Lib.hid (fun o => (Below.refl w.heap.size w).alloc (Nat.le_refl _) o)
  have HE : Hid (∀ w', Below w.heap.size w w' → Calls Try.prog 19 #[.slice a ps.length c, .slice b qs.length d] w' (GivesBb w' true)) := fun w' h => eqGrainS_ok a b c d r m ps qs hl hfe w' (ha.below h) (hb.below h)
  clear ha hb hfe
  go_enter Try.func7, Try.ntmps7
  go_wp2_with (go_at_call 19; (refine (HE.out _ ?_).mono ?_); exact (HB.out _).alloc (by simp) _; rintro e w' ⟨rfl, hb⟩; have HB2 := Lib.hid (((HB.out _).alloc (by simp) _).trans (hb.mono ((HB.out _).alloc (by simp) _).size)); clear hb)
  go_ret
  exact ⟨rfl, HB2.out⟩
end Go.Proofs.Ytlolmopfeglifaa
