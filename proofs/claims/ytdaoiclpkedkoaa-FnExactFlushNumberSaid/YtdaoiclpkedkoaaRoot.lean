/-
  The walks of RootNumber (program and reference) and of its law.
-/
import Derived.Test.YtdaoiclpkedkoaaChecked
import Derived.Test.YtdaoiclpkedkoaaSame
import Derived.Test.YtdaoiclpkedkoaaArith
import Derived.Laws.Externs
namespace Go.Proofs.Ytdaoiclpkedkoaa
open Go Go.RowKit Ieee

/-- the square root as the model gives it. -/
def sqV (x : Nat) (w : World) : Nat :=
  match FloatKind.f64.format.sqrt x with
  | some r => r
  | none => ask (.nanBits .f64 x x) w
def sqN (x : Nat) : Nat :=
  match FloatKind.f64.format.sqrt x with
  | some _ => 0
  | none => 1
def sq (x : Nat) : Nat := (FloatKind.f64.format.sqrt x).getD (qn .f64)
theorem sqrt_nan {x : Nat} (h : isN .f64 x = true) : FloatKind.f64.format.sqrt x = none := by
  obtain ⟨s, t, h⟩ := nan_read h
  simp [Format.sqrt, h, Datum.root]
theorem sqV_same {x x' : Nat} (w : World) (h : FEq .f64 x x') : FEq .f64 (sqV x w) (sq x') := by
  by_cases hn : isN .f64 x = true
  · unfold sqV sq
    rw [sqrt_nan hn, sqrt_nan (h.nan ▸ hn)]
    exact FEq.of_nan (nan_ask _ _ _ _) (nan_qn _)
  · obtain rfl := h.eq (by simpa using hn)
    unfold sqV sq
    cases FloatKind.f64.format.sqrt x with
    | some r => exact FEq.refl _ _
    | none => exact FEq.of_nan (nan_ask _ _ _ _) (nan_qn _)
theorem Sqrt64 (x : Nat) (w : World) : (callFunc 48 #[.float .f64 x]).run Try.prog w = .ok (.value (.float .f64 (sqV x w))) (w.drewN (sqN x)) := by
  rw [run_callFunc_extern Try.func48 (by kernel_rfl) (by kernel_rfl) (by kernel_rfl) (e := Extern.MathSqrt.sqrt) (by kernel_rfl)]
  have e : Extern.MathSqrt.sqrt #[.float .f64 x] = (match FloatKind.f64.format.sqrt x with | some r => pure (.float .f64 r) | none => do pure (.float .f64 (← choose (.nanBits .f64 x x)))) := rfl
  rw [e]
  unfold sqV sqN
  cases FloatKind.f64.format.sqrt x <;> simp [ask, Question.forced, World.drew_is_drewN, World.drewN_zero]

/-- a number not too great for float32. -/
theorem ovf_fin {x : Nat} (h : fin .f64 x = true) (h1 : -p2 127 ≤ val .f64 x) (h2 : val .f64 x ≤ p2 127) : ovf x = false := by
  obtain ⟨s, m, e, hd, hv, _⟩ := fin_form h
  rw [hv] at h1 h2
  have hr := encode_rnd .f32 s m e (p2 127) (rep_p2 .f32 127 (by decide)) (sv_le (mv_nonneg _ _) h1 h2) (by
    rw [top32]
    have h4 : p2 128 = p2 127 * 2 := by rw [← p2_one, ← p2_add]; rfl
    have h5 := p2_pos 127
    grind)
  unfold ovf
  rw [hd]
  have hf := hr.1
  unfold fin at hf
  revert hf
  dsimp only
  generalize FloatKind.f32.decode (FloatKind.f32.encode (.number s m e)) = d
  cases d <;> intro hf <;> first | rfl | cases hf

theorem p2_128 : top .f32 = p2 (2 * 64) := rfl
theorem ovf_root (x : Nat) : ovf (sq (wid x)) = false := by
  cases hd : FloatKind.f32.decode x with
  | nan s t =>
    have e : wid x = qn .f64 := by unfold wid; rw [hd]
    rw [e]; rfl
  | infinity s =>
    have e : wid x = FloatKind.f64.encode (.infinity s) := by unfold wid; rw [hd]
    rw [e]
    cases s <;> rfl
  | number s m e =>
    have hf := fin_of hd
    obtain ⟨h1, h2⟩ := wid_num hf
    by_cases h0 : 0 ≤ val .f64 (wid x)
    · have ht := (val_top hf).2
      rw [← h2, p2_128] at ht
      obtain ⟨r, hr, hr1, hr2, hr3⟩ := sqrt_rnd h1 h0 64 (by decide) (by decide) (Rat.le_of_lt ht)
      have e : sq (wid x) = r := by unfold sq; rw [hr]; rfl
      rw [e]
      have h6 : p2 64 ≤ p2 127 := p2_le (by decide)
      have h7 := p2_pos 127
      exact ovf_fin hr1 (by grind) (by grind)
    · obtain ⟨s', m', e', hd', hv', _⟩ := fin_form h1
      have hd'' : FloatKind.f64.format.read (wid x) = .number s' m' e' := hd'
      have hs : s' = true ∧ m' ≠ 0 := by
        rw [hv'] at h0
        have := mv_nonneg m' e'
        constructor
        · cases s'
          · exact absurd this h0
          · rfl
        · rintro rfl
          apply h0
          rw [mv_zero]
          cases s' <;> decide
      obtain ⟨rfl, hm⟩ := hs
      have e : sq (wid x) = qn .f64 := by
        unfold sq
        simp [Format.sqrt, hd'', Datum.root, hm]
      rw [e]; rfl

def root32 (x : Nat) : Nat := nar (sq (wid x))
theorem spec_l01Sqrt (x : Nat) (w : World) : Calls Try.prog 42 #[.float .f32 x] w (GivesF .f32 w (root32 x)) := by
  have hs := Sqrt64
  go_enter Try.func42, Try.ntmps42
  go_wp2
  go_ret
  exact ⟨_, _, rfl, rfl, narV_same _ (sqV_same _ (widV_same _ (FEq.refl _ _))) (ovf_root x)⟩
theorem impl_RootNumber (x : Nat) (w : World) : Calls Try.prog 27 #[.float .f32 x] w (GivesF .f32 w (root32 x)) := by
  have hs := Sqrt64
  go_enter Try.func27, Try.ntmps27
  go_wp2
  go_ret
  exact ⟨_, _, rfl, rfl, narV_same _ (sqV_same _ (widV_same _ (FEq.refl _ _))) (ovf_root x)⟩
theorem spec_RootNumber (x : Nat) (w : World) : Calls Try.prog 26 #[.float .f32 x] w (GivesF .f32 w (root32 x)) := by
  go_enter Try.func26, Try.ntmps26
  go_wp2_with fail
  refine (spec_l01Sqrt _ _).mono ?_; rintro e w' ⟨r, n, rfl, rfl, hr⟩
  have HR := Lib.hid hr
  clear hr
  go_wp2_with fail
  go_ret
  exact ⟨_, _, rfl, rfl, HR.out⟩
theorem walk_FnExactRootNumber (x : Nat) (_ : (Lit.float .f32 x).wf = true) (w : World) : Calls Try.prog 10 #[.float .f32 x] w fun e w' => e = .returned (.bool true) ∧ Grown w w' := by
  go_enter Try.func10, Try.ntmps10
  go_wp2_with fail
  refine (spec_RootNumber _ _).mono ?_; rintro e w' ⟨r1, n1, rfl, rfl, hr1⟩
  have H1 := Lib.hid hr1
  clear hr1
  go_wp2_with fail
  refine (impl_RootNumber _ _).mono ?_; rintro e w' ⟨r2, n2, rfl, rfl, hr2⟩
  have H2 := Lib.hid hr2
  clear hr2
  go_wp2_with fail
  refine (same_ok _ _ ((widV_same _ H2.out).trans (widV_same _ H1.out).symm) _).mono ?_; rintro e w' ⟨rfl, n3, rfl⟩
  go_wp2_with fail
  go_ret
  exact ⟨rfl, grown_drewN _ _⟩
end Go.Proofs.Ytdaoiclpkedkoaa
