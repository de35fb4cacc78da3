/-
  A number is finite just where its difference with itself is nought.
-/
import Derived.Test.YtlolmopfeglifaaSame
import Derived.Test.YtlolmopfeglifaaArith
namespace Go.Proofs.Ytlolmopfeglifaa
open Go Go.RowKit Ieee

theorem nofin_of_nan {k : FloatKind} {x : Nat} (h : isN k x = true) : fin k x = false := by
  obtain ⟨s, t, h⟩ := nan_read h
  have h' : k.decode x = .nan s t := h
  unfold fin
  rw [h']
theorem fin32_eq (x : Nat) : (FloatKind.f32.format.order (pa .sub .f32 x x) 0 == some .eq) = fin .f32 x := by
  cases hd : FloatKind.f32.decode x with
  | number s m e =>
    have hx := fin_of hd
    obtain ⟨d, hs, hR⟩ := sub_rnd hx hx 1 (rep_p2 .f32 0 (by decide)) (by grind) (by grind) (by
      rw [top32]
      have h3 : p2 1 ≤ p2 128 := p2_le (by decide)
      rw [p2_one] at h3
      grind)
    have hz : val .f32 x - val .f32 x = 0 := by grind
    rw [hz] at hR
    have hv := hR.exact (rep_zero _)
    have h0 : fin .f32 0 = true := by decide
    have hv0 : val .f32 0 = 0 := by
      have : FloatKind.f32.decode 0 = .number false 0 (-149) := by decide
      rw [val_of this, mv_zero]; rfl
    have e : pa .sub .f32 x x = d := by unfold pa; rw [hs]; rfl
    rw [e, order_num hR.1 h0, hv, hv0, hx]
    rfl
  | infinity s =>
    have hr : FloatKind.f32.format.read x = .infinity s := hd
    have hx : fin .f32 x = false := by unfold fin; rw [hd]
    have e : pa .sub .f32 x x = qn .f32 := by
      unfold pa
      simp only [floatBits, Format.sub, hr]
      cases s <;> rfl
    rw [e, hx]
    decide
  | nan s t =>
    have hr : FloatKind.f32.format.read x = .nan s t := hd
    have hx : fin .f32 x = false := by unfold fin; rw [hd]
    have e : pa .sub .f32 x x = qn .f32 := by
      unfold pa
      simp only [floatBits, Format.sub, hr]
      rfl
    rw [e, hx]
    decide
end Go.Proofs.Ytlolmopfeglifaa
