/-
  A slice of 32-bit numbers that came in, opened: the numbers that lie in it.
-/
import Derived.Test.YtlklmdcilmcppaaLawS
import Derived.ProofKit
import Derived.OpenShut
import Derived.ShutString
import Derived.ChangeOld
import Derived.Below
import Derived.Deep.Slices
namespace Go.Proofs.Ytlklmdcilmcppaa
open Go Go.RowKit

def bitsV : Value → Nat | .float _ b => b | _ => 0
theorem trod_float32 {H : Type} {enc : TypeId × Value → H} {P : Program} {w : World} {base : Nat} {spare : Nat → Bool} {held : Bool} {fuel : Nat} {t : TypeId} {v : Value} {x : DataW H × List MemPlace} (ht : P.underlying t = some (.float .f32)) (h : DataW.trod enc P w base spare held fuel t [v] = some x) : v = .float .f32 (bitsV v) := by
  cases fuel with
  | zero => simp [DataW.trod] at h
  | succ n =>
    unfold DataW.trod at h
    rw [ht] at h
    split at h <;> simp_all [bitsV]
theorem row_open {H : Type} {enc : TypeId × Value → H} {W : World} {base : Nat} {spare : Nat → Bool} {held : Bool} {a : Option Addr} {len cap : Nat} {d : DataW H} {p : List MemPlace} (hc : Try.prog.cellsOf 23 = 1)
    (h : DataW.Trod enc Try.prog W base spare held 22 (.slice a len cap) d p) : ∃ xs : List Nat, len = xs.length ∧ RowF W a xs := by
  obtain ⟨fuel, hf⟩ := h
  rcases Go.Deep.open_slice1 Try.underlying22 hc hf with ⟨hcs, _⟩ | ⟨x, l, c, m, n, V, D, Pl, hcs, _, hl, _, hm, _, hel⟩
  · simp [Value.cells] at hcs
    obtain ⟨_, rfl, _⟩ := hcs
    exact ⟨[], rfl, fun i hi => absurd hi (by simp)⟩
  · simp [Value.cells] at hcs
    obtain ⟨rfl, rfl, rfl⟩ := hcs
    refine ⟨(List.range len).map (fun i => bitsV (V i)), by simp, fun i hi => ?_⟩
    simp at hi
    have hlm : len ≤ m := by rw [hm]; split <;> omega
    obtain ⟨hcell, htr⟩ := hel i (by omega)
    rw [trod_float32 Try.underlying23 htr] at hcell
    obtain ⟨hcell0, _⟩ := hel 0 (by omega)
    have hs : x.spot = none := by
      cases hx : x.spot with
      | none => rfl
      | some s =>
        have e : x.add 0 = x := by simp [Addr.add]
        rw [e] at hcell0
        unfold World.cell? at hcell0
        rw [hx] at hcell0
        revert hcell0
        split <;> simp
    refine ⟨x.block, x.off, ?_, ?_⟩
    · cases x; simp_all
    · have e : x.add i = ⟨x.block, x.off + i, none⟩ := by
        unfold Addr.add
        split
        · rename_i h0
          subst h0
          cases x; simp_all
        · rfl
      rw [← e, hcell]
      simp
end Go.Proofs.Ytlklmdcilmcppaa
