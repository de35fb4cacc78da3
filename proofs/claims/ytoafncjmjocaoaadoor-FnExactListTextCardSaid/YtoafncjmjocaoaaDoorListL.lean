/-
  The walk of the law of ListText; a slice of 64-bit integers that came in, opened.
-/
import Derived.Test.YtoafncjmjocaoaaDoorListT
import Derived.ProofKit
import Derived.OpenShut
import Derived.Deep.Slices
namespace Go.Proofs.YtoafncjmjocaoaaDoor
open Go Go.RowKit

def numV : Value → Int | .int _ b => b | _ => 0
theorem row_openI {H : Type} {enc : TypeId × Value → H} {W : World} {base : Nat} {spare : Nat → Bool} {held : Bool} {a : Option Addr} {len cap : Nat} {d : DataW H} {p : List MemPlace} (hc : Tryd.prog.cellsOf 2 = 1)
    (h : DataW.Trod enc Tryd.prog W base spare held 22 (.slice a len cap) d p) : ∃ xs : List Int, len = xs.length ∧ RowI W a xs := by
  obtain ⟨fuel, hf⟩ := h
  rcases Go.Deep.open_slice1 Tryd.underlying22 hc hf with ⟨hcs, _⟩ | ⟨x, l, c, m, n, V, D, Pl, hcs, _, hl, _, hm, _, hel⟩
  · simp [Value.cells] at hcs
    obtain ⟨_, rfl, _⟩ := hcs
    exact ⟨[], rfl, fun i hi => absurd hi (by simp)⟩
  · simp [Value.cells] at hcs
    obtain ⟨rfl, rfl, rfl⟩ := hcs
    refine ⟨(List.range len).map (fun i => numV (V i)), by simp, fun i hi => ?_⟩
    simp at hi
    have hlm : len ≤ m := by rw [hm]; split <;> omega
    obtain ⟨hcell, htr⟩ := hel i (by omega)
    obtain ⟨q, hq, _, _⟩ := DataW.trod_int Tryd.underlying2 htr
    have hv : V i = .int .i64 (numV (V i)) := by
      have : V i = .int .i64 q := by simpa using hq
      rw [this]
      rfl
    rw [hv] at hcell
    obtain ⟨hcell0, _⟩ := hel 0 (by omega)
    have hs : x.spot = none := by
      cases hx : x.spot with
      | none => rfl
      | some s =>
        have e : x.add 0 = x := by simp [Addr.add]
        rw [e] at hcell0
        unfold World.cell? at hcell0
        rw [hx] at hcell0
        revert hcell0
        split <;> simp
    refine ⟨x.block, x.off, ?_, ?_⟩
    · clear hv hq
      obtain ⟨xb, xo, xs'⟩ := x
      simp only at hs
      subst hs
      rfl
    · have e : x.add i = ⟨x.block, x.off + i, none⟩ := by
        unfold Addr.add
        split
        · rename_i h0
          subst h0
          clear hv hq
          obtain ⟨xb, xo, xs'⟩ := x
          simp only at hs
          subst hs
          rfl
        · rfl
      rw [← e, hcell]
      simp
theorem below_drewNI {B : Nat} {a w : World} (h : Below B a w) (n : Nat) : Below B a (w.drewN n) := ⟨h.os, h.tape, h.output, h.size, h.block⟩
def GivesRowI (w0 w : World) (xs : List Int) (e : Ending) (w' : World) : Prop := ∃ b, e = .returned (.slice (some ⟨b, 0, none⟩) xs.length xs.length) ∧ Below w0.heap.size w0 w' ∧ RowI w' (some ⟨b, 0, none⟩) xs ∧ ∀ a' ys, RowI w a' ys → RowI w' a' ys
theorem copy_midI {w0 : World} {a : Option Addr} {xs : List Int} (c : Nat) (hl : xs.length ≤ 1048576) (hr : RowI w0 a xs) (w : World) (hb : Below w0.heap.size w0 w) :
    Calls Tryd.prog 31 #[.slice a xs.length c] w (GivesRowI w0 w xs) :=
  (toI_any a c xs hl w (hr.below hb)).mono fun _ _ ⟨b, he, hb', _, hx⟩ => ⟨b, he, hb.trans (hb'.mono hb.size), hx, fun _ _ h => h.below hb'⟩
set_option maxHeartbeats 1000000 in
theorem walk_FnExactListText (a : Option Addr) (c : Nat) (xs : List Int) (w : World) (hr : RowI w a xs) (hL : laidMet Tryd.prog Rows.fnExactListTextRow.laid w) :
    Calls Tryd.prog 8 #[.slice a xs.length c] w fun e w' => e = .returned (.bool true) ∧ Below w.heap.size w w' := by
  by_cases hl : xs.length ≤ 1048576
  · have hd : decide ((xs.length : Int) > 1048576) = false := by simp; omega
    have HP := Lib.hid (pow_of_laid hL.tail.tail)
    have HT := Lib.hid (fun w' hb => copy_midI c hl hr w' hb)
    have HB := Lib.hid (Below.refl w.heap.size w)
    clear hr hL
    go_enter Tryd.func8, Tryd.ntmps8
    go_wp2_with (first
      | (go_at_call 31
         refine (HT.out _ ?_).mono ?_
         first | exact HB.out | exact below_drewNI HB.out _
         rintro e w' ⟨b, rfl, hb, hx, hk⟩
         try have H2 := Lib.hid (hk _ _ H1.out)
         have H1 := Lib.hid hx
         have HB := Lib.hid hb
         clear hb hx hk)
      | (go_at_call 30
         refine (spec_ListText _ _ xs hl _ ?_).mono ?_
         exact H1.out
         rintro e w' ⟨rfl, hb⟩
         have H1 := Lib.hid (H1.out.below hb)
         have HB := Lib.hid (HB.out.trans (hb.mono HB.out.size))
         clear hb)
      | (go_at_call 32
         refine (impl_ListText _ _ xs hl _ ?_ ?_).mono ?_
         exact H1.out
         exact HP.out.below HB.out
         rintro e w' ⟨rfl, hb⟩
         have H1 := Lib.hid (H1.out.below hb)
         have HB := Lib.hid (HB.out.trans (hb.mono HB.out.size))
         clear hb)
      | (go_at_call 13
         refine (eqI_any _ _ _ _ xs hl _ ?_ ?_).mono ?_
         exact H2.out
         exact H1.out
         rintro e w' ⟨rfl, n4, rfl⟩))
    all_goals
      go_ret
      exact ⟨rfl, below_drewNI HB.out _⟩
  · have hd : decide ((xs.length : Int) > 1048576) = true := by simp; omega
    clear hr hL
    go_enter Tryd.func8, Tryd.ntmps8
    go_wp2
    go_ret
    exact ⟨rfl, Below.refl _ _⟩
end Go.Proofs.YtoafncjmjocaoaaDoor
