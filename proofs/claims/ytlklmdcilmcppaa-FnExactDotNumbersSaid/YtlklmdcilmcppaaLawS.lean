/-
  The walks of the two laws about sums: the program and the reference answer alike, and the lists stay as they were.
-/
import Derived.Test.YtlklmdcilmcppaaDot
namespace Go.Proofs.Ytlklmdcilmcppaa
open Go Go.RowKit

theorem below_drewN {B : Nat} {a w : World} (h : Below B a w) (n : Nat) : Below B a (w.drewN n) := ⟨h.os, h.tape, h.output, h.size, h.block⟩
/-- one copy, in the middle of a law's walk. -/
def GivesRow (w0 w : World) (xs : List Nat) (e : Ending) (w' : World) : Prop := ∃ b, e = .returned (.slice (some ⟨b, 0, none⟩) xs.length xs.length) ∧ Below w0.heap.size w0 w' ∧ RowF w' (some ⟨b, 0, none⟩) xs ∧ ∀ a' ys, RowF w a' ys → RowF w' a' ys
theorem copy_mid {w0 : World} {a : Option Addr} {xs : List Nat} (c : Nat) (hl : xs.length ≤ 1048576) (hr : RowF w0 a xs) (w : World) (hb : Below w0.heap.size w0 w) :
    Calls Try.prog 6 #[.slice a xs.length c] w (GivesRow w0 w xs) :=
  (toF_any a c xs hl w (hr.below hb)).mono fun _ _ ⟨b, he, hb', _, hx⟩ => ⟨b, he, hb.trans (hb'.mono hb.size), hx, fun _ _ h => h.below hb'⟩

set_option maxHeartbeats 1000000 in
theorem walk_FnExactSumNumbers (a : Option Addr) (c : Nat) (xs : List Nat) (w : World) (hr : RowF w a xs) :
    Calls Try.prog 4 #[.slice a xs.length c] w fun e w' => e = .returned (.bool true) ∧ Below w.heap.size w w' := by
  by_cases hl : xs.length ≤ 1048576
  · have hd : decide ((xs.length : Int) > 1048576) = false := by simp; omega
    have HT := Lib.hid (fun w' hb => copy_mid c hl hr w' hb)
    have HB := Lib.hid (Below.refl w.heap.size w)
    clear hr
    go_enter Try.func4, Try.ntmps4
    go_wp2_with (first
      | (go_at_call 6
         refine (HT.out _ ?_).mono ?_
         first | exact HB.out | exact below_drewN HB.out _
         rintro e w' ⟨b, rfl, hb, hx, hk⟩
         try have H2 := Lib.hid (hk _ _ H1.out)
         have H1 := Lib.hid hx
         have HB := Lib.hid hb
         clear hb hx hk)
      | (go_at_call 10
         refine (spec_SumNumbers _ _ xs hl _ ?_).mono ?_
         exact H1.out
         rintro e w' ⟨r1, n1, rfl, rfl, hf⟩
         have F1 := Lib.hid hf
         clear hf)
      | (go_at_call 11
         refine (impl_SumNumbers _ _ xs hl _ ?_).mono ?_
         exact H1.out
         rintro e w' ⟨r2, n2, rfl, rfl, hf⟩
         have F2 := Lib.hid hf
         clear hf)
      | (go_at_call 8
         refine (same_ok _ _ ((widV_same _ F2.out).trans (widV_same _ F1.out).symm) _).mono ?_
         rintro e w' ⟨rfl, n3, rfl⟩)
      | (go_at_call 9
         refine (eqF_any _ _ _ _ xs hl _ ?_ ?_).mono ?_
         exact H2.out
         exact H1.out
         rintro e w' ⟨rfl, n4, rfl⟩))
    go_ret
    exact ⟨rfl, below_drewN HB.out _⟩
  · have hd : decide ((xs.length : Int) > 1048576) = true := by simp; omega
    clear hr
    go_enter Try.func4, Try.ntmps4
    go_wp2
    go_ret
    exact ⟨rfl, Below.refl _ _⟩
set_option maxHeartbeats 1000000 in
theorem walk_FnExactDotNumbers (a a2 : Option Addr) (c c2 : Nat) (xs ys : List Nat) (w : World) (hr : RowF w a xs) (hs : RowF w a2 ys) :
    Calls Try.prog 3 #[.slice a xs.length c, .slice a2 ys.length c2] w fun e w' => e = .returned (.bool true) ∧ Below w.heap.size w w' := by
  by_cases hl : xs.length ≤ 1048576
  · have hd : decide ((xs.length : Int) > 1048576) = false := by simp; omega
    by_cases hl2 : ys.length ≤ 1048576
    · have hd2 : decide ((ys.length : Int) > 1048576) = false := by simp; omega
      have HT := Lib.hid (fun w' hb => copy_mid c hl hr w' hb)
      have HS := Lib.hid (fun w' hb => copy_mid c2 hl2 hs w' hb)
      have HB := Lib.hid (Below.refl w.heap.size w)
      clear hr hs
      go_enter Try.func3, Try.ntmps3
      go_wp2_with (first
        | (go_at_call 6
           first
           | (with_reducible refine (HT.out _ ?_).mono ?_; first | exact HB.out | exact below_drewN HB.out _)
           | (with_reducible refine (HS.out _ ?_).mono ?_; first | exact HB.out | exact below_drewN HB.out _)
           rintro e w' ⟨b, rfl, hb, hx, hk⟩
           try have H5 := Lib.hid (hk _ _ H4.out)
           try have H4 := Lib.hid (hk _ _ H3.out)
           try have H3 := Lib.hid (hk _ _ H2.out)
           try have H2 := Lib.hid (hk _ _ H1.out)
           have H1 := Lib.hid hx
           have HB := Lib.hid hb
           clear hb hx hk)
        | (go_at_call 5
           refine (spec_DotNumbers _ _ _ _ xs ys hl hl2 _ ?_ ?_).mono ?_
           exact H2.out
           exact H1.out
           rintro e w' ⟨r1, n1, rfl, rfl, hf⟩
           have F1 := Lib.hid hf
           clear hf)
        | (go_at_call 7
           refine (impl_DotNumbers _ _ _ _ xs ys hl hl2 _ ?_ ?_).mono ?_
           exact H2.out
           exact H1.out
           rintro e w' ⟨r2, n2, rfl, rfl, hf⟩
           have F2 := Lib.hid hf
           clear hf)
        | (go_at_call 8
           refine (same_ok _ _ ((widV_same _ F2.out).trans (widV_same _ F1.out).symm) _).mono ?_
           rintro e w' ⟨rfl, n3, rfl⟩)
        | (go_at_call 9
           first
           | (with_reducible refine (eqF_any _ _ _ _ xs hl _ ?_ ?_).mono ?_; exact H3.out; exact H1.out)
           | (with_reducible refine (eqF_any _ _ _ _ ys hl2 _ ?_ ?_).mono ?_; exact H3.out; exact H1.out)
           rintro e w' ⟨rfl, n4, rfl⟩))
      go_ret
      exact ⟨rfl, below_drewN HB.out _⟩
    · have hd2 : decide ((ys.length : Int) > 1048576) = true := by simp; omega
      clear hr hs
      go_enter Try.func3, Try.ntmps3
      go_wp2
      go_ret
      exact ⟨rfl, Below.refl _ _⟩
  · have hd : decide ((xs.length : Int) > 1048576) = true := by simp; omega
    clear hr hs
    go_enter Try.func3, Try.ntmps3
    go_wp2
    go_ret
    exact ⟨rfl, Below.refl _ _⟩
end Go.Proofs.Ytlklmdcilmcppaa
