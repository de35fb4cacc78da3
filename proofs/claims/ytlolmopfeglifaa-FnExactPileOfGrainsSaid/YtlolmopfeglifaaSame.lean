/-
  The laws' sameFloat answers true at two numbers that are the same, or both not-a-numbers.
-/
import Derived.Test.YtlolmopfeglifaaChecked
import Derived.Test.YtlolmopfeglifaaVal
import Derived.Lib.Hide
namespace Go.Proofs.Ytlolmopfeglifaa
open Go Go.RowKit

theorem neq_nan {k : FloatKind} {x : Nat} (h : isN k x = true) : (k.format.order x x != some .eq) = true := by rw [order_self, if_pos h]; rfl
theorem neq_num {k : FloatKind} {x : Nat} (h : isN k x = false) : (k.format.order x x != some .eq) = false := by rw [order_self, h]; rfl
theorem eql_num {k : FloatKind} {x : Nat} (h : isN k x = false) : (k.format.order x x == some .eq) = true := by rw [order_self, h]; rfl
theorem grown_drewN (w : World) (n : Nat) : Grown w (w.drewN n) := Grown.refl w
theorem ret_bool {a b : Bool} (h : a = b) : Ending.returned (.bool a) = Ending.returned (.bool b) := by rw [h]
/-- a bool is handed back; nothing is written. -/
def GivesB (w : World) (b : Bool) (e : Ending) (w' : World) : Prop := e = .returned (.bool b) ∧ ∃ n, w' = w.drewN n
/-- a number is handed back, the same as v; nothing is written. -/
def GivesF (k : FloatKind) (w : World) (v : Nat) (e : Ending) (w' : World) : Prop := ∃ r n, e = .returned (.float k r) ∧ w' = w.drewN n ∧ FEq k r v

theorem same_ok (a b : Nat) (h : FEq .f64 a b) (w : World) : Calls Try.prog 35 #[.float .f64 a, .float .f64 b] w (GivesB w true) := by
  by_cases hn : isN .f64 a = true
  · have ha := neq_nan hn
    have hb := neq_nan (h.nan ▸ hn)
    clear h hn
    go_enter Try.func35, Try.ntmps35
    go_wp2
    go_ret
    exact ⟨rfl, 0, rfl⟩
  · have hn' : isN .f64 a = false := by simpa using hn
    obtain rfl := h.eq hn'
    have ha := neq_num hn'
    have hb := eql_num hn'
    clear h hn hn'
    by_cases hz : (FloatKind.f64.format.order a 0 == some Ordering.eq) = true
    · go_enter Try.func35, Try.ntmps35
      go_wp2
      go_ret
      refine ⟨?_, _, rfl⟩
      refine ret_bool ?_
      rw [order_same (ar_same .quo _ (FEq.refl .f64 4607182418800017408) (FEq.refl .f64 a)) (FEq.refl .f64 0), order_same (ar_same .quo (w.drewN _) (FEq.refl .f64 4607182418800017408) (FEq.refl .f64 a)) (FEq.refl .f64 0)]
      simp
    · have hz' : (FloatKind.f64.format.order a 0 == some Ordering.eq) = false := by simpa using hz
      clear hz
      go_enter Try.func35, Try.ntmps35
      go_wp2
      go_ret
      exact ⟨rfl, 0, rfl⟩
end Go.Proofs.Ytlolmopfeglifaa
