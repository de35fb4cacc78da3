/-
  The walk of the law of Decimal: the library's numeral is the reference's.
-/
import Derived.Test.YtoafncjmjocaoaaDoorDec
import Derived.Test.YtoafncjmjocaoaaDoorShelf
import Derived.Test.YtoafncjmjocaoaaDoorRows
import Derived.WalkSmall
import Derived.Stop.LaidErr
import Derived.OpenShut
import Derived.Lib.LaidTab
namespace Go.Proofs.YtoafncjmjocaoaaDoor
open Go Go.RowKit

theorem gPow : Tryd.prog.globalNamed "internal/strconv.uint64pow10" = some 1 := by kernel_rfl
theorem tPow : (Tryd.prog.globals[1]?).map (·.type) = some 130 := by kernel_rfl
theorem cU64 : Tryd.prog.cellsOf 79 = 1 := by kernel_rfl
theorem cPow : Tryd.prog.cellsOf 130 = 20 := by kernel_rfl
theorem pow_data : Rows.laid_internal_strconv_uint64pow10 = Lib.tabData .u64 Lib.pow10Tab (H := Unit) := by kernel_rfl
/-- the table of powers of ten, and that it lies below the heap's end. -/
def Pow (w : World) : Prop := Lib.TabIs Tryd.prog w "internal/strconv.uint64pow10" .u64 Lib.pow10Tab ∧ 1 < w.heap.size
theorem Pow.below {w w' : World} (h : Pow w) (hb : Below w.heap.size w w') : Pow w' := ⟨var?_below hb gPow h.2 h.1, Nat.lt_of_lt_of_le h.2 hb.size⟩
theorem pow_of_laid {W : World} {rest : List (String × DataW Unit)} (h : laidMet Tryd.prog (("internal/strconv.uint64pow10", Rows.laid_internal_strconv_uint64pow10) :: rest) W) : Pow W := by
  rw [pow_data] at h
  have ht := Lib.tabIs_of_head gPow tPow Tryd.underlying130 Tryd.underlying79 cU64 cPow h
  refine ⟨ht, ?_⟩
  have hc := ht.cell gPow 0 (by decide)
  exact World.block_lt_of_cell? _ _ hc
theorem below_grow (w : World) (k : Nat) (os : Array Obj) : Below w.heap.size w (Sort.grow (w.drewN k) os) := by
  refine ⟨rfl, rfl, rfl, by simp [Sort.grow], fun i hi => ?_⟩
  show (w.heap ++ os)[i]? = w.heap[i]?
  exact Array.getElem?_append_left hi
theorem impl_Decimal (n : Int) (h1 : -9223372036854775808 ≤ n) (h2 : n ≤ 9223372036854775807) (w : World) (hp : Pow w) :
    Calls Tryd.prog 27 #[.int .i64 n] w fun e w' => e = .returned (.string ⟨(Lib.itoa n).toArray⟩) ∧ Below w.heap.size w w' := by
  have HT := Lib.hid hp.1
  clear hp
  go_enter Tryd.func27, Tryd.ntmps27
  go_wp2_with (go_at_call 49; refine (Tryd.strconv_FormatInt_10 _ h1 h2 _ HT.out).mono ?_; rintro e w' ⟨rfl, k, os, rfl⟩)
  go_ret
  exact ⟨rfl, below_grow _ _ _⟩
theorem walk_FnExactDecimal (n : Int) (w : World) (hw : (Lit.int .i64 n).wf = true) (hL : laidMet Tryd.prog Rows.fnExactDecimalRow.laid w) :
    Calls Tryd.prog 6 #[.int .i64 n] w fun e w' => e = .returned (.bool true) ∧ Below w.heap.size w w' := by
  obtain ⟨h1, h2⟩ := Go.bounds_i64 hw
  have HP := Lib.hid (pow_of_laid hL.tail.tail)
  have H1 := Lib.hid h1
  have H2 := Lib.hid h2
  clear hL hw h1 h2
  go_enter Tryd.func6, Tryd.ntmps6
  go_wp2_with (first
    | (go_at_call 26; go_in)
    | (go_at_call 48; refine (spec_l01Dec _ H1.out H2.out _).mono ?_; rintro e w' ⟨rfl, hb⟩; have HB := Lib.hid hb; clear hb)
    | (go_at_call 27; refine (impl_Decimal _ H1.out H2.out _ (HP.out.below HB.out)).mono ?_; rintro e w'' ⟨rfl, hb⟩; have HB2 := Lib.hid hb; clear hb))
  go_ret
  exact ⟨rfl, HB.out.trans (HB2.out.mono HB.out.size)⟩
end Go.Proofs.YtoafncjmjocaoaaDoor
