/-
  ReadDecimal of the program, by the library's ParseInt, and the law's walk.
-/
import Derived.Test.YtoafncjmjocaoaaDoorRdW
import Derived.LaidLaws
import Derived.Lib.SmallJoins
namespace Go.Proofs.YtoafncjmjocaoaaDoor
open Go Go.RowKit Go.Lib

theorem starErr : "*errors.errorString" = "*" ++ "errors.errorString" := by decide
theorem rowErr (u : TypeId) (h : Tryd.prog.typeName? 3 u = some "*errors.errorString") : u = 155 :=
  typeName_ptr_named (nm := "errors.errorString") (by rw [← starErr]; kernel_rfl) (by kernel_rfl) (by decide) u (by rw [← starErr]; exact h)
theorem gSyn : Tryd.prog.globalNamed "strconv.ErrSyntax" = some 2 := by kernel_rfl
theorem gRan : Tryd.prog.globalNamed "strconv.ErrRange" = some 3 := by kernel_rfl
theorem tSyn : (Tryd.prog.globals[2]?).map (·.type) = some 71 := by kernel_rfl
theorem tRan : (Tryd.prog.globals[3]?).map (·.type) = some 71 := by kernel_rfl
theorem cErr : Tryd.prog.cellsOf 157 = 1 := by kernel_rfl
theorem cStr : Tryd.prog.cellsOf 9 = 1 := by kernel_rfl
/-- the variables that the program's ReadDecimal leans on. -/
structure Vars (w : World) : Prop where
  pow : Pow w
  syn : ∃ tp p, w.var? Tryd.prog "strconv.ErrSyntax" = some #[.iface tp p]
  ran : ∃ tp p, w.var? Tryd.prog "strconv.ErrRange" = some #[.iface tp p]
  synB : 2 < w.heap.size
  ranB : 3 < w.heap.size
theorem Vars.below {w w' : World} (h : Vars w) (hb : Below w.heap.size w w') : Vars w' where
  pow := h.pow.below hb
  syn := by obtain ⟨tp, p, hv⟩ := h.syn; exact ⟨tp, p, var?_below hb gSyn h.synB hv⟩
  ran := by obtain ⟨tp, p, hv⟩ := h.ran; exact ⟨tp, p, var?_below hb gRan h.ranB hv⟩
  synB := Nat.lt_of_lt_of_le h.synB hb.size
  ranB := Nat.lt_of_lt_of_le h.ranB hb.size
theorem GivesRd.mono {w : World} {o : Option Int} {e : Ending} {w' w0 : World} (h : GivesRd w o e w') (hb : Below w0.heap.size w0 w) : e = .returned (.tuple #[.int .i64 (o.getD 0), .bool o.isSome]) ∧ Below w0.heap.size w0 w' := ⟨h.1, hb.trans (h.2.mono hb.size)⟩
set_option maxHeartbeats 1000000 in
theorem impl_ReadDecimal (s : ByteArray) (w : World) (hm : s.size ≤ 1048576) (hv : Vars w) :
    Calls Tryd.prog 37 #[.string s] w (GivesRd w (rd s.data.toList)) := by
  cases hp : parseIntB 64 s.data.toList with
  | «syntax» =>
    have hn : rd s.data.toList = none := rd_none_of fun n h1 h2 => by
      rw [← h2, parse_itoa h1] at hp
      cases hp
    rw [hn]
    obtain ⟨tp, p, hs⟩ := hv.syn
    have HC := Lib.hid (Tryd.strconv_ParseInt_10_at64_syntax_var s (by omega) hp tp p w hs)
    clear hs hv hp hn
    go_enter Tryd.func37, Tryd.ntmps37
    go_wp2_with (go_at_call 63; refine HC.out.mono ?_; rintro e w' ⟨N, rfl, _, _, hb⟩; have HB := Lib.hid hb; clear hb)
    go_ret2
    exact ⟨rfl, HB.out⟩
  | range =>
    have hn : rd s.data.toList = none := rd_none_of fun n h1 h2 => by
      rw [← h2, parse_itoa h1] at hp
      cases hp
    rw [hn]
    obtain ⟨tp, p, hs⟩ := hv.ran
    have HC := Lib.hid (Tryd.strconv_ParseInt_10_at64_range_var s (by omega) hp tp p w hs)
    clear hs hv hp hn
    go_enter Tryd.func37, Tryd.ntmps37
    go_wp2_with (go_at_call 63; refine HC.out.mono ?_; rintro e w' ⟨N, rfl, _, _, hb⟩; have HB := Lib.hid hb; clear hb)
    go_ret2
    exact ⟨rfl, HB.out⟩
  | ok v =>
    have HC : Hid (Calls Tryd.prog 63 #[.string s, .int .i64 10, .int .i64 64] w fun e w' => e = .returned (.tuple #[.int .i64 v, .nilIface]) ∧ Below w.heap.size w w') :=
      (Tryd.strconv_ParseInt_10_at64_ok s (by omega) v hp w).mono fun e w' ⟨he, hw⟩ => ⟨he, by
        rcases hw with rfl | ⟨t, rfl⟩
        · exact Below.refl _ _
        · exact Joins.below_bytesWorld _ _ _ _ (Nat.le_refl _)⟩
    have HV := Lib.hid hv
    have hne : ∀ u : Int, u ≠ v → rd s.data.toList ≠ some u := fun u hu hr => by
      obtain ⟨h1, h2⟩ := rd_some hr
      rw [← h2, parse_itoa h1] at hp
      cases hp
      exact hu rfl
    clear hp hv
    by_cases hin : v.natAbs ≤ 1000000000000000
    · have hv1 : -1000000000000000 ≤ v := by omega
      have hv2 : v ≤ 1000000000000000 := by omega
      by_cases heq : itoa v = s.data.toList
      · have hr := Lib.hid (rd_of hin heq)
        have hs : (⟨(itoa v).toArray⟩ : ByteArray) = s := by rw [heq]
        clear hne heq hin
        go_enter Tryd.func37, Tryd.ntmps37
        go_wp2_with (first
          | (go_at_call 63; refine HC.out.mono ?_; rintro e w' ⟨rfl, hb⟩; have HB := Lib.hid hb; clear hb)
          | (go_at_call 56; go_in)
          | (go_at_call 50; go_in)
          | (go_at_call 27; refine (impl_Decimal _ (by omega) (by omega) _ (HV.out.below HB.out).pow).mono ?_; rintro e w'' ⟨rfl, hb⟩; have HB2 := Lib.hid hb; clear hb))
        go_ret2
        exact ⟨by rw [hr.out]; rfl, HB.out.trans (HB2.out.mono HB.out.size)⟩
      · have hr : Hid (rd s.data.toList = none) := by
          show rd s.data.toList = none
          cases hq : rd s.data.toList with
          | none => rfl
          | some u =>
            by_cases hu : u = v
            · subst hu; exact absurd (rd_some hq).2 heq
            · exact absurd hq (hne u hu)
        have hs : (itoa v == s.toList) = false := by
          rw [ByteArray.toList_eq]
          exact beq_false_of_ne heq
        clear hne heq hin
        go_enter Tryd.func37, Tryd.ntmps37
        go_wp2_with (first
          | (go_at_call 63; refine HC.out.mono ?_; rintro e w' ⟨rfl, hb⟩; have HB := Lib.hid hb; clear hb)
          | (go_at_call 56; go_in)
          | (go_at_call 50; go_in)
          | (go_at_call 27; refine (impl_Decimal _ (by omega) (by omega) _ (HV.out.below HB.out).pow).mono ?_; rintro e w'' ⟨rfl, hb⟩; have HB2 := Lib.hid hb; clear hb))
        go_ret2
        exact ⟨by rw [hr.out]; rfl, HB.out.trans (HB2.out.mono HB.out.size)⟩
    · have hr : Hid (rd s.data.toList = none) := by
        show rd s.data.toList = none
        cases hq : rd s.data.toList with
        | none => rfl
        | some u =>
          by_cases hu : u = v
          · subst hu; exact absurd (rd_some hq).1 hin
          · exact absurd hq (hne u hu)
      clear hne
      by_cases hlo : v < -1000000000000000
      · go_enter Tryd.func37, Tryd.ntmps37
        go_wp2_with (first
          | (go_at_call 63; refine HC.out.mono ?_; rintro e w' ⟨rfl, hb⟩; have HB := Lib.hid hb; clear hb)
          | (go_at_call 56; go_in)
          | (go_at_call 50; go_in))
        go_ret2
        exact ⟨by rw [hr.out]; rfl, HB.out⟩
      · have hv1 : -1000000000000000 ≤ v := by omega
        have hd : decide (v ≤ 1000000000000000) = false := by simp; omega
        go_enter Tryd.func37, Tryd.ntmps37
        go_wp2_with (first
          | (go_at_call 63; refine HC.out.mono ?_; rintro e w' ⟨rfl, hb⟩; have HB := Lib.hid hb; clear hb)
          | (go_at_call 56; go_in)
          | (go_at_call 50; go_in))
        go_ret2
        exact ⟨by rw [hr.out]; rfl, HB.out⟩
theorem walk_FnExactReadDecimal (s : ByteArray) (w : World) (_ : s.size ≤ maxLen) (hL : laidMet Tryd.prog Rows.fnExactReadDecimalRow.laid w) :
    Calls Tryd.prog 10 #[.string s] w fun e w' => e = .returned (.bool true) ∧ Below w.heap.size w w' := by
  by_cases hm : s.size ≤ 1048576
  · have hd : decide ((s.size : Int) > 1048576) = false := by simp; omega
    have hr := laid_sentinel hL.tail.tail.tail gRan tRan Tryd.underlying71 rowErr Tryd.underlying155 Tryd.underlying157 rfl rfl Tryd.underlying9 cErr cStr
    have hs := laid_sentinel hL.tail.tail.tail.tail gSyn tSyn Tryd.underlying71 rowErr Tryd.underlying155 Tryd.underlying157 rfl rfl Tryd.underlying9 cErr cStr
    obtain ⟨ar, sr, hr1, _⟩ := hr
    obtain ⟨as', ss', hs1, _⟩ := hs
    have hv : Vars w := ⟨pow_of_laid hL.tail.tail, ⟨_, _, hs1⟩, ⟨_, _, hr1⟩, World.block_lt_of_cell? _ _ (World.var?_cell gSyn hs1 0), World.block_lt_of_cell? _ _ (World.var?_cell gRan hr1 0)⟩
    have HV := Lib.hid hv
    clear hL hr1 hs1 hv
    go_enter Tryd.func10, Tryd.ntmps10
    go_wp2_with (first
      | (go_at_call 36; refine (spec_ReadDecimal _ _ hm).mono ?_; rintro e w' ⟨rfl, hb⟩; have HB := Lib.hid hb; clear hb)
      | (go_at_call 37; refine (impl_ReadDecimal _ _ hm (HV.out.below HB.out)).mono ?_; rintro e w'' ⟨rfl, hb⟩; have HB2 := Lib.hid hb; clear hb))
    go_ret
    exact ⟨rfl, HB.out.trans (HB2.out.mono HB.out.size)⟩
  · have hd : decide ((s.size : Int) > 1048576) = true := by simp; omega
    clear hL
    go_enter Tryd.func10, Tryd.ntmps10
    go_wp2
    go_ret
    exact ⟨rfl, Below.refl _ _⟩
end Go.Proofs.YtoafncjmjocaoaaDoor
