/-
  The reference's decimal text of a number, walked: it is the library's numeral.
-/
import Derived.Test.YtoafncjmjocaoaaDoorChecked
import Derived.WalkKit
import Derived.WalkSpells
import Derived.WalkLawsBesides
import Derived.Great.BuildSlice
import Derived.Laws.IdiomStrings
import Derived.Lib.ItoaNum
import Derived.Handy
import Derived.Lib.Hide
namespace Go.Proofs.YtoafncjmjocaoaaDoor
open Go Go.RowKit

def bv (bs : List UInt8) : List Value := bs.map fun b => .int .u8 (b.toNat : Int)
/-- bytes of our own, from block B on. -/
def OwnB (B : Nat) (w : World) (g cap : Nat) (bs : List UInt8) : Prop := w.ownsRow B 5 1 (.slice (some ⟨g, 0, none⟩) bs.length cap) bs.length (bv bs)
theorem infoB : (Tryd.prog.info? 5).map (fun i => (i.zero, i.size, i.bytes)) = some (some (.int .u8 0), 1, 1) := by kernel_rfl
theorem info_partsB : ∃ i, Tryd.prog.info? 5 = some i ∧ i.zero = some (.int .u8 0) ∧ i.size = 1 ∧ i.bytes = 1 := by
  have h := infoB
  cases hi : Tryd.prog.info? 5 with
  | none => rw [hi] at h; cases h
  | some i =>
    rw [hi] at h
    simp only [Option.map_some, Option.some.injEq, Prod.mk.injEq] at h
    exact ⟨i, rfl, h.1, h.2.1, h.2.2⟩
theorem buildB0 (w : World) : (Instr.buildSlice 85 0 #[]).run Tryd.prog w = .ok (.slice (some ⟨w.heap.size, 0, none⟩) 0 0) (w.alloc (.cells #[] 5)) := by
  obtain ⟨i, hi, hz, hs, hb⟩ := info_partsB
  simp [Instr.buildSlice, run_underlying Tryd.underlying85, sizeOf, typeInfo, hi, newRow, Instr.fill]
  rw [show Array.range 0 = #[] by decide]
  simp
theorem buildB1 (d : Int) (w : World) : (Instr.buildSlice 85 1 #[(0, .int .u8 d)]).run Tryd.prog w = .ok (.slice (some ⟨w.heap.size, 0, none⟩) 1 1) (w.alloc (.cells #[.int .u8 d] 5)) := by
  obtain ⟨i, hi, hz, hs, hb⟩ := info_partsB
  refine run_buildSlice w 85 5 1 #[(0, .int .u8 d)] _ i _ Tryd.underlying85 hi hz (by rw [hs]; decide) (by rw [hs]; decide) ?_
  rw [hs]
  have h1 : Array.range 1 = #[0] := by decide
  simp only [Nat.one_mul, h1]
  simp [Instr.fill, Value.cells]
theorem ownB_empty (w : World) : OwnB w.heap.size (w.alloc (.cells #[] 5)) w.heap.size 0 [] := World.ownsRow_lit w #[] 0 (Nat.le_refl _) (by decide) (by simp)
/-- one byte put ahead of others. -/
theorem ahead (B : Nat) (w : World) (g cap : Nat) (bs : List UInt8) (b : UInt8) (ty : TypeId) (hlen : bs.length ≤ 1000) (ho : OwnB B w g cap bs) (hB : B ≤ w.heap.size) :
    ∃ g' cap' w', (Builtin.append_ #[85, 85] ty #[.slice (some ⟨w.heap.size, 0, none⟩) 1 1, .slice (some ⟨g, 0, none⟩) bs.length cap]).run Tryd.prog (w.alloc (.cells #[.int .u8 (b.toNat : Int)] 5)) = .ok (.slice (some ⟨g', 0, none⟩) (bs.length + 1) cap') w' ∧
      OwnB B w' g' cap' (b :: bs) ∧ Below w.heap.size w w' := by
  obtain ⟨i, hi, hz, hs, hb⟩ := info_partsB
  have hnew := World.ownsRow_lit (base := w.heap.size) (e := 5) (size := 1) w #[.int .u8 (b.toNat : Int)] 1 (Nat.le_refl _) (by decide) (by simp)
  have hcells : ∀ j u, (bv bs)[j]? = some u → (w.alloc (.cells #[.int .u8 (b.toNat : Int)] 5)).cell? ((⟨g, 0, none⟩ : Addr).add j) = some u := by
    intro j u hj
    have hjl : j < bs.length := by
      have := (List.getElem?_eq_some_iff.1 hj).1
      simpa [bv] using this
    have h1 := World.ownsRow.cellAt ho j (by omega)
    have hg : g < w.heap.size := World.block_lt_of_cell? _ _ (h1.trans hj)
    rw [show ((⟨g, 0, none⟩ : Addr).add j) = ⟨g, j, none⟩ by unfold Addr.add; split <;> simp_all]
    rw [World.cell?_alloc_lt _ _ _ hg, h1, hj]
  obtain ⟨v', w', hr, hown, hgr, hn⟩ := run_append_own (P := Tryd.prog) (w.alloc (.cells #[.int .u8 (b.toNat : Int)] 5)) w.heap.size 85 ty 5 i (.int .u8 0) 1 1 Tryd.underlying85 hi hz hs hb rfl (by decide)
    _ 1 _ hnew ⟨g, 0, none⟩ bs.length cap (bv bs) (by simp [bv]) hcells (by intro u hu; obtain ⟨_, _, rfl⟩ := List.mem_map.1 hu; rfl) (by simp only [maxLen]; omega) (by omega) (by simp)
  have hne : v' ≠ .slice none 0 0 := fun h => by simpa using hn.1 h
  rcases hown.2 with ⟨h0, _⟩ | ⟨g', cap', cur, rfl, hbg, hg, hnc, hcm, hcs, htake⟩
  · exact absurd h0 hne
  · rw [Nat.add_comm 1] at hr
    refine ⟨g', cap', w', hr, ?_, ?_⟩
    · have hx := hown
      rw [Nat.add_comm 1] at hx
      refine ⟨by simp [bv], .inr ⟨g', cap', cur, rfl, Nat.le_trans hB hbg, hg, by simp; omega, hcm, hcs, ?_⟩⟩
      have := htake
      rw [Nat.add_comm 1] at this
      simpa [bv] using this
    · refine Below.grown ((Below.refl _ _).alloc (Nat.le_refl _) _) hgr (by simp) ?_
      intro k hk
      simp [Value.ownBlock] at hk
      omega
/-- bytes of our own, as a text. -/
theorem textB {B : Nat} {w : World} {g cap : Nat} {bs : List UInt8} (ho : OwnB B w g cap bs) : (convert 85 9 (.slice (some ⟨g, 0, none⟩) bs.length cap)).run Tryd.prog w = .ok (.string ⟨bs.toArray⟩) w := by
  refine run_convert_bytes_back w 85 9 5 ⟨g, 0, none⟩ cap bs Tryd.underlying85 Tryd.underlying5 Tryd.underlying9 ?_
  intro j hj
  have h1 := World.ownsRow.cellAt ho j (by omega)
  rw [show ((⟨g, 0, none⟩ : Addr).add j) = ⟨g, j, none⟩ by unfold Addr.add; split <;> simp_all]
  rw [h1]
  simp [bv, hj]

/-- an append whose outcome is known. -/
theorem wpList_append_eq {P : Program} {w : World} {ops : Array Oper} {rest : List Oper} {o : Oper} {a : Act} {Q : Exit → Act → World → Prop} (hgd : o.guard = none) (s x : Operand) (t : TypeId)
    (ho : o.op = .call { callee := .builtin .append, args := #[s, x], argTypes := #[t, t] }) {v1 v2 r : Value} {w' : World} (hs : a.eval s = v1) (hx : a.eval x = v2)
    (hr : (Builtin.append_ #[t, t] o.type #[v1, v2]).run P w = .ok r w') (h : wpList P ops Q rest (a.put o.dst r) w') : wpList P ops Q (o :: rest) a w :=
  wpList_plain hgd fun _ hK => by
    unfold Oper.wp execOp
    simp only [ho, resolve, invoke, builtin, Sem.run_bind, Sem.run_pure, Result.andThen_ok, List.map_toArray, List.map_cons, List.map_nil, hs, hx, hr]
    exact hK _ _ h

open Lib in
theorem dec_step (u : Nat) : decDigits u = (if u / 10 = 0 then [] else decDigits (u / 10)) ++ [UInt8.ofNat (48 + u % 10)] := by
  by_cases h : u < 10
  · rw [decDigits, dif_pos h, if_pos (by omega), Nat.mod_eq_of_lt h]
    rfl
  · conv => lhs; rw [decDigits, dif_neg h]
    rw [if_neg (by omega)]
open Lib in
/-- what the loop has written of n, and what is left. -/
def DecInv (n rest : Int) (bs : List UInt8) : Prop := (bs = [] ∧ rest = n) ∨ (bs ≠ [] ∧ decDigits n.natAbs = (if rest.natAbs = 0 then [] else decDigits rest.natAbs) ++ bs)
open Lib in
theorem DecInv.step {n rest rest' : Int} {bs : List UInt8} (h : DecInv n rest bs) (hc : bs = [] ∨ rest ≠ 0) (hr : rest'.natAbs = rest.natAbs / 10) : DecInv n rest' (UInt8.ofNat (48 + rest.natAbs % 10) :: bs) := by
  refine .inr ⟨by simp, ?_⟩
  rw [hr]
  rcases h with ⟨rfl, rfl⟩ | ⟨h1, h2⟩
  · exact dec_step _
  · have h0 : rest.natAbs ≠ 0 := by
      rcases hc with h | h
      · exact absurd h h1
      · simpa using h
    rw [h2, if_neg h0, dec_step rest.natAbs]
    simp
def lenV : Value → Nat | .slice _ n _ => n | _ => 0
set_option maxHeartbeats 1000000 in
theorem spec_l01Dec (n : Int) (h1 : -9223372036854775808 ≤ n) (h2 : n ≤ 9223372036854775807) (w : World) :
    Calls Tryd.prog 48 #[.int .i64 n] w fun e w' => e = .returned (.string ⟨(Lib.itoa n).toArray⟩) ∧ Below w.heap.size w w' := by
  have hb0 := buildB0
  have hb1 := buildB1
  go_enter Tryd.func48, Tryd.ntmps48
  go_wp2
  go_loopw [3, 4, 5] (fun o r _ wr => ∃ (g cap : Nat) (bs : List UInt8) (rest : Int), o = .slice (some ⟨g, 0, none⟩) bs.length cap ∧ r = .int .i64 rest ∧ OwnB w.heap.size wr g cap bs ∧ Below w.heap.size w wr ∧ DecInv n rest bs ∧ bs.length ≤ 19 ∧ rest.natAbs < 10 ^ (19 - bs.length)) (fun o _ _ _ => 19 - lenV o)
  case atStart => exact ⟨_, 0, [], n, rfl, rfl, ownB_empty w, (Below.refl _ _).alloc (Nat.le_refl _) _, .inl ⟨rfl, rfl⟩, by simp, by simp; omega⟩
  case round =>
    obtain ⟨g, cap, bs, rest, rfl, rfl, ho, hbel, hinv, hlen, hrest⟩ := hrel
    by_cases hc : bs = [] ∨ rest ≠ 0
    · have hstep := hinv.step (rest' := rest.tdiv 10) hc (Int.natAbs_tdiv rest 10)
      have hq0 : (rest.tdiv 10).natAbs = rest.natAbs / 10 := Int.natAbs_tdiv rest 10
      have hm0 : (rest.tmod 10).natAbs = rest.natAbs % 10 := Int.natAbs_tmod rest 10
      have hlen' : bs.length ≤ 18 := by
        by_cases h19 : bs.length = 19
        · exfalso
          rw [h19] at hrest
          rcases hc with h | h
          · rw [h] at h19; simp at h19
          · have : rest.natAbs = 0 := by simpa using hrest
            exact h (by simpa using this)
        · omega
      have hrest' : (rest.tdiv 10).natAbs < 10 ^ (19 - (bs.length + 1)) := by
        rw [hq0]
        have e : 19 - bs.length = (19 - (bs.length + 1)) + 1 := by omega
        rw [e, Nat.pow_succ] at hrest
        exact Nat.div_lt_of_lt_mul (by rw [Nat.mul_comm]; exact hrest)
      have hcond : (((bs.length : Int) == 0) = true) ∨ (((bs.length : Int) == 0) = false ∧ (rest != 0) = true) := by
        by_cases h0 : bs = []
        · left; rw [h0]; rfl
        · right
          rcases hc with h | h
          · exact absurd h h0
          · refine ⟨?_, by simpa using h⟩
            have : bs.length ≠ 0 := fun h => h0 (List.eq_nil_of_length_eq_zero h)
            simp
            omega
      generalize hq : rest.tdiv 10 = q at *
      generalize hm : rest.tmod 10 = m at *
      have hb8 : (UInt8.ofNat (48 + rest.natAbs % 10)).toNat = 48 + m.natAbs := by
        rw [hm0, UInt8.toNat_ofNat']
        omega
      have hm9 : m.natAbs ≤ 9 := by omega
      generalize UInt8.ofNat (48 + rest.natAbs % 10) = b at *
      obtain ⟨g', cap', w', hap, ho', hbel'⟩ := ahead w.heap.size wr g cap bs b 85 (by omega) ho hbel.size
      rw [hb8] at hap
      have hg := ho'.cellAt 0 (by simp)
      clear hg
      have HO := Lib.hid ho'
      have HB := Lib.hid (hbel.trans (hbel'.mono hbel.size))
      have HI := Lib.hid hstep
      have HR := Lib.hid hrest'
      have hqb : q.natAbs < 10 ^ 18 := by
        rw [hq0]
        have h10 : rest.natAbs < 10 ^ 19 := Nat.lt_of_lt_of_le hrest (Nat.pow_le_pow_right (by decide) (by omega))
        omega
      have hq1 : -1000000000000000000 ≤ q := by omega
      have hq2 : q ≤ 1000000000000000000 := by omega
      clear ho hbel hinv ho' hbel' hstep hrest' hq0 hm0 hb8 hrest hc h1 h2 hb0 hqb
      by_cases hneg : m < 0
      · rw [show (((48 + m.natAbs : Nat)) : Int) = 48 + -m by omega] at hap
        have HA := Lib.hid hap
        clear hap
        rcases hcond with h0 | ⟨h0, h0r⟩
        all_goals
          go_wp2_with (first | (at_builtin; refine wpList_append_eq rfl _ _ 85 rfl rfl rfl HA.out ?_))
          exact ⟨⟨g', cap', b :: bs, q, rfl, rfl, HO.out, HB.out, HI.out, by simp; omega, HR.out⟩, by simp [lenV]; omega⟩
      · rw [show (((48 + m.natAbs : Nat)) : Int) = 48 + m by omega] at hap
        have HA := Lib.hid hap
        clear hap
        rcases hcond with h0 | ⟨h0, h0r⟩
        all_goals
          go_wp2_with (first | (at_builtin; refine wpList_append_eq rfl _ _ 85 rfl rfl rfl HA.out ?_))
          exact ⟨⟨g', cap', b :: bs, q, rfl, rfl, HO.out, HB.out, HI.out, by simp; omega, HR.out⟩, by simp [lenV]; omega⟩
    · have hbs : bs ≠ [] := fun h => hc (.inl h)
      have hr0 : rest = 0 := by
        by_cases h : rest = 0
        · exact h
        · exact absurd (.inr h) hc
      subst hr0
      have hdec : Lib.decDigits n.natAbs = bs := by
        rcases hinv with ⟨h, _⟩ | ⟨_, h⟩
        · exact absurd h hbs
        · rw [h]; rfl
      have h0 : ((bs.length : Int) == 0) = false := by
        have : bs.length ≠ 0 := fun h => hbs (List.eq_nil_of_length_eq_zero h)
        simp
        omega
      by_cases hn : n < 0
      · have hit : Lib.itoa n = 45 :: bs := by unfold Lib.itoa; rw [if_pos hn, hdec]
        have HIT := Lib.hid hit
        obtain ⟨g', cap', w', hap, ho', hbel'⟩ := ahead w.heap.size wr g cap bs 45 85 (by omega) ho hbel.size
        have ht := textB ho'
        rw [show (45 :: bs).length = bs.length + 1 from rfl] at ht
        rw [show (((45 : UInt8).toNat : Nat) : Int) = 45 by decide] at hap
        have HA := Lib.hid hap
        have HB := Lib.hid (hbel.trans (hbel'.mono hbel.size))
        have HC := Lib.hid hc
        clear ho hbel hinv ho' hbel' hrest h1 h2 hb0 hc hap hdec hit
        go_wp2_with (first | (at_builtin; refine wpList_append_eq rfl _ _ 85 rfl rfl rfl HA.out ?_))
        go_ret
        exact ⟨by rw [HIT.out]; rfl, HB.out⟩
      · have hit : Lib.itoa n = bs := by
          unfold Lib.itoa
          rw [if_neg hn, ← hdec]
          congr 1
          omega
        have HIT := Lib.hid hit
        have ht := textB ho
        have HB := Lib.hid hbel
        clear ho hbel hinv hrest h1 h2 hb0 hc hdec hit
        go_wp2
        go_ret
        exact ⟨by rw [HIT.out]; rfl, HB.out⟩
end Go.Proofs.YtoafncjmjocaoaaDoor
