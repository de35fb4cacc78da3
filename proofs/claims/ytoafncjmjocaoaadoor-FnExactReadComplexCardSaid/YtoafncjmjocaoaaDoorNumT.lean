/-
  The text of a list of 32-bit numbers, eight hexadecimal digits each: reference, program, and the law's walk.
-/
import Derived.Test.YtoafncjmjocaoaaDoorHexW
import Derived.Test.YtoafncjmjocaoaaDoorEqF
import Derived.Test.YtoafncjmjocaoaaDoorListI
import Derived.Test.YtoafncjmjocaoaaDoorShelf4
import Derived.Lib.Join
import Derived.Laws.Concat
import Derived.ProofKit
import Derived.OpenShut
import Derived.Deep.Slices
import Derived.Lib.LaidTab
import Derived.Lib.TrailingZeros
import Derived.Test.YtoafncjmjocaoaaDoorRows
namespace Go.Proofs.YtoafncjmjocaoaaDoor
open Go Go.RowKit

theorem hexT_len (x : Nat) : (hexT x).length = 8 := hexK_len 8 _
/-- the digits, commas between them. -/
def tf (xs : List Nat) : List UInt8 := Lib.join (xs.map hexT) [44]
def tft (xs : List Nat) : List UInt8 := if xs = [] then [110, 111, 110, 101] else tf xs
theorem tf_one (x : Nat) : tf [x] = hexT x := Lib.join_one _ _
theorem tf_snoc (xs : List Nat) (z : Nat) (h : xs ≠ []) : tf (xs ++ [z]) = tf xs ++ ([44] ++ hexT z) := by
  cases xs with
  | nil => exact absurd rfl h
  | cons x r =>
    unfold tf
    rw [List.cons_append, List.map_cons, List.map_cons, Lib.join_cons, Lib.join_cons]
    simp [Lib.joinTail]
theorem tf_step (xs : List Nat) (k : Nat) (h1 : 1 ≤ k) (h : k < xs.length) : tf (xs.take (k + 1)) = tf (xs.take k) ++ ([44] ++ hexT xs[k]) := by
  rw [List.take_succ_eq_append_getElem h]
  exact tf_snoc _ _ (by
    intro hh
    have h3 : (xs.take k).length = 0 := by rw [hh]; rfl
    rw [List.length_take] at h3
    omega)
theorem tf_len (xs : List Nat) (k : Nat) (hk : k ≤ xs.length) : (tf (xs.take k)).length ≤ 9 * k := by
  induction k with
  | zero => simp [tf, Lib.join_nil]
  | succ k ih =>
    have hi := hexT_len xs[k]
    by_cases h0 : k = 0
    · subst h0
      rw [List.take_succ_eq_append_getElem (by omega)]
      simp only [List.take_zero, List.nil_append]
      rw [tf_one]
      omega
    · have := ih (by omega)
      rw [tf_step xs k (by omega) (by omega)]
      simp only [List.length_append, List.length_cons, List.length_nil]
      omega
theorem cells_ofF {w : World} {a : Option Addr} {xs : List Nat} (h : RowF w a xs) : xs = [] ∨ ∃ b off, a = some ⟨b, off, none⟩ ∧ ∀ i (hi : i < xs.length), w.cell? ⟨b, off + i, none⟩ = some (.float .f32 xs[i]) := by
  cases xs with
  | nil => exact .inl rfl
  | cons x xs => exact .inr h.at
set_option maxHeartbeats 1000000 in
theorem spec_l01NText (a : Option Addr) (c : Nat) (xs : List Nat) (hm : xs.length ≤ 256) (ha : ∀ x ∈ xs, x < 4294967296) (w : World) (hr : RowF w a xs) :
    Calls Tryd.prog 59 #[.slice a xs.length c] w fun e w' => e = .returned (.string ⟨(tft xs).toArray⟩) ∧ Below w.heap.size w w' := by
  rcases cells_ofF hr with rfl | ⟨b, off, rfl, hc⟩
  · go_enter Tryd.func59, Tryd.ntmps59
    go_wp2
    go_ret
    exact ⟨rfl, Below.refl _ _⟩
  by_cases h0 : xs.length = 0
  · obtain rfl := List.eq_nil_of_length_eq_zero h0
    go_enter Tryd.func59, Tryd.ntmps59
    go_wp2
    go_ret
    exact ⟨rfl, Below.refl _ _⟩
  have hpos : 0 < xs.length := by omega
  have hbd : ∀ k (hk : k < xs.length), xs[k] < 4294967296 := fun k hk => ha _ (List.getElem_mem hk)
  have hil : ∀ k (hk : k < xs.length), (hexT xs[k]).length = 8 := fun k hk => hexT_len _
  have hblk : b < w.heap.size := World.block_lt_of_cell? _ _ (hc 0 hpos)
  have hne : ((xs.length : Int) == 0) = false := beq_false_of_ne (by omega)
  have HTX := Lib.hid (tf_len xs)
  have H1 := Lib.hid hc
  have HBD := Lib.hid hbd
  have HIL := Lib.hid hil
  have hc0 : w.cell? ⟨b, off, none⟩ = some (.float .f32 xs[0]) := hc 0 hpos
  have hy1 := Lib.hid (hbd 0 hpos)
  have HT0 : Hid (tf (xs.take 1) = hexT xs[0]) := by
    show _ = _
    rw [List.take_succ_eq_append_getElem hpos]
    exact tf_one _
  clear hc hr hbd hil ha h0
  go_enter Tryd.func59, Tryd.ntmps59
  go_wp2_with (go_at_call 83; refine (spec_l01Hex _ hy1.out _).mono ?_; rintro e w' ⟨rfl, hb⟩; have HB := Lib.hid hb; clear hb)
  go_loopw [3, 4] (fun o i wr => ∃ k : Nat, 1 ≤ k ∧ k ≤ xs.length ∧ o = .string ⟨(tf (xs.take k)).toArray⟩ ∧ i = .int .i64 k ∧ Below w.heap.size w wr) (fun _ i _ => xs.length - (RowKit.intOf i).toNat)
  case atStart => exact ⟨1, Nat.le_refl _, hpos, by rw [HT0.out], rfl, HB.out⟩
  case round =>
    obtain ⟨k, hk1, hk, rfl, rfl, hb⟩ := hrel
    have HB := Lib.hid hb
    by_cases hlt : k < xs.length
    · have h1 := (hb.cell (p := ⟨b, off + k, none⟩) hblk).trans (H1.out k hlt)
      have hl1 := HIL.out k hlt
      have hl2 := HTX.out k hk
      have hx1 := Lib.hid (HBD.out k hlt)
      have HS := Lib.hid (tf_step xs k hk1 hlt)
      clear hb
      go_wp2_with (go_at_call 83; refine (spec_l01Hex _ hx1.out _).mono ?_; rintro e w' ⟨rfl, hb2⟩; have HB2 := Lib.hid (HB.out.trans (hb2.mono HB.out.size)); clear hb2)
      go_roundw
      case rel => exact ⟨k + 1, by omega, by omega, by rw [HS.out, ba_comma], by go_num, HB2.out⟩
      case measure => simp [RowKit.intOf]; omega
    · obtain rfl : k = xs.length := by omega
      clear hb
      go_wp2
      go_ret
      refine ⟨?_, HB.out⟩
      unfold tft
      rw [if_neg (by intro h; rw [h] at hpos; simp at hpos), List.take_length]
      rfl
theorem few_s (a : Option Addr) (c n : Nat) (w : World) : Calls Tryd.prog 58 #[.slice a n c] w (GivesIs w (decide ((n : Int) ≤ 256))) := by
  go_enter Tryd.func58, Tryd.ntmps58
  go_wp2
  go_ret
  exact ⟨rfl, rfl⟩
/-- what the text of numbers is, with its mark. -/
def fw (xs : List Nat) : Bool := decide (xs.length ≤ 256)
theorem spec_NumbersText (a : Option Addr) (c : Nat) (xs : List Nat) (ha : ∀ x ∈ xs, x < 4294967296) (w : World) (hr : RowF w a xs) :
    Calls Tryd.prog 33 #[.slice a xs.length c] w fun e w' => e = .returned (.tuple #[.string ⟨(if fw xs then tft xs else []).toArray⟩, .bool (fw xs)]) ∧ Below w.heap.size w w' := by
  by_cases hl : xs.length ≤ 256
  · have hf : fw xs = true := decide_eq_true hl
    have hd : (!decide ((xs.length : Int) ≤ 256)) = false := by simp; omega
    have HT := Lib.hid (spec_l01NText a c xs hl ha w hr)
    rw [hf, if_pos rfl]
    clear hr hf ha
    go_enter Tryd.func33, Tryd.ntmps33
    go_wp2_with (first
      | (go_at_call 58; refine (few_s _ _ _ _).mono ?_; rintro e w' ⟨rfl, rfl⟩)
      | (go_at_call 59; refine HT.out.mono ?_; rintro e w' ⟨rfl, hb⟩; have HB := Lib.hid hb; clear hb))
    go_ret2
    exact ⟨rfl, HB.out⟩
  · have hf : fw xs = false := decide_eq_false hl
    have hd : (!decide ((xs.length : Int) ≤ 256)) = true := by simp; omega
    rw [hf, if_neg (by decide)]
    clear hr hf ha
    go_enter Tryd.func33, Tryd.ntmps33
    go_wp2_with (first
      | (go_at_call 58; refine (few_s _ _ _ _).mono ?_; rintro e w' ⟨rfl, rfl⟩))
    go_ret2
    exact ⟨rfl, Below.refl _ _⟩
def strF (xs : List Nat) : List ByteArray := xs.map fun n => ⟨(hexT n).toArray⟩
theorem strF_len (xs : List Nat) : (strF xs).length = xs.length := by simp [strF]
theorem strF_step (xs : List Nat) (k : Nat) (h : k < xs.length) : strF (xs.take (k + 1)) = strF (xs.take k) ++ [⟨(hexT xs[k]).toArray⟩] := by
  unfold strF
  rw [List.take_succ_eq_append_getElem h, List.map_append]
  rfl
theorem strF_tf (xs : List Nat) : Lib.join ((strF xs).map (·.data.toList)) [44] = tf xs := by
  unfold tf strF
  rw [List.map_map]
  rfl
theorem orNoneF (B : Nat) (g cap : Nat) (xs : List Nat) (hm : xs.length ≤ 256) (w : World) (ho : OwnS B w g cap (strF xs)) :
    Calls Tryd.prog 82 #[.slice (some ⟨g, 0, none⟩) xs.length cap, .string ⟨#[44]⟩] w fun e w' => e = .returned (.string ⟨(tft xs).toArray⟩) ∧ Below w.heap.size w w' := by
  by_cases h0 : xs = []
  · subst h0
    clear ho
    go_enter Tryd.func82, Tryd.ntmps82
    go_wp2
    go_ret
    exact ⟨rfl, Below.refl _ _⟩
  · have hpos : xs.length ≠ 0 := fun h => h0 (List.eq_nil_of_length_eq_zero h)
    have hne : ((xs.length : Int) == 0) = false := beq_false_of_ne (by omega)
    have hcells : ∀ (j : Nat) x, (strF xs)[j]? = some x → w.cell? ⟨g, 0 + j, none⟩ = some (.string x) := fun j x hj => by
      have hjl := (List.getElem?_eq_some_iff.1 hj).1
      have h1 := World.ownsRow.cellAt ho j (by omega)
      rw [Nat.zero_add, h1]
      simp [sv, hj]
    have hbk : g < w.heap.size := World.block_lt_of_cell? _ _ (hcells 0 _ (List.getElem?_eq_getElem (by rw [strF_len]; omega)))
    have hcap : (strF xs).length ≤ cap := by
      rcases ho.2 with ⟨h, _⟩ | ⟨g', cap', cur, h1, h2, h3, h4, _⟩
      · cases h
      · simp only [Value.slice.injEq] at h1
        omega
    have hlen := tf_len xs xs.length (Nat.le_refl _)
    rw [List.take_length] at hlen
    have HJ := Lib.hid (Tryd.strings_Join g 0 cap (strF xs) ⟨#[44]⟩ w hcells hbk (by rw [strF_len]; omega) hcap (by rw [show (⟨#[44]⟩ : ByteArray).data.toList = [44] from rfl, strF_tf]; omega))
    have HQ : Hid (tft xs = tf xs) := if_neg h0
    have HW := Lib.hid (strF_tf xs)
    have HL := Lib.hid (strF_len xs)
    clear ho hcells hbk hcap hlen h0 hpos
    go_enter Tryd.func82, Tryd.ntmps82
    go_wp2_with (go_at_call 100; rw [← HL.out]; refine HJ.out.mono ?_; rintro e w' ⟨rfl, hb⟩; have HB := Lib.hid hb; clear hb)
    go_ret
    exact ⟨by rw [HQ.out, ← HW.out]; rfl, HB.out⟩
theorem few_i (a : Option Addr) (c n : Nat) (w : World) : Calls Tryd.prog 84 #[.slice a n c] w (GivesIs w (decide ((n : Int) ≤ 256))) := by
  go_enter Tryd.func84, Tryd.ntmps84
  go_wp2
  go_ret
  exact ⟨rfl, rfl⟩
set_option maxHeartbeats 1000000 in
theorem textOfF (a : Option Addr) (c : Nat) (xs : List Nat) (hm : xs.length ≤ 256) (ha : ∀ x ∈ xs, x < 4294967296) (w : World) (hr : RowF w a xs) (hp : Tz w) :
    Calls Tryd.prog 60 #[.slice a xs.length c, .func (.func 61) #[] #[]] w fun e w' => e = .returned (.tuple #[.string ⟨(tft xs).toArray⟩, .bool true]) ∧ Below w.heap.size w w' := by
  have hb0 := buildS0
  have hb1 := buildS1
  have hd : (!decide ((xs.length : Int) ≤ 256)) = false := by simp; omega
  have HON := Lib.hid (fun B g cap w ho => orNoneF B g cap xs hm w ho)
  rcases cells_ofF hr with rfl | ⟨b, off, rfl, hc⟩
  · have HE := Lib.hid (ownS_empty w)
    clear hr hp
    go_enter Tryd.func60, Tryd.ntmps60
    go_wp2_with (first | (go_at_call 84; refine (few_i _ _ _ _).mono ?_; rintro e w' ⟨rfl, hw⟩; have hw2 := hw.symm; subst hw2))
    go_loopw [6, 15] (fun o i wr => o = .slice (some ⟨w.heap.size, 0, none⟩) 0 0 ∧ i = .int .i64 0 ∧ wr = w.alloc (.cells #[] 9)) (fun _ _ _ => 0)
    case atStart => exact ⟨rfl, rfl, rfl⟩
    case round =>
      obtain ⟨rfl, rfl, rfl⟩ := hrel
      go_wp2_with (first | (go_at_call 82; refine (HON.out w.heap.size _ _ _ ?_).mono ?_; exact HE.out; rintro e w' ⟨rfl, hb⟩; have HB := Lib.hid hb; clear hb))
      go_ret2
      exact ⟨rfl, ((Below.refl _ _).alloc (Nat.le_refl _) _).trans (HB.out.mono (by simp))⟩
  · have hbd : ∀ k (hk : k < xs.length), xs[k] < 4294967296 := fun k hk => ha _ (List.getElem_mem hk)
    have H1 := Lib.hid hc
    have HBD := Lib.hid hbd
    have HP := Lib.hid hp
    have HBLK : Hid (∀ k, k < xs.length → b < w.heap.size) := fun k hk => World.block_lt_of_cell? _ _ (hc k hk)
    clear hc hr hbd ha hp
    go_enter Tryd.func60, Tryd.ntmps60
    go_wp2_with (first | (go_at_call 84; refine (few_i _ _ _ _).mono ?_; rintro e w' ⟨rfl, hw⟩; have hw2 := hw.symm; subst hw2))
    go_loopw [6, 15] (fun o i wr => ∃ k g cap : Nat, k ≤ xs.length ∧ o = .slice (some ⟨g, 0, none⟩) k cap ∧ i = .int .i64 k ∧ OwnS w.heap.size wr g cap (strF (xs.take k)) ∧ Below w.heap.size w wr) (fun _ i _ => xs.length - (RowKit.intOf i).toNat)
    case atStart => exact ⟨0, _, 0, Nat.zero_le _, rfl, rfl, ownS_empty w, (Below.refl _ _).alloc (Nat.le_refl _) _⟩
    case round =>
      obtain ⟨k, g, cap, hk, rfl, rfl, ho, hb⟩ := hrel
      have HB := Lib.hid hb
      have HO := Lib.hid ho
      clear ho
      have HK : Hid ((strF (xs.take k)).length = k) := by show _ = _; rw [strF_len, List.length_take]; omega
      by_cases hlt : k < xs.length
      · have h1 := (hb.cell (p := ⟨b, off + k, none⟩) (HBLK.out k hlt)).trans (H1.out k hlt)
        have hx1 := Lib.hid (HBD.out k hlt)
        have HS := Lib.hid (strF_step xs k hlt)
        clear hb hb0
        generalize hx : xs[k] = x at *
        clear hx
        go_wp2_with (first
          | (go_at_call 61
             refine (impl_hex _ hx1.out _ (HP.out.below HB.out)).mono ?_
             rintro e w2 ⟨rfl, hb2⟩
             obtain ⟨g', cap', w3, hap, ho3, hb3⟩ := behind w.heap.size w2 g cap (strF (xs.take k)) ⟨(hexT x).toArray⟩ 74 (by rw [HK.out]; omega) (ownS_below HO.out hb2) (Nat.le_trans HB.out.size hb2.size)
             rw [HK.out] at hap
             have HA := Lib.hid hap
             have HO3 := Lib.hid ho3
             have HB3 := Lib.hid ((HB.out.trans (hb2.mono HB.out.size)).trans hb3)
             clear hap ho3 hb3 hb2)
          | (at_builtin; refine wpList_append_eq rfl _ _ 74 rfl rfl rfl HA.out ?_))
        go_roundw
        case rel => exact ⟨k + 1, g', cap', by omega, rfl, by go_num, by rw [HS.out]; exact HO3.out, HB3.out⟩
        case measure => simp [RowKit.intOf]; omega
      · obtain rfl : k = xs.length := by omega
        clear hb hb0 hb1
        have HO2 : Hid (OwnS w.heap.size ‹World› g cap (strF xs)) := by
          have h := HO.out
          rw [List.take_length] at h
          exact h
        go_wp2_with (first | (go_at_call 82; refine (HON.out w.heap.size _ _ _ ?_).mono ?_; exact HO2.out; rintro e w' ⟨rfl, hb⟩; have HB2 := Lib.hid hb; clear hb))
        go_ret2
        exact ⟨rfl, HB.out.trans (HB2.out.mono HB.out.size)⟩
theorem impl_NumbersText (a : Option Addr) (c : Nat) (xs : List Nat) (ha : ∀ x ∈ xs, x < 4294967296) (w : World) (hr : RowF w a xs) (hp : Tz w) :
    Calls Tryd.prog 35 #[.slice a xs.length c] w fun e w' => e = .returned (.tuple #[.string ⟨(if fw xs then tft xs else []).toArray⟩, .bool (fw xs)]) ∧ Below w.heap.size w w' := by
  by_cases hl : xs.length ≤ 256
  · have hf : fw xs = true := decide_eq_true hl
    have HT := Lib.hid (textOfF a c xs hl ha w hr hp)
    rw [hf, if_pos rfl]
    clear hr hf hp ha
    go_enter Tryd.func35, Tryd.ntmps35
    go_wp2_with (go_at_call 60; refine HT.out.mono ?_; rintro e w' ⟨rfl, hb⟩; have HB := Lib.hid hb; clear hb)
    go_ret2
    exact ⟨rfl, HB.out⟩
  · have hf : fw xs = false := decide_eq_false hl
    have hd : (!decide ((xs.length : Int) ≤ 256)) = true := by simp; omega
    rw [hf, if_neg (by decide)]
    clear hr hf hp ha
    go_enter Tryd.func35, Tryd.ntmps35
    go_wp2_with (first
      | (go_at_call 60; go_in)
      | (go_at_call 84; go_in))
    go_ret2
    exact ⟨rfl, Below.refl _ _⟩
def bitsV : Value → Nat | .float _ b => b | _ => 0
theorem trod_float32 {H : Type} {enc : TypeId × Value → H} {P : Program} {w : World} {base : Nat} {spare : Nat → Bool} {held : Bool} {fuel : Nat} {t : TypeId} {v : Value} {x : DataW H × List MemPlace} (ht : P.underlying t = some (.float .f32)) (h : DataW.trod enc P w base spare held fuel t [v] = some x) : v = .float .f32 (bitsV v) ∧ bitsV v < 4294967296 := by
  cases fuel with
  | zero => simp [DataW.trod] at h
  | succ n =>
    unfold DataW.trod at h
    rw [ht] at h
    split at h <;> simp_all [bitsV]
    subst_vars
    exact of_decide_eq_true h.1.2
theorem row_openF {H : Type} {enc : TypeId × Value → H} {W : World} {base : Nat} {spare : Nat → Bool} {held : Bool} {a : Option Addr} {len cap : Nat} {d : DataW H} {p : List MemPlace} (hc : Tryd.prog.cellsOf 51 = 1)
    (h : DataW.Trod enc Tryd.prog W base spare held 28 (.slice a len cap) d p) : ∃ xs : List Nat, len = xs.length ∧ (∀ x ∈ xs, x < 4294967296) ∧ RowF W a xs := by
  obtain ⟨fuel, hf⟩ := h
  rcases Go.Deep.open_slice1 Tryd.underlying28 hc hf with ⟨hcs, _⟩ | ⟨x, l, c, m, n, V, D, Pl, hcs, _, hl, _, hm, _, hel⟩
  · simp [Value.cells] at hcs
    obtain ⟨_, rfl, _⟩ := hcs
    exact ⟨[], rfl, fun _ h => by simp at h, fun i hi => absurd hi (by simp)⟩
  · simp [Value.cells] at hcs
    obtain ⟨rfl, rfl, rfl⟩ := hcs
    have hlm : len ≤ m := by rw [hm]; split <;> omega
    refine ⟨(List.range len).map (fun i => bitsV (V i)), by simp, fun y hy => ?_, fun i hi => ?_⟩
    · obtain ⟨i, hi, rfl⟩ := List.mem_map.1 hy
      exact (trod_float32 Tryd.underlying51 (hel i (by have := List.mem_range.1 hi; omega)).2).2
    simp at hi
    obtain ⟨hcell, htr⟩ := hel i (by omega)
    rw [(trod_float32 Tryd.underlying51 htr).1] at hcell
    obtain ⟨hcell0, _⟩ := hel 0 (by omega)
    have hs : x.spot = none := by
      cases hx : x.spot with
      | none => rfl
      | some s =>
        have e : x.add 0 = x := by simp [Addr.add]
        rw [e] at hcell0
        unfold World.cell? at hcell0
        rw [hx] at hcell0
        revert hcell0
        split <;> simp
    refine ⟨x.block, x.off, ?_, ?_⟩
    · cases x; simp_all
    · have e : x.add i = ⟨x.block, x.off + i, none⟩ := by
        unfold Addr.add
        split
        · rename_i h0
          subst h0
          cases x; simp_all
        · rfl
      rw [← e, hcell]
      simp
theorem gTz : Tryd.prog.globalNamed "math/bits.deBruijn64tab" = some 8 := by kernel_rfl
theorem tTz : (Tryd.prog.globals[8]?).map (·.type) = some 159 := by kernel_rfl
theorem cTz8 : Tryd.prog.cellsOf 5 = 1 := by kernel_rfl
theorem cTz : Tryd.prog.cellsOf 159 = 64 := by kernel_rfl
theorem tz_data : Rows.laid_math_bits_deBruijn64tab = Lib.tabData .u8 (Lib.deBruijn64tab.map Int.ofNat) (H := Unit) := by kernel_rfl
theorem tz_of_laid {W : World} {rest : List (String × DataW Unit)} (h : laidMet Tryd.prog (("math/bits.deBruijn64tab", Rows.laid_math_bits_deBruijn64tab) :: rest) W) : Tz W := by
  rw [tz_data] at h
  have ht := Lib.tabIs_of_head gTz tTz Tryd.underlying159 Tryd.underlying5 cTz8 cTz h
  exact ht.cell gTz 15 (by decide)
theorem below_drewNF {B : Nat} {a w : World} (h : Below B a w) (n : Nat) : Below B a (w.drewN n) := ⟨h.os, h.tape, h.output, h.size, h.block⟩
def GivesRowF (w0 w : World) (xs : List Nat) (e : Ending) (w' : World) : Prop := ∃ b, e = .returned (.slice (some ⟨b, 0, none⟩) xs.length xs.length) ∧ Below w0.heap.size w0 w' ∧ RowF w' (some ⟨b, 0, none⟩) xs ∧ ∀ a' ys, RowF w a' ys → RowF w' a' ys
theorem copy_midF {w0 : World} {a : Option Addr} {xs : List Nat} (c : Nat) (hl : xs.length ≤ 1048576) (hr : RowF w0 a xs) (w : World) (hb : Below w0.heap.size w0 w) :
    Calls Tryd.prog 34 #[.slice a xs.length c] w (GivesRowF w0 w xs) :=
  (toF_any a c xs hl w (hr.below hb)).mono fun _ _ ⟨b, he, hb', _, hx⟩ => ⟨b, he, hb.trans (hb'.mono hb.size), hx, fun _ _ h => h.below hb'⟩
set_option maxHeartbeats 1000000 in
theorem walk_FnExactNumbersText (a : Option Addr) (c : Nat) (xs : List Nat) (w : World) (hx : (∀ x ∈ xs, x < 4294967296) ∧ RowF w a xs) (hL : laidMet Tryd.prog Rows.fnExactNumbersTextRow.laid w) :
    Calls Tryd.prog 9 #[.slice a xs.length c] w fun e w' => e = .returned (.bool true) ∧ Below w.heap.size w w' := by
  obtain ⟨ha, hr⟩ := hx
  have HA := Lib.hid ha
  clear ha
  by_cases hl : xs.length ≤ 1048576
  · have hd : decide ((xs.length : Int) > 1048576) = false := by simp; omega
    have HP := Lib.hid (tz_of_laid hL.tail)
    have HT := Lib.hid (fun w' hb => copy_midF c hl hr w' hb)
    have HB := Lib.hid (Below.refl w.heap.size w)
    clear hr hL
    go_enter Tryd.func9, Tryd.ntmps9
    go_wp2_with (first
      | (go_at_call 34
         refine (HT.out _ ?_).mono ?_
         first | exact HB.out | exact below_drewNF HB.out _
         rintro e w' ⟨b, rfl, hb, hx, hk⟩
         try have H2 := Lib.hid (hk _ _ H1.out)
         have H1 := Lib.hid hx
         have HB := Lib.hid hb
         clear hb hx hk)
      | (go_at_call 33
         refine (spec_NumbersText _ _ xs HA.out _ ?_).mono ?_
         exact H1.out
         rintro e w' ⟨rfl, hb⟩
         have H1 := Lib.hid (H1.out.below hb)
         have HB := Lib.hid (HB.out.trans (hb.mono HB.out.size))
         clear hb)
      | (go_at_call 35
         refine (impl_NumbersText _ _ xs HA.out _ ?_ ?_).mono ?_
         exact H1.out
         exact HP.out.below HB.out
         rintro e w' ⟨rfl, hb⟩
         have H1 := Lib.hid (H1.out.below hb)
         have HB := Lib.hid (HB.out.trans (hb.mono HB.out.size))
         clear hb)
      | (go_at_call 18
         refine (eqF_any _ _ _ _ xs hl _ ?_ ?_).mono ?_
         exact H2.out
         exact H1.out
         rintro e w' ⟨rfl, n4, rfl⟩))
    all_goals
      go_ret
      exact ⟨rfl, below_drewNF HB.out _⟩
  · have hd : decide ((xs.length : Int) > 1048576) = true := by simp; omega
    clear hr hL
    go_enter Tryd.func9, Tryd.ntmps9
    go_wp2
    go_ret
    exact ⟨rfl, Below.refl _ _⟩
end Go.Proofs.YtoafncjmjocaoaaDoor
