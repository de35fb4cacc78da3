/-
  The text of a list of integers, of the reference.
-/
import Derived.Test.YtoafncjmjocaoaaDoorEqI
import Derived.Test.YtoafncjmjocaoaaDoorRd
import Derived.Test.YtoafncjmjocaoaaDoorDecW
import Derived.Lib.Join
import Derived.Laws.Concat
namespace Go.Proofs.YtoafncjmjocaoaaDoor
open Go Go.RowKit

/-- a number that a list may hold. -/
def inr (n : Int) : Bool := decide (n.natAbs ≤ 1000000000000000)
def okList (xs : List Int) : Bool := xs.all inr && decide (xs.length ≤ 64)
/-- the numerals, commas between them. -/
def tx (xs : List Int) : List UInt8 := Lib.join (xs.map Lib.itoa) [44]
def txt (xs : List Int) : List UInt8 := if xs = [] then [110, 111, 110, 101] else tx xs
theorem tx_one (x : Int) : tx [x] = Lib.itoa x := Lib.join_one _ _
theorem tx_snoc (xs : List Int) (z : Int) (h : xs ≠ []) : tx (xs ++ [z]) = tx xs ++ ([44] ++ Lib.itoa z) := by
  cases xs with
  | nil => exact absurd rfl h
  | cons x r =>
    unfold tx
    rw [List.cons_append, List.map_cons, List.map_cons, Lib.join_cons, Lib.join_cons]
    simp [Lib.joinTail]
theorem tx_step (xs : List Int) (k : Nat) (h1 : 1 ≤ k) (h : k < xs.length) : tx (xs.take (k + 1)) = tx (xs.take k) ++ ([44] ++ Lib.itoa xs[k]) := by
  rw [List.take_succ_eq_append_getElem h]
  exact tx_snoc _ _ (by
    intro hh
    have h3 : (xs.take k).length = 0 := by rw [hh]; rfl
    rw [List.length_take] at h3
    omega)
theorem tx_len (xs : List Int) (ha : xs.all inr = true) (k : Nat) (hk : k ≤ xs.length) : (tx (xs.take k)).length ≤ 18 * k := by
  induction k with
  | zero => simp [tx, Lib.join_nil]
  | succ k ih =>
    have hi : (Lib.itoa xs[k]).length ≤ 17 := (itoa_length (of_decide_eq_true (List.all_eq_true.1 ha _ (List.getElem_mem (by omega))))).2
    by_cases h0 : k = 0
    · subst h0
      rw [List.take_succ_eq_append_getElem (by omega)]
      simp only [List.take_zero, List.nil_append]
      rw [tx_one]
      omega
    · have := ih (by omega)
      rw [tx_step xs k (by omega) (by omega)]
      simp only [List.length_append, List.length_cons, List.length_nil]
      omega
theorem all_takeI (xs : List Int) (k : Nat) (h : k < xs.length) : (xs.take (k + 1)).all inr = ((xs.take k).all inr && inr xs[k]) := by
  rw [List.take_succ_eq_append_getElem h, List.all_append]
  simp
theorem all_notI (xs : List Int) (k : Nat) (h : k < xs.length) (hf : inr xs[k] = false) : xs.all inr = false := by
  rw [List.all_eq_false]
  exact ⟨xs[k], List.getElem_mem h, by rw [hf]; decide⟩
theorem cells_ofI {w : World} {a : Option Addr} {xs : List Int} (h : RowI w a xs) : xs = [] ∨ ∃ b off, a = some ⟨b, off, none⟩ ∧ ∀ i (hi : i < xs.length), w.cell? ⟨b, off + i, none⟩ = some (.int .i64 xs[i]) := by
  cases xs with
  | nil => exact .inl rfl
  | cons x xs => exact .inr h.at
def GivesIs (w : World) (b : Bool) (e : Ending) (w' : World) : Prop := e = .returned (.bool b) ∧ w' = w
set_option maxHeartbeats 400000 in
theorem spec_l01List (a : Option Addr) (c : Nat) (xs : List Int) (hm : xs.length ≤ 1048576) (w : World) (hr : RowI w a xs) :
    Calls Tryd.prog 52 #[.slice a xs.length c] w (GivesIs w (okList xs)) := by
  rcases cells_ofI hr with rfl | ⟨b, off, rfl, hc⟩
  · go_enter Tryd.func52, Tryd.ntmps52
    go_wp2
    go_loopw [3] (fun i wr => i = .int .i64 0 ∧ wr = w) (fun _ _ => 0)
    case atStart => exact ⟨rfl, rfl⟩
    case round =>
      obtain ⟨rfl, rfl⟩ := hrel
      go_wp2
      go_ret
      exact ⟨rfl, rfl⟩
  · have H1 := Lib.hid hc
    clear hc hr
    go_enter Tryd.func52, Tryd.ntmps52
    go_wp2
    go_loopw [3] (fun i wr => ∃ k : Nat, k ≤ xs.length ∧ i = .int .i64 k ∧ wr = w ∧ (xs.take k).all inr = true) (fun i _ => xs.length - (RowKit.intOf i).toNat)
    case atStart => exact ⟨0, Nat.zero_le _, rfl, rfl, rfl⟩
    case round =>
      obtain ⟨k, hk, rfl, rfl, ha⟩ := hrel
      have HA := Lib.hid ha
      clear ha
      by_cases hlt : k < xs.length
      · have h1 := H1.out k hlt
        have HS := Lib.hid (all_takeI xs k hlt)
        have HN := Lib.hid (all_notI xs k hlt)
        generalize hx : xs[k] = x at *
        clear hx
        by_cases hlo : x < -1000000000000000
        · have HI : Hid (inr x = false) := by show inr x = false; unfold inr; exact decide_eq_false (by omega)
          go_wp2_with (go_at_call 79; go_in)
          go_ret
          exact ⟨by unfold okList; rw [HN.out HI.out]; rfl, rfl⟩
        · by_cases hhi : x > 1000000000000000
          · have HI : Hid (inr x = false) := by show inr x = false; unfold inr; exact decide_eq_false (by omega)
            have hlo' : -1000000000000000 ≤ x := by omega
            have hd : decide (x ≤ 1000000000000000) = false := by simp; omega
            go_wp2_with (go_at_call 79; go_in)
            go_ret
            exact ⟨by unfold okList; rw [HN.out HI.out]; rfl, rfl⟩
          · have HI : Hid (inr x = true) := by show inr x = true; unfold inr; exact decide_eq_true (by omega)
            have hlo' : -1000000000000000 ≤ x := by omega
            have hhi' : x ≤ 1000000000000000 := by omega
            go_wp2_with (go_at_call 79; go_in)
            go_roundw
            case rel => exact ⟨k + 1, by omega, by go_num, by simp, by rw [HS.out, HA.out, HI.out]; rfl⟩
            case measure => simp [RowKit.intOf]; omega
      · obtain rfl : k = xs.length := by omega
        go_wp2
        go_ret
        refine ⟨?_, rfl⟩
        have h := HA.out
        rw [List.take_length] at h
        unfold okList
        rw [h]
        simp <;> omega
theorem ba_comma (x y : List UInt8) : (⟨x.toArray⟩ : ByteArray) ++ (⟨#[44]⟩ ++ ⟨y.toArray⟩) = ⟨(x ++ ([44] ++ y)).toArray⟩ := by
  rw [show (⟨#[44]⟩ : ByteArray) = ⟨[44].toArray⟩ from rfl, ByteArray.mk_append_mk, ByteArray.mk_append_mk]
set_option maxHeartbeats 1000000 in
theorem spec_l01Text (a : Option Addr) (c : Nat) (xs : List Int) (hm : xs.length ≤ 64) (ha : xs.all inr = true) (w : World) (hr : RowI w a xs) :
    Calls Tryd.prog 53 #[.slice a xs.length c] w fun e w' => e = .returned (.string ⟨(txt xs).toArray⟩) ∧ Below w.heap.size w w' := by
  rcases cells_ofI hr with rfl | ⟨b, off, rfl, hc⟩
  · go_enter Tryd.func53, Tryd.ntmps53
    go_wp2
    go_ret
    exact ⟨rfl, Below.refl _ _⟩
  by_cases h0 : xs.length = 0
  · obtain rfl := List.eq_nil_of_length_eq_zero h0
    go_enter Tryd.func53, Tryd.ntmps53
    go_wp2
    go_ret
    exact ⟨rfl, Below.refl _ _⟩
  have hpos : 0 < xs.length := by omega
  have hbd : ∀ k (hk : k < xs.length), -1000000000000000 ≤ xs[k] ∧ xs[k] ≤ 1000000000000000 := fun k hk => by
    have := of_decide_eq_true (List.all_eq_true.1 ha _ (List.getElem_mem hk))
    omega
  have hil : ∀ k (hk : k < xs.length), (Lib.itoa xs[k]).length ≤ 17 := fun k hk => (itoa_length (of_decide_eq_true (List.all_eq_true.1 ha _ (List.getElem_mem hk)))).2
  have hblk : b < w.heap.size := World.block_lt_of_cell? _ _ (hc 0 hpos)
  have hne : ((xs.length : Int) == 0) = false := beq_false_of_ne (by omega)
  have HTX := Lib.hid (tx_len xs ha)
  have H1 := Lib.hid hc
  have HBD := Lib.hid hbd
  have HIL := Lib.hid hil
  have hc0 : w.cell? ⟨b, off, none⟩ = some (.int .i64 xs[0]) := hc 0 hpos
  obtain ⟨hy1, hy2⟩ := hbd 0 hpos
  have HT0 : Hid (tx (xs.take 1) = Lib.itoa xs[0]) := by
    show _ = _
    rw [List.take_succ_eq_append_getElem hpos]
    exact tx_one _
  clear hc hr hbd hil ha h0
  go_enter Tryd.func53, Tryd.ntmps53
  go_wp2_with (go_at_call 48; refine (spec_l01Dec _ (by omega) (by omega) _).mono ?_; rintro e w' ⟨rfl, hb⟩; have HB := Lib.hid hb; clear hb)
  go_loopw [3, 4] (fun o i wr => ∃ k : Nat, 1 ≤ k ∧ k ≤ xs.length ∧ o = .string ⟨(tx (xs.take k)).toArray⟩ ∧ i = .int .i64 k ∧ Below w.heap.size w wr) (fun _ i _ => xs.length - (RowKit.intOf i).toNat)
  case atStart => exact ⟨1, Nat.le_refl _, hpos, by rw [HT0.out], rfl, HB.out⟩
  case round =>
    obtain ⟨k, hk1, hk, rfl, rfl, hb⟩ := hrel
    have HB := Lib.hid hb
    by_cases hlt : k < xs.length
    · have h1 := (hb.cell (p := ⟨b, off + k, none⟩) hblk).trans (H1.out k hlt)
      have hl1 := HIL.out k hlt
      have hl2 := HTX.out k hk
      obtain ⟨hx1, hx2⟩ := HBD.out k hlt
      have HS := Lib.hid (tx_step xs k hk1 hlt)
      clear hb
      go_wp2_with (go_at_call 48; refine (spec_l01Dec _ (by omega) (by omega) _).mono ?_; rintro e w' ⟨rfl, hb2⟩; have HB2 := Lib.hid (HB.out.trans (hb2.mono HB.out.size)); clear hb2)
      go_roundw
      case rel => exact ⟨k + 1, by omega, by omega, by rw [HS.out, ba_comma], by go_num, HB2.out⟩
      case measure => simp [RowKit.intOf]; omega
    · obtain rfl : k = xs.length := by omega
      clear hb
      go_wp2
      go_ret
      refine ⟨?_, HB.out⟩
      unfold txt
      rw [if_neg (by intro h; rw [h] at hpos; simp at hpos), List.take_length]
      rfl
theorem spec_ListText (a : Option Addr) (c : Nat) (xs : List Int) (hm : xs.length ≤ 1048576) (w : World) (hr : RowI w a xs) :
    Calls Tryd.prog 30 #[.slice a xs.length c] w fun e w' => e = .returned (.tuple #[.string ⟨(if okList xs then txt xs else []).toArray⟩, .bool (okList xs)]) ∧ Below w.heap.size w w' := by
  have HL := Lib.hid (spec_l01List a c xs hm w hr)
  cases hok : okList xs with
  | true =>
    have h2 : xs.all inr = true ∧ xs.length ≤ 64 := by
      unfold okList at hok
      simpa using hok
    have HT := Lib.hid (spec_l01Text a c xs h2.2 h2.1 w hr)
    clear hr h2
    go_enter Tryd.func30, Tryd.ntmps30
    go_wp2_with (first
      | (go_at_call 52; refine HL.out.mono ?_; rintro e w' ⟨rfl, rfl⟩)
      | (go_at_call 53; refine HT.out.mono ?_; rintro e w' ⟨rfl, hb⟩; have HB := Lib.hid hb; clear hb))
    go_ret2
    exact ⟨rfl, HB.out⟩
  | false =>
    clear hr
    go_enter Tryd.func30, Tryd.ntmps30
    go_wp2_with (first
      | (go_at_call 52; refine HL.out.mono ?_; rintro e w' ⟨rfl, rfl⟩))
    go_ret2
    exact ⟨rfl, Below.refl _ _⟩
end Go.Proofs.YtoafncjmjocaoaaDoor
