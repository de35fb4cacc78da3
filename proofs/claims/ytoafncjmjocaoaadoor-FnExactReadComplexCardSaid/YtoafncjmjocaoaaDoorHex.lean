/-
  The library's hexadecimal text of a number of 32 bits, walked.
-/
import Derived.Test.YtoafncjmjocaoaaDoorDec
import Derived.Laws.Bits64b
namespace Go.Proofs.YtoafncjmjocaoaaDoor
open Go Go.RowKit

/-- a hexadecimal digit. -/
def hexD (d : Nat) : UInt8 := if d < 10 then UInt8.ofNat (48 + d) else UInt8.ofNat (87 + d)
/-- the hexadecimal text of a number, as short as may be. -/
def hexN (n : Nat) : List UInt8 := if n < 16 then [hexD n] else hexN (n / 16) ++ [hexD (n % 16)]
termination_by n
decreasing_by omega
theorem hexN_big {n : Nat} (h : 16 ≤ n) : hexN n = hexN (n / 16) ++ [hexD (n % 16)] := by
  conv => lhs; rw [hexN, if_neg (by omega)]
theorem hexN_small {n : Nat} (h : n < 16) : hexN n = [hexD n] := by rw [hexN, if_pos h]
/-- the hexadecimal text of a number, k digits. -/
def hexK : Nat → Nat → List UInt8
  | 0, _ => []
  | k + 1, n => hexK k (n / 16) ++ [hexD (n % 16)]
theorem hexK_len (k n : Nat) : (hexK k n).length = k := by
  induction k generalizing n with
  | zero => rfl
  | succ k ih => simp [hexK, ih]
theorem hexK_zero (k : Nat) : hexK k 0 = List.replicate k 48 := by
  induction k with
  | zero => rfl
  | succ k ih => rw [hexK, Nat.zero_div, ih, List.replicate_succ']; rfl
theorem hexN_len (k n : Nat) (h : n < 16 ^ (k + 1)) : (hexN n).length ≤ k + 1 := by
  induction k generalizing n with
  | zero => rw [hexN_small (by simpa using h)]; simp
  | succ k ih =>
    by_cases h1 : n < 16
    · rw [hexN_small h1]; simp
    · rw [hexN_big (by omega)]
      have := ih (n / 16) (by rw [Nat.pow_succ] at h; omega)
      simp; omega
theorem hexN_pad (k n : Nat) (h : n < 16 ^ (k + 1)) : List.replicate (k + 1 - (hexN n).length) 48 ++ hexN n = hexK (k + 1) n := by
  induction k generalizing n with
  | zero =>
    have h1 : n < 16 := by simpa using h
    rw [hexN_small h1]; simp [hexK, Nat.mod_eq_of_lt h1]
  | succ k ih =>
    by_cases h1 : n < 16
    · rw [hexN_small h1, hexK, Nat.div_eq_of_lt h1, hexK_zero, Nat.mod_eq_of_lt h1]; simp
    · have h2 := ih (n / 16) (by rw [Nat.pow_succ] at h; omega)
      rw [hexN_big (by omega), hexK, ← h2]
      simp
abbrev digits36 : ByteArray := ⟨#[48, 49, 50, 51, 52, 53, 54, 55, 56, 57, 97, 98, 99, 100, 101, 102, 103, 104, 105, 106, 107, 108, 109, 110, 111, 112, 113, 114, 115, 116, 117, 118, 119, 120, 121, 122]⟩
theorem digits36_at : ∀ d : Fin 16, (digits36[d.val]'(by have h := d.isLt; show _ < 36; omega)).toNat = (hexD d.val).toNat := by decide +kernel
theorem digit_nat36 (d : Nat) (hd : d < 16) (h : d < digits36.size) : (digits36[d]'h).toNat = (hexD d).toNat := digits36_at ⟨d, hd⟩
/-- the library's array of 65 bytes, its last bytes written. -/
def OwnA (w : World) (g : Nat) (ds : List UInt8) : Prop := w.ownsRow g 131 1 (.slice (some ⟨g, 0, none⟩) 65 65) 65 (List.replicate (65 - ds.length) (.int .u8 0) ++ bv ds)
theorem ownA_set {w : World} {g : Nat} {ds : List UInt8} (b : UInt8) (p : Nat) (hp : p + 1 + ds.length = 65) (h : OwnA w g ds) : OwnA (w.setCell ⟨g, p, none⟩ (.int .u8 (b.toNat : Int))) g (b :: ds) := by
  have h1 := (World.ownsRow.stored h p (.int .u8 (b.toNat : Int))).1
  unfold OwnA
  have e : (List.replicate (65 - ds.length) (Value.int .u8 0) ++ bv ds).set p (.int .u8 (b.toNat : Int)) = List.replicate (65 - (b :: ds).length) (.int .u8 0) ++ bv (b :: ds) := by
    rw [show 65 - ds.length = p + 1 by omega, show 65 - (b :: ds).length = p by simp; omega, List.replicate_succ', List.append_assoc, List.set_append_right _ _ (by simp)]
    simp [bv]
  rw [e] at h1
  exact h1
theorem ownA_new (w : World) : OwnA (w.alloc (.cells Tryd.zeroCells131 131)) w.heap.size [] :=
  World.ownsRow_lit (base := w.heap.size) (e := 131) (size := 1) w Tryd.zeroCells131 65 (Nat.le_refl _) (by decide) (by decide +kernel)
theorem ownA_cell {w : World} {g : Nat} {ds : List UInt8} (p : Nat) (hp : p + 1 + ds.length = 65) (h : OwnA w g ds) : w.cell? ⟨g, p, none⟩ = some (.int .u8 0) := by
  rw [World.ownsRow.cellAt h p (by omega), List.getElem?_append_left (by simp; omega)]
  rw [List.getElem?_replicate, if_pos (by omega)]
theorem ownA_text {w : World} {g : Nat} {ds : List UInt8} (p : Nat) (hp : p + ds.length = 65) (h : OwnA w g ds) :
    (convert 85 9 (.slice (some ⟨g, p, none⟩) ds.length ds.length)).run Tryd.prog w = .ok (.string ⟨ds.toArray⟩) w := by
  refine run_convert_bytes_back w 85 9 5 ⟨g, p, none⟩ ds.length ds Tryd.underlying85 Tryd.underlying5 Tryd.underlying9 ?_
  intro j hj
  rw [show ((⟨g, p, none⟩ : Addr).add j) = ⟨g, p + j, none⟩ by unfold Addr.add; split <;> simp_all]
  rw [World.ownsRow.cellAt h (p + j) (by omega), List.getElem?_append_right (by simp; omega)]
  simp [bv, show p + j - (65 - ds.length) = j by omega, hj]
theorem bits_div (u : Nat) (hu : u < 18446744073709551616) : bits .and .u64 (u : Int) 15 = ((u % 16 : Nat) : Int) := by
  rw [show (15 : Int) = ((15 : Nat) : Int) from rfl, bits_and_u64_nat u 15 hu (by decide), show (15 : Nat) = 2 ^ 4 - 1 from rfl, Nat.and_two_pow_sub_one_eq_mod]
theorem isPow16 (w : World) : Calls Tryd.prog 119 #[.int .i64 16] w fun e w' => e = .returned (.bool true) ∧ w' = w := by
  have h1 : bits .and .i64 16 15 = 0 := by decide +kernel
  go_enter Tryd.func119, Tryd.ntmps119
  go_wp2
  go_ret
  exact ⟨rfl, rfl⟩
theorem tz16 (w : World) (ht : w.cell? ⟨8, 15, none⟩ = some (.int .u8 4)) : Calls Tryd.prog 120 #[.int .u64 16] w fun e w' => e = .returned (.int .i64 4) ∧ w' = w := by
  have h1 : IntKind.u64.wrap (bits .and .u64 16 (IntKind.u64.wrap (-16)) * 285870213051353865) / 288230376151711744 = 15 := by decide +kernel
  have h2 : bits .and .u64 16 18446744073709551600 = 16 := by decide +kernel
  go_enter Tryd.func120, Tryd.ntmps120
  go_wp2_with (go_at_call 136; go_in)
  go_ret
  exact ⟨rfl, rfl⟩
set_option maxHeartbeats 1000000 in
set_option maxRecDepth 100000 in
theorem formatBits16 (u : Nat) (hu : u < 4294967296) (w : World) (ht : w.cell? ⟨8, 15, none⟩ = some (.int .u8 4)) :
    Calls Tryd.prog 95 #[.slice none 0 0, .int .u64 u, .int .i64 16, .bool false, .bool false] w fun e w' => e = .returned (.tuple #[.slice none 0 0, .string ⟨(hexN u).toArray⟩]) ∧ Below w.heap.size w w' := by
  have hlt : 8 < w.heap.size := World.block_lt_of_cell? _ _ ht
  have h1 : ∀ o, (w.alloc o).cell? ⟨8, 15, none⟩ = some (.int .u8 4) := fun o => by rw [World.cell?_alloc_lt _ _ _ hlt, ht]
  have H1 := Lib.hid h1
  clear ht h1
  go_enter Tryd.func95, Tryd.ntmps95
  go_wp2_with (first
    | (go_at_call 119; refine (isPow16 _).mono ?_; rintro e w' ⟨rfl, rfl⟩)
    | (go_at_call 120; refine (tz16 _ (H1.out _)).mono ?_; rintro e w' ⟨rfl, rfl⟩))
  go_loopw [1, 13] (fun o r wr => ∃ (ds : List UInt8) (u' p : Nat), o = .int .u64 u' ∧ r = .int .i64 p ∧ p + ds.length = 65 ∧ OwnA wr w.heap.size ds ∧ Below w.heap.size w wr ∧ hexN u = hexN u' ++ ds ∧ ds.length ≤ 7 ∧ u' < 16 ^ (8 - ds.length)) (fun _ r _ => (RowKit.intOf r).toNat)
  case atStart => exact ⟨[], u, 65, rfl, rfl, rfl, ownA_new w, (Below.refl _ _).alloc (Nat.le_refl _) _, by simp, by simp, by simpa using hu⟩
  case round =>
    obtain ⟨ds, u', p, rfl, rfl, hp, ho, hb, hx, hl, hu'⟩ := hrel
    have hu64 : u' < 4294967296 := Nat.lt_of_lt_of_le hu' (by rw [show 4294967296 = 16 ^ 8 from rfl]; exact Nat.pow_le_pow_right (by decide) (by omega))
    obtain ⟨q, rfl⟩ : ∃ q, p = q + 1 := ⟨p - 1, by omega⟩
    have hc := ownA_cell q (by omega) ho
    have hf := World.ownsRow.frozenAt ho q
    have HB := Lib.hid hb
    have HX := Lib.hid hx
    have hq64 : q ≤ 64 := by omega
    by_cases hge : 16 ≤ u'
    · have hd : decide ((16 : Int) ≤ (u' : Int)) = true := by simp; omega
      have hand := bits_div u' (by omega)
      have HS : Hid (∀ h, OwnA (wr.setCell ⟨w.heap.size, q, none⟩ (.int .u8 (((digits36[u' % 16]'h).toNat : Nat) : Int))) w.heap.size (hexD (u' % 16) :: ds)) := by
        intro h
        rw [digit_nat36 _ (Nat.mod_lt _ (by decide))]
        exact ownA_set (hexD (u' % 16)) q (by omega) ho
      have HX2 : Hid (hexN u = hexN (u' / 16) ++ (hexD (u' % 16) :: ds)) := by
        show _ = _
        rw [hx, hexN_big hge]; simp
      have HLen : Hid (ds.length + 1 ≤ 7 ∧ u' / 16 < 16 ^ (8 - (ds.length + 1))) := by
        have h7 : ds.length + 1 ≤ 7 := by
          by_cases h : ds.length = 7
          · rw [h] at hu'; omega
          · omega
        refine ⟨h7, ?_⟩
        rw [show 8 - ds.length = (8 - (ds.length + 1)) + 1 by omega, Nat.pow_succ] at hu'
        omega
      clear ho hb hx hl hu'
      go_wp2
      exact ⟨⟨_, u' / 16, q, by go_num, rfl, by rw [List.length_cons]; omega, HS.out _, HB.out.setCell (Nat.le_refl _) _, HX2.out, HLen.out.1, HLen.out.2⟩, by simp [RowKit.intOf]⟩
    · have hd : decide ((16 : Int) ≤ (u' : Int)) = false := by simp; omega
      have h16 : u' < 16 := by omega
      have HS : Hid (∀ h, OwnA (wr.setCell ⟨w.heap.size, q, none⟩ (.int .u8 (((digits36[u']'h).toNat : Nat) : Int))) w.heap.size (hexN u)) := by
        intro h
        rw [digit_nat36 _ h16, hx, hexN_small h16]
        show OwnA _ _ (hexD u' :: ds)
        exact ownA_set (hexD u') q (by omega) ho
      have hlen : q + (hexN u).length = 65 := by rw [hx, hexN_small h16, List.length_append, List.length_singleton]; omega
      have hsl : ∀ W, (Instr.sliceAt 131 (.pointer (some ⟨w.heap.size, 0, none⟩)) (some (.int .i64 (q : Int))) none none).run Tryd.prog W = .ok (.slice (some ⟨w.heap.size, q, none⟩) (hexN u).length (hexN u).length) W := fun W => by
        have hal : Tryd.prog.arrayLen 131 = 65 := by simp [Program.arrayLen, Tryd.underlying131]
        have hel : Tryd.prog.elem 131 = 5 := by simp [Program.elem, Tryd.underlying131]
        obtain ⟨i, hi, hz, hs, hb⟩ := info_partsB
        rw [run_sliceAt_array_l W 131 ⟨w.heap.size, 0, none⟩ (by simp [Program.arrayLen, Program.elem, Tryd.underlying131]) .i64 (q : Int) (by omega) (by rw [hal]; omega), hal, hel]
        have e : 65 - q = (hexN u).length := by omega
        simp [sizeOf, typeInfo, hi, hs, slicedAt, Addr.add, e]
        rw [if_neg (by omega), if_neg (by omega)]
      have hcv : ∀ h, (convert 85 9 (.slice (some ⟨w.heap.size, q, none⟩) (hexN u).length (hexN u).length)).run Tryd.prog (wr.setCell ⟨w.heap.size, q, none⟩ (.int .u8 (((digits36[u']'h).toNat : Nat) : Int))) = .ok (.string ⟨(hexN u).toArray⟩) (wr.setCell ⟨w.heap.size, q, none⟩ (.int .u8 (((digits36[u']'h).toNat : Nat) : Int))) := fun h => ownA_text q hlen (HS.out h)
      clear ho hb hx hl hu'
      go_wp2
      go_ret2
      exact ⟨rfl, HB.out.setCell (Nat.le_refl _) _⟩
theorem FormatInt16 (u : Nat) (hu : u < 4294967296) (w : World) (ht : w.cell? ⟨8, 15, none⟩ = some (.int .u8 4)) :
    Calls Tryd.prog 49 #[.int .i64 u, .int .i64 16] w fun e w' => e = .returned (.string ⟨(hexN u).toArray⟩) ∧ Below w.heap.size w w' := by
  have hd : decide ((u : Int) < 0) = false := by simp
  have hw : IntKind.u64.wrap (u : Int) = (u : Int) := by rw [IntKind.wrap_u64]; omega
  have HT := Lib.hid ht
  clear ht
  go_enter Tryd.func49, Tryd.ntmps49
  go_wp2_with (first
    | (go_at_call 71; go_in)
    | (go_at_call 95; refine (formatBits16 _ hu _ HT.out).mono ?_; rintro e w' ⟨rfl, hb⟩; have HB := Lib.hid hb; clear hb))
  go_ret
  exact ⟨rfl, HB.out⟩
end Go.Proofs.YtoafncjmjocaoaaDoor
