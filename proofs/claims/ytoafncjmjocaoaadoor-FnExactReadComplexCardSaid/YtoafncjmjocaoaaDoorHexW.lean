/-
  The program's and the reference's hexadecimal text of a 32-bit number's bits, walked: both are the eight digits.
-/
import Derived.Test.YtoafncjmjocaoaaDoorHex
import Derived.Test.YtoafncjmjocaoaaDoorSame
import Derived.Test.YtoafncjmjocaoaaDoorShelf6
import Derived.Laws.Externs
namespace Go.Proofs.YtoafncjmjocaoaaDoor
open Go Go.RowKit

theorem Bits32 (b : Nat) (w : World) : (callFunc 90 #[.float .f32 b]).run Tryd.prog w = .ok (.value (.int .u32 b)) w := by
  rw [run_callFunc_extern Tryd.func90 (by kernel_rfl) (by kernel_rfl) (by kernel_rfl) (e := Extern.MathFloatBits.float32bits) (by kernel_rfl)]
  rfl
/-- the bits of a number, one pattern for each not-a-number. -/
def bitsN (x : Nat) : Nat := if isN .f32 x then 2143289344 else x
theorem bitsN_nan {x : Nat} (h : isN .f32 x = true) : bitsN x = 2143289344 := by unfold bitsN; rw [if_pos h]
theorem bitsN_num {x : Nat} (h : isN .f32 x = false) : bitsN x = x := by unfold bitsN; rw [h]; rfl
theorem bitsN_lt {x : Nat} (h : x < 4294967296) : bitsN x < 4294967296 := by unfold bitsN; split <;> omega
def GivesNb (w : World) (n : Nat) (e : Ending) (w' : World) : Prop := e = .returned (.int .i64 (n : Int)) ∧ w' = w
theorem ret_n {a : Int} {b : Nat} (h : (b : Int) = a) : Ending.returned (.int .i64 a) = Ending.returned (.int .i64 (b : Int)) := by rw [h]
theorem spec_l01Bits (x : Nat) (hx : (x : Int) < 4294967296) (w : World) : Calls Tryd.prog 67 #[.float .f32 x] w (GivesNb w (bitsN x)) := by
  have hb := Bits32 x
  by_cases hn : isN .f32 x = true
  · have h := neq_nan hn
    have e := Lib.hid (bitsN_nan hn)
    clear hn
    go_enter Tryd.func67, Tryd.ntmps67
    go_wp2
    go_ret
    exact ⟨ret_n (by rw [e.out]; rfl), rfl⟩
  · have hn' : isN .f32 x = false := by simpa using hn
    have h := neq_num hn'
    have e := Lib.hid (bitsN_num hn')
    clear hn hn'
    go_enter Tryd.func67, Tryd.ntmps67
    go_wp2
    go_ret
    exact ⟨ret_n (by rw [e.out]), rfl⟩
theorem impl_BitsOf (x : Nat) (hx : (x : Int) < 4294967296) (w : World) : Calls Tryd.prog 85 #[.float .f32 x] w (GivesNb w (bitsN x)) := by
  have hb := Bits32 x
  by_cases hn : isN .f32 x = true
  · have h := neq_nan hn
    have e := Lib.hid (bitsN_nan hn)
    clear hn
    go_enter Tryd.func85, Tryd.ntmps85
    go_wp2
    go_ret
    exact ⟨ret_n (by rw [e.out]; rfl), rfl⟩
  · have hn' : isN .f32 x = false := by simpa using hn
    have h := neq_num hn'
    have e := Lib.hid (bitsN_num hn')
    clear hn hn'
    go_enter Tryd.func85, Tryd.ntmps85
    go_wp2
    go_ret
    exact ⟨ret_n (by rw [e.out]), rfl⟩
/-- the library's table of places holds what its text lays, at the one entry that is read. -/
def Tz (w : World) : Prop := w.cell? ⟨8, 15, none⟩ = some (.int .u8 4)
theorem Tz.below {w w' : World} (h : Tz w) (hb : Below w.heap.size w w') : Tz w' := (hb.cell (p := ⟨8, 15, none⟩) (World.block_lt_of_cell? _ _ h)).trans h
theorem repeat_one (b : UInt8) (n : Nat) : Lib.repeatL [b] n = List.replicate n b := by
  induction n with
  | zero => rfl
  | succ n ih => rw [Lib.repeatL, ih]; rfl
/-- the text of a number's bits. -/
def hexT (x : Nat) : List UInt8 := hexK 8 (bitsN x)
theorem cat_rep (r : Nat) (b : UInt8) (hs : List UInt8) : (⟨Array.replicate r b⟩ : ByteArray) ++ ⟨hs.toArray⟩ = ⟨(List.replicate r b ++ hs).toArray⟩ := by
  apply ByteArray.ext
  rw [ByteArray.data_append]
  simp
theorem hex_core (x n r : Nat) (hs : List UInt8) (w : World) (HX : Hid (∀ w, Calls Tryd.prog 85 #[.float .f32 x] w (GivesNb w n))) (HT : Hid (Tz w))
    (HF : Hid (∀ w, Tz w → Calls Tryd.prog 49 #[.int .i64 n, .int .i64 16] w fun e w' => e = .returned (.string ⟨hs.toArray⟩) ∧ Below w.heap.size w w'))
    (HS : Hid (∀ w, Calls Tryd.prog 86 #[.string ⟨#[48]⟩, .int .i64 r] w fun e w' => e = .returned (.string ⟨(List.replicate r 48).toArray⟩) ∧ Below w.heap.size w w'))
    (hc : (8 : Int) - (hs.length : Int) = (r : Int)) :
    Calls Tryd.prog 61 #[.float .f32 x] w fun e w' => e = .returned (.string ⟨(List.replicate r 48 ++ hs).toArray⟩) ∧ Below w.heap.size w w' := by
  go_enter Tryd.func61, Tryd.ntmps61
  go_wp2_with (first
    | (go_at_call 85; refine (HX.out _).mono ?_; rintro e w' ⟨rfl, hw⟩; have hw2 := hw.symm; subst hw2)
    | (go_at_call 49; refine (HF.out _ HT.out).mono ?_; rintro e w' ⟨rfl, hb⟩; have HB := Lib.hid hb; clear hb)
    | (go_at_call 86; refine (HS.out _).mono ?_; rintro e w' ⟨rfl, hb⟩; have HB2 := Lib.hid hb; clear hb))
  go_ret
  refine ⟨?_, HB.out.trans (HB2.out.mono HB.out.size)⟩
  show Ending.returned (Value.string (⟨Array.replicate r 48⟩ ++ ⟨hs.toArray⟩)) = _
  rw [cat_rep]
theorem impl_hex (x : Nat) (hx : x < 4294967296) (w : World) (ht : Tz w) :
    Calls Tryd.prog 61 #[.float .f32 x] w fun e w' => e = .returned (.string ⟨(hexT x).toArray⟩) ∧ Below w.heap.size w w' := by
  have hb := bitsN_lt hx
  have hl := hexN_len 7 (bitsN x) hb
  have h := hex_core x (bitsN x) (8 - (hexN (bitsN x)).length) (hexN (bitsN x)) w (Lib.hid fun w => impl_BitsOf x (by omega) w) (Lib.hid ht) (Lib.hid fun w ht => FormatInt16 (bitsN x) hb w ht)
    (Lib.hid fun w => (Tryd.strings_Repeat ⟨#[48]⟩ (8 - (hexN (bitsN x)).length) w (by omega) (by show 1 * _ ≤ _; omega)).mono fun e w' ⟨h1, h2⟩ => ⟨by rw [h1]; congr 4; exact repeat_one 48 _, h2⟩) (by omega)
  have hp := hexN_pad 7 (bitsN x) hb
  rw [show 7 + 1 - (hexN (bitsN x)).length = 8 - (hexN (bitsN x)).length from rfl] at hp
  rw [hp] at h
  exact h
theorem ownB_below {B : Nat} {w w' : World} {g cap : Nat} {xs : List UInt8} (h : OwnB B w g cap xs) (hb : Below w.heap.size w w') : OwnB B w' g cap xs := by
  refine ⟨h.1, ?_⟩
  rcases h.2 with h0 | ⟨g', cap', cur, h1, h2, h3, h4⟩
  · exact .inl h0
  · refine .inr ⟨g', cap', cur, h1, h2, ?_, h4⟩
    have hlt : g' < w.heap.size := by
      rcases Nat.lt_or_ge g' w.heap.size with h' | h'
      · exact h'
      · rw [Array.getElem?_eq_none h'] at h3; cases h3
    rw [hb.block g' hlt, h3]
theorem ownB_ge {B : Nat} {w : World} {g cap : Nat} {xs : List UInt8} (h : OwnB B w g cap xs) : B ≤ g := by
  rcases h.2 with ⟨h0, _⟩ | ⟨g', cap', cur, h1, h2, _⟩
  · cases h0
  · simp only [Value.slice.injEq, Option.some.injEq, Addr.mk.injEq] at h1
    omega
/-- one more byte behind those. -/
theorem behindB (B : Nat) (w : World) (g cap : Nat) (xs : List UInt8) (s : UInt8) (ty : TypeId) (hlen : xs.length ≤ 2000000) (ho : OwnB B w g cap xs) (hB : B ≤ w.heap.size) :
    ∃ g' cap' w', (Builtin.append_ #[85, 85] ty #[.slice (some ⟨g, 0, none⟩) xs.length cap, .slice (some ⟨w.heap.size, 0, none⟩) 1 1]).run Tryd.prog (w.alloc (.cells #[.int .u8 (s.toNat : Int)] 5)) = .ok (.slice (some ⟨g', 0, none⟩) (xs.length + 1) cap') w' ∧
      OwnB B w' g' cap' (xs ++ [s]) ∧ Below B w w' ∧ ∀ k, k < w.heap.size → k ≠ g → w'.heap[k]? = w.heap[k]? := by
  obtain ⟨i, hi, hz, hs, hb⟩ := info_partsB
  have hbel : Below w.heap.size w (w.alloc (.cells #[.int .u8 (s.toNat : Int)] 5)) := (Below.refl _ _).alloc (Nat.le_refl _) _
  obtain ⟨v', w', hr, hown, hgr, hn⟩ := run_append_own (P := Tryd.prog) (w.alloc (.cells #[.int .u8 (s.toNat : Int)] 5)) B 85 ty 5 i (.int .u8 0) 1 1 Tryd.underlying85 hi hz hs hb rfl (by decide)
    _ xs.length _ (ownB_below ho hbel) ⟨w.heap.size, 0, none⟩ 1 1 [.int .u8 (s.toNat : Int)] rfl (cell_one_new _ _ _) (fun u hu => by simp at hu; subst hu; rfl) (by simp only [maxLen]; omega) (by omega) (by simp; omega)
  have hne : v' ≠ .slice none 0 0 := fun h => by simpa using (hn.1 h).2
  have hg0 := ownB_ge ho
  rcases hown.2 with ⟨h0, _⟩ | ⟨g', cap', cur, rfl, hbg, hg, hnc, hcm, hcs, htake⟩
  · exact absurd h0 hne
  · refine ⟨g', cap', w', hr, ?_, ?_, ?_⟩
    · refine ⟨by simp [bv], .inr ⟨g', cap', cur, by simp, hbg, hg, by simpa using hnc, hcm, hcs, ?_⟩⟩
      simpa [bv] using htake
    · refine Below.grown ((Below.refl _ _).alloc hB _) hgr (by simp; omega) ?_
      intro k hk
      simp [Value.ownBlock] at hk
      omega
    · intro k hk hne
      rw [hgr.block k (by simp; omega) (by simp [Value.ownBlock]; exact hne)]
      exact hbel.block k hk
abbrev digits16 : ByteArray := ⟨#[48, 49, 50, 51, 52, 53, 54, 55, 56, 57, 97, 98, 99, 100, 101, 102]⟩
theorem digits16_at : ∀ d : Fin 16, (digits16[d.val]'(by have h := d.isLt; show _ < 16; omega)).toNat = (hexD d.val).toNat := by decide +kernel
theorem digit_nat16 (d : Nat) (hd : d < 16) (h : d < digits16.size) : (digits16[d]'h).toNat = (hexD d).toNat := digits16_at ⟨d, hd⟩
theorem and15 (n : Nat) (hn : n < 9223372036854775808) : bits .and .i64 (n : Int) 15 = ((n % 16 : Nat) : Int) := by
  have hx : n &&& 15 < 2 ^ 63 := Nat.and_lt_two_pow _ (by omega)
  have h : bits .and .i64 (n : Int) ((15 : Nat) : Int) = ((n &&& 15 : Nat) : Int) := by
    show IntKind.i64.wrap ((BitVec.ofInt 64 (n : Int) &&& BitVec.ofInt 64 ((15 : Nat) : Int)).toNat : Int) = _
    have e : (BitVec.ofInt 64 (n : Int)).toNat = n := by rw [BitVec.ofInt_natCast, BitVec.toNat_ofNat]; exact Nat.mod_eq_of_lt (by omega)
    have e2 : (BitVec.ofInt 64 ((15 : Nat) : Int)).toNat = 15 := by rw [BitVec.ofInt_natCast, BitVec.toNat_ofNat]
    rw [BitVec.toNat_and, e, e2, IntKind.wrap_i64]
    omega
  rw [show (15 : Int) = ((15 : Nat) : Int) from rfl, h, show (15 : Nat) = 2 ^ 4 - 1 from rfl, Nat.and_two_pow_sub_one_eq_mod]
theorem hexStep (B : Nat) (w wr : World) (g cap i j n : Nat) (c : Nat) (ty : TypeId) (hj : j + (i + 1) = 8) (hc : c = 16 ^ i) (ho : OwnB B wr g cap (hexK (8 - (i + 1)) (n / 16 ^ (i + 1)))) (hbel : Below B w wr) (hBs : B ≤ wr.heap.size) :
    ∃ g' cap' w', (∀ h, (Builtin.append_ #[85, 85] ty #[.slice (some ⟨g, 0, none⟩) j cap, .slice (some ⟨wr.heap.size, 0, none⟩) 1 1]).run Tryd.prog (wr.alloc (.cells #[.int .u8 (((digits16[n / c % 16]'h).toNat : Nat) : Int)] 5)) = .ok (.slice (some ⟨g', 0, none⟩) (j + 1) cap') w') ∧
      OwnB B w' g' cap' (hexK (8 - i) (n / 16 ^ i)) ∧ Below B w w' := by
  subst hc
  have hlen : (hexK (8 - (i + 1)) (n / 16 ^ (i + 1))).length = j := by rw [hexK_len]; omega
  obtain ⟨g', cap', w', h1, h2, h3, _⟩ := behindB B wr g cap (hexK (8 - (i + 1)) (n / 16 ^ (i + 1))) (hexD (n / 16 ^ i % 16)) ty (by omega) ho hBs
  rw [hlen] at h1
  refine ⟨g', cap', w', fun h => ?_, ?_, hbel.trans h3⟩
  · rw [digit_nat16 _ (Nat.mod_lt _ (by decide))]
    exact h1
  · rw [show 8 - i = (8 - (i + 1)) + 1 by omega, hexK, Nat.div_div_eq_div_mul, ← Nat.pow_succ]
    exact h2
theorem hexText {B : Nat} {wr : World} {g cap n : Nat} (ho : OwnB B wr g cap (hexK (8 - 0) (n / 16 ^ 0))) : (convert 85 9 (.slice (some ⟨g, 0, none⟩) 8 cap)).run Tryd.prog wr = .ok (.string ⟨(hexK 8 n).toArray⟩) wr := by
  rw [Nat.pow_zero, Nat.div_one] at ho
  have h := textB ho
  rw [hexK_len] at h
  exact h
set_option maxRecDepth 100000 in
set_option maxHeartbeats 1000000 in
theorem spec_l01Hex (x : Nat) (hx : x < 4294967296) (w : World) :
    Calls Tryd.prog 83 #[.float .f32 x] w fun e w' => e = .returned (.string ⟨(hexT x).toArray⟩) ∧ Below w.heap.size w w' := by
  have hn := bitsN_lt hx
  have HX : Hid (∀ w, Calls Tryd.prog 67 #[.float .f32 x] w (GivesNb w (bitsN x))) := fun w => spec_l01Bits x (by omega) w
  unfold hexT
  generalize bitsN x = n at *
  have hb0 := buildB0
  have hb1 := buildB1
  clear hx
  go_enter Tryd.func83, Tryd.ntmps83
  go_wp2_with (go_at_call 67; refine (HX.out _).mono ?_; rintro e w' ⟨rfl, hw⟩; have hw2 := hw.symm; subst hw2)
  go_loopw [4, 5] (fun o r wr => ∃ (i g cap : Nat), i ≤ 8 ∧ o = .slice (some ⟨g, 0, none⟩) (8 - i) cap ∧ r = .int .i64 (4 * (i : Int) - 4) ∧ OwnB w.heap.size wr g cap (hexK (8 - i) (n / 16 ^ i)) ∧ Below w.heap.size w wr) (fun _ r _ => (RowKit.intOf r + 4).toNat)
  case atStart => exact ⟨8, _, 0, Nat.le_refl _, rfl, rfl, ownB_empty w, (Below.refl _ _).alloc (Nat.le_refl _) _⟩
  case round =>
    obtain ⟨i, g, cap, hi, rfl, rfl, ho, hb⟩ := hrel
    have HB := Lib.hid hb
    have HO := Lib.hid ho
    clear hb ho
    have hcs : i = 0 ∨ i = 1 ∨ i = 2 ∨ i = 3 ∨ i = 4 ∨ i = 5 ∨ i = 6 ∨ i = 7 ∨ i = 8 := by omega
    rcases hcs with rfl | rfl | rfl | rfl | rfl | rfl | rfl | rfl | rfl
    case inl =>
      have HT := Lib.hid (hexText HO.out)
      have ht := HT.out
      go_wp2
      go_ret
      exact ⟨rfl, HB.out⟩
    case inr.inl =>
      have hand : bits .and .i64 ((n : Int)) 15 = ((n % 16 : Nat) : Int) := and15 n (by omega)
      obtain ⟨g', cap', w', h1, h2, h3⟩ := hexStep w.heap.size w _ g cap 0 7 n 1 85 rfl rfl HO.out HB.out HB.out.size
      simp only [Nat.div_one] at h1
      have HA := Lib.hid h1
      have HO2 := Lib.hid h2
      have HB2 := Lib.hid h3
      obtain ⟨d, hd⟩ : ∃ d, n % 16 = d := ⟨_, rfl⟩
      have hd16 : d < 16 := by omega
      rw [hd] at hand
      have HA : Hid (∀ h, (Builtin.append_ #[85, 85] 85 #[.slice (some ⟨g, 0, none⟩) 7 cap, .slice (some ⟨wr.heap.size, 0, none⟩) 1 1]).run Tryd.prog (wr.alloc (.cells #[.int .u8 (((digits16[d]'h).toNat : Nat) : Int)] 5)) = .ok (.slice (some ⟨g', 0, none⟩) 8 cap') w') := by
        subst hd
        exact h1
      clear hd
      clear h1 h2 h3 hb0
      go_wp2_with (first | (at_builtin; refine wpList_append_eq rfl _ _ 85 rfl rfl rfl (HA.out _) ?_))
      exact ⟨⟨0, g', cap', by omega, rfl, rfl, HO2.out, HB2.out⟩, by decide⟩
    case inr.inr.inl =>
      have hand : bits .and .i64 ((n : Int) / 16) 15 = ((n / 16 % 16 : Nat) : Int) := and15 (n / 16) (by omega)
      obtain ⟨g', cap', w', h1, h2, h3⟩ := hexStep w.heap.size w _ g cap 1 6 n 16 85 rfl rfl HO.out HB.out HB.out.size
      have HA := Lib.hid h1
      have HO2 := Lib.hid h2
      have HB2 := Lib.hid h3
      clear h1 h2 h3 hb0
      go_wp2_with (first | (at_builtin; refine wpList_append_eq rfl _ _ 85 rfl rfl rfl (HA.out _) ?_))
      exact ⟨⟨1, g', cap', by omega, rfl, rfl, HO2.out, HB2.out⟩, by decide⟩
    case inr.inr.inr.inl =>
      have hand : bits .and .i64 ((n : Int) / 256) 15 = ((n / 256 % 16 : Nat) : Int) := and15 (n / 256) (by omega)
      obtain ⟨g', cap', w', h1, h2, h3⟩ := hexStep w.heap.size w _ g cap 2 5 n 256 85 rfl rfl HO.out HB.out HB.out.size
      have HA := Lib.hid h1
      have HO2 := Lib.hid h2
      have HB2 := Lib.hid h3
      clear h1 h2 h3 hb0
      go_wp2_with (first | (at_builtin; refine wpList_append_eq rfl _ _ 85 rfl rfl rfl (HA.out _) ?_))
      exact ⟨⟨2, g', cap', by omega, rfl, rfl, HO2.out, HB2.out⟩, by decide⟩
    case inr.inr.inr.inr.inl =>
      have hand : bits .and .i64 ((n : Int) / 4096) 15 = ((n / 4096 % 16 : Nat) : Int) := and15 (n / 4096) (by omega)
      obtain ⟨g', cap', w', h1, h2, h3⟩ := hexStep w.heap.size w _ g cap 3 4 n 4096 85 rfl rfl HO.out HB.out HB.out.size
      have HA := Lib.hid h1
      have HO2 := Lib.hid h2
      have HB2 := Lib.hid h3
      clear h1 h2 h3 hb0
      go_wp2_with (first | (at_builtin; refine wpList_append_eq rfl _ _ 85 rfl rfl rfl (HA.out _) ?_))
      exact ⟨⟨3, g', cap', by omega, rfl, rfl, HO2.out, HB2.out⟩, by decide⟩
    case inr.inr.inr.inr.inr.inl =>
      have hand : bits .and .i64 ((n : Int) / 65536) 15 = ((n / 65536 % 16 : Nat) : Int) := and15 (n / 65536) (by omega)
      obtain ⟨g', cap', w', h1, h2, h3⟩ := hexStep w.heap.size w _ g cap 4 3 n 65536 85 rfl rfl HO.out HB.out HB.out.size
      have HA := Lib.hid h1
      have HO2 := Lib.hid h2
      have HB2 := Lib.hid h3
      clear h1 h2 h3 hb0
      go_wp2_with (first | (at_builtin; refine wpList_append_eq rfl _ _ 85 rfl rfl rfl (HA.out _) ?_))
      exact ⟨⟨4, g', cap', by omega, rfl, rfl, HO2.out, HB2.out⟩, by decide⟩
    case inr.inr.inr.inr.inr.inr.inl =>
      have hand : bits .and .i64 ((n : Int) / 1048576) 15 = ((n / 1048576 % 16 : Nat) : Int) := and15 (n / 1048576) (by omega)
      obtain ⟨g', cap', w', h1, h2, h3⟩ := hexStep w.heap.size w _ g cap 5 2 n 1048576 85 rfl rfl HO.out HB.out HB.out.size
      have HA := Lib.hid h1
      have HO2 := Lib.hid h2
      have HB2 := Lib.hid h3
      clear h1 h2 h3 hb0
      go_wp2_with (first | (at_builtin; refine wpList_append_eq rfl _ _ 85 rfl rfl rfl (HA.out _) ?_))
      exact ⟨⟨5, g', cap', by omega, rfl, rfl, HO2.out, HB2.out⟩, by decide⟩
    case inr.inr.inr.inr.inr.inr.inr.inl =>
      have hand : bits .and .i64 ((n : Int) / 16777216) 15 = ((n / 16777216 % 16 : Nat) : Int) := and15 (n / 16777216) (by omega)
      obtain ⟨g', cap', w', h1, h2, h3⟩ := hexStep w.heap.size w _ g cap 6 1 n 16777216 85 rfl rfl HO.out HB.out HB.out.size
      have HA := Lib.hid h1
      have HO2 := Lib.hid h2
      have HB2 := Lib.hid h3
      clear h1 h2 h3 hb0
      go_wp2_with (first | (at_builtin; refine wpList_append_eq rfl _ _ 85 rfl rfl rfl (HA.out _) ?_))
      exact ⟨⟨6, g', cap', by omega, rfl, rfl, HO2.out, HB2.out⟩, by decide⟩
    case inr.inr.inr.inr.inr.inr.inr.inr =>
      have hand : bits .and .i64 ((n : Int) / 268435456) 15 = ((n / 268435456 % 16 : Nat) : Int) := and15 (n / 268435456) (by omega)
      obtain ⟨g', cap', w', h1, h2, h3⟩ := hexStep w.heap.size w _ g cap 7 0 n 268435456 85 rfl rfl HO.out HB.out HB.out.size
      have HA := Lib.hid h1
      have HO2 := Lib.hid h2
      have HB2 := Lib.hid h3
      clear h1 h2 h3 hb0
      go_wp2_with (first | (at_builtin; refine wpList_append_eq rfl _ _ 85 rfl rfl rfl (HA.out _) ?_))
      exact ⟨⟨7, g', cap', by omega, rfl, rfl, HO2.out, HB2.out⟩, by decide⟩
end Go.Proofs.YtoafncjmjocaoaaDoor
