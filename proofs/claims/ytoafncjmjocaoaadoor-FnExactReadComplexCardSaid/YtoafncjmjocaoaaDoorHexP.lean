/-
  Hexadecimal words read: plain laws.
-/
import Derived.Test.YtoafncjmjocaoaaDoorHexW
import Derived.Test.YtoafncjmjocaoaaDoorShelf3
namespace Go.Proofs.YtoafncjmjocaoaaDoor
open Go Go.RowKit

def isHex (c : UInt8) : Bool := (decide (48 ≤ c.toNat) && decide (c.toNat ≤ 57)) || (decide (97 ≤ c.toNat) && decide (c.toNat ≤ 102))
def digV (c : UInt8) : Nat := if c.toNat ≤ 57 then c.toNat - 48 else c.toNat - 87
def hval (a : Nat) (l : List UInt8) : Nat := l.foldl (fun n c => 16 * n + digV c) a
theorem hex_nat : ∀ n, n < 256 → isHex (UInt8.ofNat n) = true → digV (UInt8.ofNat n) < 16 ∧ hexD (digV (UInt8.ofNat n)) = UInt8.ofNat n := by decide +kernel
theorem hex_at {c : UInt8} (h : isHex c = true) : digV c < 16 ∧ hexD (digV c) = c := by
  have h2 := hex_nat c.toNat c.toNat_lt
  rw [UInt8.ofNat_toNat] at h2
  exact h2 h
theorem hval_snoc (a : Nat) (l : List UInt8) (c : UInt8) : hval a (l ++ [c]) = 16 * hval a l + digV c := by simp [hval]
theorem hval_lt (a : Nat) (l : List UInt8) (h : l.all isHex = true) : hval a l < (a + 1) * 16 ^ l.length := by
  induction l generalizing a with
  | nil => simp [hval]
  | cons c r ih =>
    have hc : isHex c = true := by simp at h; exact h.1
    have hr : r.all isHex = true := by simp at h ⊢; exact h.2
    have h1 := ih (16 * a + digV c) hr
    have h2 := (hex_at hc).1
    show hval (16 * a + digV c) r < _
    refine Nat.lt_of_lt_of_le h1 ?_
    rw [List.length_cons, Nat.pow_succ, Nat.mul_comm (16 ^ r.length) 16, ← Nat.mul_assoc]
    exact Nat.mul_le_mul_right _ (by omega)
theorem hexK_hval (j a : Nat) (l : List UInt8) (h : l.all isHex = true) : hexK (j + l.length) (hval a l) = hexK j a ++ l := by
  induction l generalizing j a with
  | nil => simp [hval]
  | cons c r ih =>
    have hc : isHex c = true := by simp at h; exact h.1
    have hr : r.all isHex = true := by simp at h ⊢; exact h.2
    have h1 := ih (j + 1) (16 * a + digV c) hr
    have h2 := hex_at hc
    rw [show j + (c :: r).length = j + 1 + r.length by simp; omega]
    show hexK (j + 1 + r.length) (hval (16 * a + digV c) r) = _
    rw [h1, hexK, show (16 * a + digV c) / 16 = a by omega, show (16 * a + digV c) % 16 = digV c by omega, h2.2]
    simp
theorem hexD_inj : ∀ m, m < 16 → ∀ n, n < 16 → hexD m = hexD n → m = n := by decide +kernel
theorem hexK_inj (k a b : Nat) (ha : a < 16 ^ k) (hb : b < 16 ^ k) (h : hexK k a = hexK k b) : a = b := by
  induction k generalizing a b with
  | zero => simp at ha hb; omega
  | succ k ih =>
    rw [hexK, hexK] at h
    have h1 := List.append_inj h (by rw [hexK_len, hexK_len])
    have h2 := ih (a / 16) (b / 16) (by rw [Nat.pow_succ] at ha; omega) (by rw [Nat.pow_succ] at hb; omega) h1.1
    have h4 : a % 16 = b % 16 := hexD_inj _ (Nat.mod_lt _ (by decide)) _ (Nat.mod_lt _ (by decide)) (by simpa using h1.2)
    omega
/-- is it a word of eight hexadecimal digits? -/
def word8 (l : List UInt8) : Bool := decide (l.length = 8) && l.all isHex
/-- the bits that the program's reading of a word comes to, and whether it is good. -/
def fx (l : List UInt8) : Nat := if word8 l then hval 0 l else 0
def okx (l : List UInt8) : Bool := word8 l && decide (bitsN (hval 0 l) = hval 0 l)
def hexv (l : List UInt8) : Option Nat := if okx l then some (hval 0 l) else none
theorem word8_lt {l : List UInt8} (h : word8 l = true) : hval 0 l < 4294967296 := by
  have h1 : l.length = 8 ∧ l.all isHex = true := by unfold word8 at h; simpa using h
  have h2 := hval_lt 0 l h1.2
  rw [h1.1] at h2
  exact h2
theorem hexv_some {l : List UInt8} {n : Nat} (h : hexv l = some n) : okx l = true ∧ fx l = n ∧ n < 4294967296 ∧ hval 0 l = n := by
  unfold hexv at h
  split at h
  · rename_i ho
    have hw : word8 l = true := by unfold okx at ho; simp at ho; exact ho.1
    simp at h
    subst h
    refine ⟨ho, ?_, word8_lt hw, rfl⟩
    unfold fx
    rw [if_pos hw]
  · cases h
theorem hexv_none {l : List UInt8} (h : hexv l = none) : okx l = false := by
  unfold hexv at h
  split at h
  · cases h
  · rename_i ho
    simpa using ho
/-- the text of what is read is the word itself just where its bits read as they stand. -/
theorem back_word {l : List UInt8} (h : word8 l = true) : (hexT (hval 0 l) = l) ↔ bitsN (hval 0 l) = hval 0 l := by
  have h1 : l.length = 8 ∧ l.all isHex = true := by unfold word8 at h; simpa using h
  have h2 := hexK_hval 0 0 l h1.2
  rw [h1.1] at h2
  have h3 : hexK 8 (hval 0 l) = l := by simpa [hexK] using h2
  constructor
  · intro hh
    refine hexK_inj 8 _ _ (bitsN_lt (word8_lt h)) (word8_lt h) ?_
    rw [h3]; exact hh
  · intro hh
    unfold hexT
    rw [hh, h3]
-- Trim
def hexs : List UInt8 := [48, 49, 50, 51, 52, 53, 54, 55, 56, 57, 97, 98, 99, 100, 101, 102]
theorem hexs_nat : ∀ n, n < 256 → hexs.contains (UInt8.ofNat n) = isHex (UInt8.ofNat n) := by decide +kernel
theorem hexs_has (c : UInt8) : hexs.contains c = isHex c := by
  have h := hexs_nat c.toNat c.toNat_lt
  rwa [UInt8.ofNat_toNat] at h
theorem dwh_nil (p : UInt8 → Bool) (l : List UInt8) : l.dropWhile p = [] ↔ ∀ x ∈ l, p x = true := by
  induction l with
  | nil => simp
  | cons c l ih =>
    rw [List.dropWhile_cons]
    cases hc : p c with
    | true => simp [hc, ih]
    | false => simp [hc]
theorem dwh_head (p : UInt8 → Bool) (l : List UInt8) (c : UInt8) (r : List UInt8) (h : l.dropWhile p = c :: r) : p c = false := by
  induction l with
  | nil => simp at h
  | cons d l ih =>
    rw [List.dropWhile_cons] at h
    cases hd : p d with
    | true => rw [hd] at h; exact ih h
    | false =>
      rw [hd] at h
      simp at h
      rw [← h.1]
      exact hd
theorem trim_hex (l : List UInt8) : (Lib.trimS l hexs == []) = l.all isHex := by
  have hp : (fun c => hexs.contains c) = isHex := funext hexs_has
  unfold Lib.trimS Lib.trimLeftS Lib.trimRightS
  rw [hp]
  rw [Bool.eq_iff_iff, beq_iff_eq, List.all_eq_true]
  constructor
  · intro h x hx
    rw [dwh_nil] at h
    cases hm : l.reverse.dropWhile isHex with
    | nil =>
      rw [dwh_nil] at hm
      exact hm x (List.mem_reverse.2 hx)
    | cons c r =>
      have h1 := h c (by rw [hm]; simp)
      have h2 : isHex c = false := dwh_head _ _ _ _ hm
      rw [h1] at h2
      cases h2
  · intro h
    have : l.reverse.dropWhile isHex = [] := (dwh_nil _ _).2 fun x hx => h x (List.mem_reverse.1 hx)
    rw [this]
    rfl
theorem trim_callH (s : ByteArray) (w : World) (hs : s.size ≤ 9223372036854775807) :
    Calls Tryd.prog 51 #[.string s, .string ⟨hexs.toArray⟩] w fun e w' => e = .returned (.string ⟨(Lib.trimS s.data.toList hexs).toArray⟩) ∧ Below w.heap.size w w' :=
  Any.strings_Trim_laid Tryd.lays160 (by kernel_rfl) s ⟨hexs.toArray⟩ w hs (by decide) (ascii_of_all (by decide))
end Go.Proofs.YtoafncjmjocaoaaDoor
