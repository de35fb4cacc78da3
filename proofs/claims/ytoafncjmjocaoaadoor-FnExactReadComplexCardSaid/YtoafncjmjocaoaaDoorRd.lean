/-
  Plain facts of decimal texts: the number that the reference reads off a text, and what the library's ParseInt reads, agree where the text is the number's own.
-/
import Derived.Lib.ItoaNum
import Derived.Lib.ParseIntB
import Derived.Lib.Hide
namespace Go.Proofs.YtoafncjmjocaoaaDoor
open Go Go.Lib

/-- the digits of a text, whatever stands between them. -/
def dstep (n : Nat) (c : UInt8) : Nat := if 48 ≤ c.toNat ∧ c.toNat ≤ 57 then 10 * n + (c.toNat - 48) else n
def dig (l : List UInt8) : Nat := l.foldl dstep 0
theorem dig_snoc (l : List UInt8) (c : UInt8) : dig (l ++ [c]) = dstep (dig l) c := by
  unfold dig
  rw [List.foldl_append]
  rfl
theorem digit_nat {u : Nat} (h : u < 10) : (UInt8.ofNat (48 + u)).toNat = 48 + u := by
  rw [UInt8.toNat_ofNat']
  omega
theorem dig_dec (u : Nat) : dig (decDigits u) = u := by
  induction u using Nat.strongRecOn with
  | ind u ih =>
    rw [decDigits]
    by_cases h : u < 10
    · rw [dif_pos h]
      show dstep 0 _ = u
      unfold dstep
      rw [digit_nat h, if_pos (by omega)]
      omega
    · rw [dif_neg h, dig_snoc, ih (u / 10) (by omega)]
      unfold dstep
      rw [digit_nat (by omega), if_pos (by omega)]
      omega
theorem dec_digits (u : Nat) : ∀ c ∈ decDigits u, 48 ≤ c.toNat ∧ c.toNat ≤ 57 := by
  induction u using Nat.strongRecOn with
  | ind u ih =>
    intro c hc
    rw [decDigits] at hc
    by_cases h : u < 10
    · rw [dif_pos h] at hc
      simp only [List.mem_singleton] at hc
      subst hc
      rw [digit_nat h]
      omega
    · rw [dif_neg h] at hc
      rcases List.mem_append.1 hc with hc | hc
      · exact ih (u / 10) (by omega) c hc
      · simp only [List.mem_singleton] at hc
        subst hc
        rw [digit_nat (by omega)]
        omega
theorem dec_ne (u : Nat) : decDigits u ≠ [] := by
  rw [decDigits]
  split <;> simp
theorem dec_length (k u : Nat) (h : u < 10 ^ (k + 1)) : (decDigits u).length ≤ k + 1 := by
  induction k generalizing u with
  | zero => rw [decDigits, dif_pos (by omega)]; simp
  | succ k ih =>
    rw [decDigits]
    by_cases hu : u < 10
    · rw [dif_pos hu]; simp
    · rw [dif_neg hu]
      have := ih (u / 10) (by rw [Nat.pow_succ] at h; omega)
      simp
      omega
/-- the number with a text, by its digits and its sign. -/
def valOf (l : List UInt8) : Int := if l.head? = some 45 then -(dig l : Int) else dig l
theorem valOf_itoa (n : Int) : valOf (itoa n) = n := by
  unfold itoa valOf
  by_cases h : n < 0
  · rw [if_pos h, if_pos (show (45 :: decDigits n.natAbs).head? = some 45 from rfl)]
    have : dig (45 :: decDigits n.natAbs) = dig (decDigits n.natAbs) := rfl
    rw [this, dig_dec]
    omega
  · rw [if_neg h, if_neg, dig_dec]
    · omega
    · intro hh
      have hm : (45 : UInt8) ∈ decDigits n.toNat := List.mem_of_mem_head? (by rw [hh]; rfl)
      have := dec_digits _ _ hm
      exact absurd this (by decide)
/-- what is read off a text: the number whose own text it is. -/
def rd (l : List UInt8) : Option Int := if (valOf l).natAbs ≤ 1000000000000000 ∧ itoa (valOf l) = l then some (valOf l) else none
theorem rd_of {l : List UInt8} {n : Int} (h : n.natAbs ≤ 1000000000000000) (hl : itoa n = l) : rd l = some n := by
  subst hl
  unfold rd
  rw [valOf_itoa, if_pos ⟨h, rfl⟩]
theorem rd_some {l : List UInt8} {n : Int} (h : rd l = some n) : n.natAbs ≤ 1000000000000000 ∧ itoa n = l := by
  unfold rd at h
  split at h
  · rename_i hc
    cases h
    exact hc
  · cases h
theorem itoa_length {n : Int} (h : n.natAbs ≤ 1000000000000000) : 1 ≤ (itoa n).length ∧ (itoa n).length ≤ 17 := by
  have h1 := dec_length 15 n.natAbs (by omega)
  have h2 := dec_length 15 n.toNat (by omega)
  have h3 : (decDigits n.toNat).length ≠ 0 := fun h => dec_ne _ (List.eq_nil_of_length_eq_zero h)
  unfold itoa
  split
  · simp only [List.length_cons]; omega
  · omega
theorem parse_dec (M u : Nat) (hM : u ≤ M) (hu : u ≤ 1844674407370955161) (rest : List UInt8) : parseUintM M 0 (decDigits u ++ rest) = parseUintM M u rest := by
  induction u using Nat.strongRecOn generalizing rest with
  | ind u ih =>
    rw [decDigits]
    by_cases h : u < 10
    · rw [dif_pos h]
      show parseUintM M 0 (_ :: rest) = _
      rw [parseUintM, digit_nat h, if_pos (by omega), if_neg (by omega), if_neg (by omega)]
      congr 1
      omega
    · rw [dif_neg h, List.append_assoc, ih (u / 10) (by omega) (by omega) (by omega)]
      show parseUintM M (u / 10) (_ :: rest) = _
      rw [parseUintM, digit_nat (by omega), if_pos (by omega), if_neg (by omega), if_neg (by omega)]
      congr 1
      omega
theorem parseB_dec (u : Nat) (hu : u ≤ 1000000000000000) : parseUintB 64 (decDigits u) = .ok u := by
  unfold parseUintB
  rw [if_neg (dec_ne u)]
  have h := parse_dec (2 ^ 64 - 1) u (by omega) (by omega) []
  rw [List.append_nil] at h
  rw [h]
  rfl
theorem parse_itoa {n : Int} (h : n.natAbs ≤ 1000000000000000) : parseIntB 64 (itoa n) = .ok n := by
  unfold itoa
  by_cases hn : n < 0
  · rw [if_pos hn]
    unfold parseIntB
    simp only []
    rw [if_pos (by decide), parseB_dec _ h]
    simp only []
    rw [if_neg (by simp), if_neg (by omega), if_pos (by decide)]
    congr 1
    omega
  · rw [if_neg hn]
    have hd := parseB_dec n.toNat (by omega)
    have hm := dec_digits n.toNat
    cases hl : decDigits n.toNat with
    | nil => exact absurd hl (dec_ne _)
    | cons c r =>
      rw [hl] at hd hm
      have hc := hm c (by simp)
      unfold parseIntB
      simp only []
      rw [if_neg (by omega), hd]
      simp only []
      rw [if_neg (by omega), if_neg (by omega), if_neg (by omega)]
      congr 1
      omega
theorem rd_none_of {l : List UInt8} (h : ∀ n : Int, n.natAbs ≤ 1000000000000000 → itoa n = l → False) : rd l = none := by
  cases hr : rd l with
  | none => rfl
  | some n => exact absurd (rd_some hr).2 (h n (rd_some hr).1)
end Go.Proofs.YtoafncjmjocaoaaDoor
