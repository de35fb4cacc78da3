/-
  A text cut at its commas: plain facts.
-/
import Derived.Lib.Split
import Derived.Lib.Hide
import Derived.Lib.IndexLaws
import Derived.Lib.IndexBytes
namespace Go.Proofs.YtoafncjmjocaoaaDoor
open Go Go.Lib

/-- a text cut at its commas. -/
def cutL : List UInt8 → List (List UInt8)
  | [] => [[]]
  | c :: r => if c = 44 then [] :: cutL r else match cutL r with | [] => [[c]] | p :: ps => (c :: p) :: ps
theorem cut_ne (l : List UInt8) : cutL l ≠ [] := by
  cases l with
  | nil => simp [cutL]
  | cons c r =>
    unfold cutL
    split
    · simp
    · split <;> simp
theorem cut_no (p : List UInt8) (h : ∀ c ∈ p, c ≠ 44) : cutL p = [p] := by
  induction p with
  | nil => rfl
  | cons c r ih =>
    unfold cutL
    rw [if_neg (h c (by simp)), ih (fun d hd => h d (by simp [hd]))]
theorem cut_at (p r : List UInt8) (h : ∀ c ∈ p, c ≠ 44) : cutL (p ++ 44 :: r) = p :: cutL r := by
  induction p with
  | nil =>
    show cutL (44 :: r) = _
    rw [cutL, if_pos rfl]
  | cons c q ih =>
    show cutL (c :: (q ++ 44 :: r)) = _
    rw [cutL, if_neg (h c (by simp)), ih (fun d hd => h d (by simp [hd]))]
theorem cut_len (l : List UInt8) : (cutL l).length ≤ l.length + 1 := by
  induction l with
  | nil => simp [cutL]
  | cons c r ih =>
    unfold cutL
    split
    · simp; omega
    · cases hc : cutL r with
      | nil => simp
      | cons p ps => rw [hc] at ih; simp at ih ⊢; omega
theorem comma_dec (l : List UInt8) : (index l [44] = -1 ∧ cutL l = [l]) ∨ ∃ p r, l = p ++ 44 :: r ∧ (∀ c ∈ p, c ≠ 44) ∧ index l [44] = (p.length : Int) := by
  have hge := indexByte_ge l 44
  rw [index_one]
  by_cases hn : indexByte l 44 = -1
  · left
    refine ⟨hn, cut_no l fun c hc h => ?_⟩
    obtain ⟨k, hk⟩ := List.mem_iff_getElem?.1 hc
    subst h
    exact indexByte_none hn k hk
  · right
    obtain ⟨o, ho⟩ : ∃ o : Nat, indexByte l 44 = o := ⟨(indexByte l 44).toNat, by omega⟩
    obtain ⟨h1, h2⟩ := indexByte_some ho
    obtain ⟨hlt, hv⟩ := List.getElem?_eq_some_iff.1 h1
    refine ⟨l.take o, l.drop (o + 1), ?_, ?_, ?_⟩
    · rw [← hv, List.getElem_cons_drop hlt, List.take_append_drop]
    · intro c hc h
      subst h
      obtain ⟨k, hk⟩ := List.mem_iff_getElem?.1 hc
      rw [List.getElem?_take] at hk
      by_cases hko : k < o
      · rw [if_pos hko] at hk
        exact h2 k hko hk
      · rw [if_neg hko] at hk
        cases hk
    · rw [ho, List.length_take]
      omega
theorem cut_splitK (k : Nat) : ∀ l : List UInt8, ((cutL l).length ≤ k + 1 → splitK [44] 0 k l = cutL l) ∧ (¬ (cutL l).length ≤ k + 1 → (splitK [44] 0 k l).length = k + 1) := by
  induction k with
  | zero =>
    intro l
    refine ⟨fun h => ?_, fun _ => rfl⟩
    rcases comma_dec l with ⟨_, hc⟩ | ⟨p, r, rfl, hp, _⟩
    · rw [hc]; rfl
    · rw [cut_at p r hp] at h
      have := cut_ne r
      cases hr : cutL r with
      | nil => exact absurd hr this
      | cons a b => rw [hr] at h; simp at h
  | succ k ih =>
    intro l
    rcases comma_dec l with ⟨hi, hc⟩ | ⟨p, r, rfl, hp, hi⟩
    · rw [hc]
      refine ⟨fun _ => ?_, fun h => absurd h (by simp)⟩
      unfold splitK
      rw [if_pos (by rw [hi]; rfl)]
    · have hs : splitK [44] 0 (k + 1) (p ++ 44 :: r) = p :: splitK [44] 0 k r := by
        rw [splitK, if_neg (by rw [hi, beq_iff_eq]; omega), hi]
        simp
      rw [hs, cut_at p r hp]
      obtain ⟨h1, h2⟩ := ih r
      refine ⟨fun h => ?_, fun h => ?_⟩
      · rw [h1 (by simpa using h)]
      · rw [List.length_cons, h2 (by simpa using h)]
end Go.Proofs.YtoafncjmjocaoaaDoor
