/-
  The library's SplitN at a comma, as the program's ReadNumbers and ReadComplex call it.
-/
import Derived.Test.YtoafncjmjocaoaaDoorNums
import Derived.Test.YtoafncjmjocaoaaDoorShelf5
namespace Go.Proofs.YtoafncjmjocaoaaDoor
open Go Go.RowKit

/-- what the pieces come to. -/
def GivesSp256 (w : World) (s : ByteArray) (e : Ending) (w' : World) : Prop := ∃ (g cap : Nat) (ps : List ByteArray), e = .returned (.slice (some ⟨g, 0, none⟩) ps.length cap) ∧ OwnS w.heap.size w' g cap ps ∧ Below w.heap.size w w' ∧ ((cutL s.data.toList).length ≤ 256 → dat ps = cutL s.data.toList) ∧ (¬ (cutL s.data.toList).length ≤ 256 → ps.length = 257)
theorem split_call256 (s : ByteArray) (hm : s.size ≤ 1048576) (m : Int) (w : World) (hv : w.cell? ⟨6, 0, none⟩ = some (.int .i64 m)) :
    Calls Tryd.prog 65 #[.string s, .string ⟨#[44]⟩, .int .i64 257] w (GivesSp256 w s) := by
  refine (Tryd.strings_SplitN s ⟨#[44]⟩ 257 m w (by omega) hv (by decide) (by decide) (by decide)).mono ?_
  rintro e w' ⟨rfl, rfl⟩
  have hdat : dat (Lib.splitB ⟨#[44]⟩ 0 (min 257 (s.size + 1) - 1) s) = Lib.splitK [44] 0 (min 257 (s.size + 1) - 1) s.data.toList := Lib.splitB_data ⟨#[44]⟩ 0 _ s
  have hle := Lib.splitB_length_le ⟨#[44]⟩ 0 (min 257 (s.size + 1) - 1) s
  have hcl := cut_len s.data.toList
  have hll : s.data.toList.length = s.size := by simp
  obtain ⟨k1, k2⟩ := cut_splitK (min 257 (s.size + 1) - 1) s.data.toList
  refine ⟨_, _, _, rfl, ?_, (Below.refl _ _).alloc (Nat.le_refl _) _, fun h => ?_, fun h => ?_⟩
  · refine ⟨by simp [sv], .inr ⟨w.heap.size, _, _, rfl, Nat.le_refl _, heap_alloc_new w _, by omega, by simp only [maxLen]; omega, ?_, ?_⟩⟩
    · rw [Lib.cellsOf_size (by omega), Nat.mul_one]
    · unfold Lib.cellsOf sv
      rw [Nat.mul_one, List.take_left' (by simp)]
  · rw [hdat, k1 (by omega)]
  · have hlen : ∀ ps : List ByteArray, (dat ps).length = ps.length := fun ps => by simp [dat]
    rw [← hlen, hdat]
    by_cases h5 : (cutL s.data.toList).length ≤ min 257 (s.size + 1) - 1 + 1
    · rw [k1 h5]
      omega
    · rw [k2 h5]
      omega
end Go.Proofs.YtoafncjmjocaoaaDoor
