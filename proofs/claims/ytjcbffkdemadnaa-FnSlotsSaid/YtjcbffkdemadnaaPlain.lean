/- The plain functions that the contracts of this seat speak of: no program in sight. -/
import Derived.Test.YtjcbffkdemadnaaBase
namespace Go.Proofs.Ytjcbffkdemadnaa
open Go.RowKit

/-- The cell of a digit. -/
def digC (d : Nat) : Nat := [63, 6, 91, 79, 102, 109, 125, 7, 127, 111].getD d 0
theorem digC_lt (d : Nat) : digC d < 128 := by
  by_cases h : d < 10
  · have : ∀ x : Fin 10, digC x.val < 128 := by decide
    exact this ⟨d, h⟩
  · have : digC d = 0 := by
      unfold digC
      rw [List.getD_eq_getElem?_getD, List.getElem?_eq_none (by simp; omega)]
      rfl
    omega
theorem digC_in (d : Nat) : inB 0 127 (digC d : Int) = true := by
  have := digC_lt d
  rw [inB_iff]; omega
end Go.Proofs.Ytjcbffkdemadnaa
