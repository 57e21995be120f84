/- The contract of the law's own copy of a slice. -/
import Derived.Test.YtpcmlfohblglaabMarks
import Derived.Lib.Hide
namespace Go.Proofs.Ytpcmlfohblglaab
open Go.RowKit

/-- The first j numbers are copied, the others are 0. -/
def copyP (L : List Int) (j : Nat) : List Int := L.take j ++ List.replicate (L.length - j) 0
theorem copyP_zero (L : List Int) : copyP L 0 = List.replicate L.length 0 := by simp [copyP]
theorem copyP_all (L : List Int) : copyP L L.length = L := by simp [copyP]
theorem copyP_length (L : List Int) (j : Nat) (hj : j ≤ L.length) : (copyP L j).length = L.length := by simp [copyP]; omega
theorem copyP_succ (L : List Int) (j : Nat) (hj : j < L.length) : (copyP L j).set j (L.getD j 0) = copyP L (j + 1) := by
  apply List.ext_getElem?
  intro i
  have h1 : (L.take j).length = j := by simp; omega
  have h2 : (L.take (j + 1)).length = j + 1 := by simp; omega
  simp only [copyP, List.getElem?_set, List.length_append, h1, List.length_replicate]
  by_cases hij : j = i
  · subst hij
    rw [if_pos rfl, if_pos (by omega), List.getElem?_append_left (by omega), List.getElem?_take_of_lt (by omega)]
    simp [hj]
  · rw [if_neg hij]
    by_cases hlt : i < j
    · rw [List.getElem?_append_left (by omega), List.getElem?_append_left (by omega), List.getElem?_take_of_lt hlt, List.getElem?_take_of_lt (by omega)]
    · rw [List.getElem?_append_right (by omega), List.getElem?_append_right (by omega), h1, h2]
      simp only [List.getElem?_replicate]
      by_cases h3 : i < L.length
      · rw [if_pos (by omega), if_pos (by omega)]
      · rw [if_neg (by omega), if_neg (by omega)]

/-- A copy of the numbers is returned. -/
def RetCopy (L : List Int) (n : Nat) (w : World) (e : Ending) (w' : World) : Prop := ∃ g, e = .returned (.slice (some ⟨g, 0, none⟩) n n) ∧ ownsInts w' w.heap.size (.slice (some ⟨g, 0, none⟩) n n) L ∧ Below w.heap.size w w'
end Go.Proofs.Ytpcmlfohblglaab
