/- Contracts of the functions that spell the word of a row. -/
import Derived.Test.YtanhhphdbahgpaaDoorLetterOf
import Derived.Test.YtanhhphdbahgpaaDoorRow
import Derived.Lib.Hide
namespace Go.Proofs.YtanhhphdbahgpaaDoor
open Go.RowKit

/-- The letters of a list of cells, one behind the other. -/
def wordP (L : List Int) : Nat → ByteArray
  | 0 => ⟨#[]⟩
  | k + 1 => wordP L k ++ letS (L.getD k 0)
theorem letS_size (c : Int) : (letS c).size ≤ 1 := by
  unfold letS
  split
  · rw [ByteArray.size_extract]; omega
  · exact Nat.zero_le _
theorem wordP_size (L : List Int) (k : Nat) : (wordP L k).size ≤ k := by
  induction k with
  | zero => exact Nat.le_refl _
  | succ k ih => unfold wordP; rw [ByteArray.size_append]; have := letS_size (L.getD k 0); omega
/-- All cells of the list are letters. -/
def spellB (L : List Int) : Bool := L.all letOk
def spellS (L : List Int) : ByteArray := if spellB L = true then wordP L L.length else ⟨#[]⟩
/-- The word of a row, and whether there is one. -/
def worB (L : List Int) : Bool := rowB L && spellB L
def worS (L : List Int) : ByteArray := if rowB L = true then spellS L else ⟨#[]⟩
end Go.Proofs.YtanhhphdbahgpaaDoor
