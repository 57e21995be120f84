/- Contracts of the functions that give the word that is seen in a mirror. -/
import Derived.Test.YtanhhphdbahgpaaDoorBack
import Derived.Test.YtanhhphdbahgpaaDoorSpell
import Derived.Lib.Hide
namespace Go.Proofs.YtanhhphdbahgpaaDoor
open Go.RowKit

def mirB (s : ByteArray) : Bool := wordB s 6 && spellB (backL mirC (rowW s))
def mirS (s : ByteArray) : ByteArray := if wordB s 6 = true then spellS (backL mirC (rowW s)) else ⟨#[]⟩
theorem rowB_of {L : List Int} (hl : L.length ≤ 6) (h : ∀ x ∈ L, inB 0 127 x = true) : rowB L = true := by
  unfold rowB
  rw [decide_eq_true hl, Bool.true_and, List.all_eq_true]
  exact h
end Go.Proofs.YtanhhphdbahgpaaDoor
