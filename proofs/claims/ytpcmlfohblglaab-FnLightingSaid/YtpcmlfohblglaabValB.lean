/- The contract of the function that looks a value up. -/
import Derived.Test.YtpcmlfohblglaabTabB
import Derived.Lib.Hide
namespace Go.Proofs.Ytpcmlfohblglaab
open Go.RowKit

/-- What is looked up. -/
def valOfB (F : Nat → List Bool → Bool) (c : Int) (L : List Int) (n : Nat) : Bool := if playB c L n = true then valC L F c.toNat else false
end Go.Proofs.Ytpcmlfohblglaab
