/- Contracts of the functions that give the word that a number turns to. -/
import Derived.Test.YtanhhphdbahgpaaDoorMirW
import Derived.Test.YtanhhphdbahgpaaDoorRowM
namespace Go.Proofs.YtanhhphdbahgpaaDoor
open Go.RowKit

def wnB (k : Int) : Bool := inB 0 999999 k && spellB (backL turC (rowN k.toNat))
def wnS (k : Int) : ByteArray := if inB 0 999999 k = true then spellS (backL turC (rowN k.toNat)) else ⟨#[]⟩
theorem rowN_short (u : Nat) (h : u < 1000000) : (rowN u).length ≤ 6 := by
  have := (digL_length u 6 (by omega) h).1
  simpa [rowN] using this
theorem enters_tur : ∀ (args : Array Value) (W : World), (callFunc 27 args).run Tryd.prog W = .ok (.enter 27 args) W := fun _ _ => by simp [go_sem, Tryd.func27]
end Go.Proofs.YtanhhphdbahgpaaDoor
