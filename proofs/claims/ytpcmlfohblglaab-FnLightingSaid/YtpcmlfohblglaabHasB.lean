/- Contracts of the library's search for false in a slice of bools, and of MissWins's function. -/
import Derived.Test.YtpcmlfohblglaabTabV
import Derived.Lib.Hide
namespace Go.Proofs.Ytpcmlfohblglaab
open Go.RowKit

/-- The place of the first false, the first element having the place n, or -1. -/
def idxB : List Bool → Nat → Int
  | [], _ => -1
  | y :: ys, n => if y = false then (n : Int) else idxB ys (n + 1)
theorem idxB_ge (L : List Bool) (n : Nat) : (decide (0 ≤ idxB L n)) = L.contains false := by
  induction L generalizing n with
  | nil => simp [idxB]
  | cons y ys ih =>
    unfold idxB
    cases y
    · simp
    · rw [if_neg (by decide), ih]; simp
theorem dropB (L : List Bool) (k : Nat) (h : k < L.length) : L.drop k = L.getD k false :: L.drop (k + 1) := by
  rw [List.drop_eq_getElem_cons h]; simp [h]
/-- A slice reads as the bools. -/
def RdB (w : World) (ao : Option Addr) (L : List Bool) : Prop := L = [] ∨ ∃ b off, ao = some ⟨b, off, none⟩ ∧ b < w.heap.size ∧ ∀ j, j < L.length → w.cell? ⟨b, off + j, none⟩ = some (.bool (L.getD j false))
theorem RdB_of_V {w : World} {ao : Option Addr} {vs : List Bool} (h : RdV w ao (vs.map Value.bool)) : RdB w ao vs := by
  rcases h with h | ⟨b, off, rfl, hlt, hc⟩
  · exact .inl (by simpa using h)
  · refine .inr ⟨b, off, rfl, hlt, fun j hj => ?_⟩
    rw [hc j (by simpa using hj)]
    simp [hj]
theorem RdB_below {w w' : World} {ao : Option Addr} {vs : List Bool} (h : RdB w ao vs) (hb : Below w.heap.size w w') : RdB w' ao vs := by
  rcases h with h | ⟨b, off, rfl, hlt, hc⟩
  · exact .inl h
  · have := hb.size
    exact .inr ⟨b, off, rfl, by omega, fun j hj => (hb.cell (p := ⟨b, off + j, none⟩) (by show b < _; omega)).trans (hc j hj)⟩
def missF (_ : Nat) (vs : List Bool) : Bool := decide (vs.length = 0) || vs.contains false
end Go.Proofs.Ytpcmlfohblglaab
