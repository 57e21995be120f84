/- Contracts of the functions that look for a number in a slice. -/
import Derived.Test.YtanhhphdbahgpaaRd
import Derived.Test.YtanhhphdbahgpaaCell
import Derived.Lib.Hide
namespace Go.Proofs.Ytanhhphdbahgpaa
open Go.RowKit

/-- The place of the first x in a list whose first element has the place n, or -1. -/
def idxFrom : List Int → Int → Nat → Int
  | [], _, _ => -1
  | y :: ys, x, n => if y = x then (n : Int) else idxFrom ys x (n + 1)
theorem idxFrom_ge (L : List Int) (x : Int) (n : Nat) : (decide (0 ≤ idxFrom L x n)) = L.contains x := by
  induction L generalizing n with
  | nil => simp [idxFrom]
  | cons y ys ih =>
    unfold idxFrom
    by_cases h : y = x
    · simp [h]
    · rw [if_neg h, ih]
      have : (x == y) = false := by simp; exact fun e => h e.symm
      simp only [List.contains_cons, this, Bool.false_or]
theorem drop_cons (L : List Int) (k : Nat) (h : k < L.length) : L.drop k = L.getD k 0 :: L.drop (k + 1) := by
  rw [List.drop_eq_getElem_cons h]; simp [h]
/-- A slice's first part reads as the first numbers. -/
theorem RdI_take {w : World} {ao : Option Addr} {L : List Int} (h : RdI w ao L) (k : Nat) : RdI w ao (L.take k) := by
  rcases h with rfl | ⟨b, off, rfl, hb, hc⟩
  · exact .inl (by simp)
  · refine .inr ⟨b, off, rfl, hb, fun j hj => ?_⟩
    have hj' : j < k ∧ j < L.length := by rw [List.length_take] at hj; omega
    rw [hc j hj'.2]
    congr 2
    simp only [List.getD_eq_getElem?_getD, List.getElem?_take_of_lt hj'.1]
end Go.Proofs.Ytanhhphdbahgpaa
