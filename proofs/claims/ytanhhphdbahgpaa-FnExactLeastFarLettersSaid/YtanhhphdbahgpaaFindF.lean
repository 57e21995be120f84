/- Contracts of the library's search with a function. -/
import Derived.Test.YtanhhphdbahgpaaRd
import Derived.Test.YtanhhphdbahgpaaFind
import Derived.Lib.Hide
namespace Go.Proofs.Ytanhhphdbahgpaa
open Go.RowKit

/-- The place of the first element for which p is true, the first element having the place n; or -1. -/
def idxFromP (p : Int → Bool) : List Int → Nat → Int
  | [], _ => -1
  | y :: ys, n => if p y = true then (n : Int) else idxFromP p ys (n + 1)
theorem idxFromP_ge (p : Int → Bool) (L : List Int) (n : Nat) : (decide (0 ≤ idxFromP p L n)) = L.any p := by
  induction L generalizing n with
  | nil => simp [idxFromP]
  | cons y ys ih =>
    unfold idxFromP
    by_cases h : p y = true
    · simp [h]
    · rw [if_neg h, ih]
      rw [Bool.not_eq_true] at h
      simp [List.any_cons, h]
/-- What is asked of a function value with one captured cell: at each element it tells whether p holds there, and it makes new memory alone. -/
def Tells (K : Nat) (c0 : Value) (p : Int → Bool) (L : List Int) (w0 : World) : Prop :=
  ∀ (x : Int) (W : World), x ∈ L → Below w0.heap.size w0 W → Calls Try.prog K #[.int .i64 x, c0] W fun e w' => e = .returned (.bool (p x)) ∧ Below W.heap.size W w'
/-- The number K is that of a function of the program's own text. -/
def Enters (K : Nat) : Prop := ∀ (args : Array Value) (W : World), (callFunc K args).run Try.prog W = .ok (.enter K args) W
end Go.Proofs.Ytanhhphdbahgpaa
