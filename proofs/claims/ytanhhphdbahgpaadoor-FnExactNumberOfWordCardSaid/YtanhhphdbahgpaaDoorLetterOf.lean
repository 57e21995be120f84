/- Contracts of the functions that give the letter of a cell. -/
import Derived.Test.YtanhhphdbahgpaaDoorLetters
import Derived.Lib.Hide
namespace Go.Proofs.YtanhhphdbahgpaaDoor
open Go.RowKit

theorem idxFrom_cases (L : List Int) (x : Int) : ∀ n : Nat, idxFrom L x n = -1 ∨ ∃ k : Nat, n ≤ k ∧ k < n + L.length ∧ idxFrom L x n = k := by
  induction L with
  | nil => intro n; exact .inl rfl
  | cons y ys ih =>
    intro n
    unfold idxFrom
    by_cases h : y = x
    · rw [if_pos h]; exact .inr ⟨n, Nat.le_refl _, by simp, rfl⟩
    · rw [if_neg h]
      rcases ih (n + 1) with h1 | ⟨k, h1, h2, h3⟩
      · exact .inl h1
      · exact .inr ⟨k, by omega, by simp; omega, h3⟩
/-- All letters that can be shown. -/
def alphaB : ByteArray := ⟨#[97, 98, 99, 100, 101, 102, 104, 106, 108, 110, 111, 112, 114, 116, 117, 121]⟩
/-- The place of the letter of a cell, or -1. -/
def letP (c : Int) : Int := idxFrom letL c 0
theorem letP_cases (c : Int) : letP c = -1 ∨ ∃ k : Nat, k < 16 ∧ letP c = k := by
  rcases idxFrom_cases letL c 0 with h | ⟨k, _, h2, h3⟩
  · exact .inl h
  · exact .inr ⟨k, by rw [letL_length] at h2; omega, h3⟩
def letOk (c : Int) : Bool := decide (0 ≤ letP c)
def letS (c : Int) : ByteArray := if 0 ≤ letP c then alphaB.extract (letP c).toNat ((letP c).toNat + 1) else ⟨#[]⟩
end Go.Proofs.YtanhhphdbahgpaaDoor
