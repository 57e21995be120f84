/- Lists of marks; a store into an owned row. -/
import Derived.Test.YtjcbffkdemadnaaRd
import Derived.Lib.Hide
import Derived.Deep.QuietTactic
import Derived.BigQuiet
namespace Go.Proofs.Ytjcbffkdemadnaa
open Go.RowKit

/-- The first j numbers are marked: k0, k0 + 1 .. -/
def marksP (k0 : Int) (L : List Int) (j : Nat) : List Int := ((List.range j).map fun (i : Nat) => k0 + (i : Int)) ++ L.drop j
/-- A marked list. -/
def marksL (k0 : Int) (n : Nat) : List Int := (List.range n).map fun (i : Nat) => k0 + (i : Int)
theorem marksP_length (k0 : Int) (L : List Int) (j : Nat) (hj : j ≤ L.length) : (marksP k0 L j).length = L.length := by
  simp [marksP]; omega
theorem marksP_all (k0 : Int) (L : List Int) : marksP k0 L L.length = marksL k0 L.length := by simp [marksP, marksL]
theorem marksP_succ (k0 : Int) (L : List Int) (j : Nat) (hj : j < L.length) : (marksP k0 L j).set j (k0 + (j : Int)) = marksP k0 L (j + 1) := by
  apply List.ext_getElem?
  intro i
  have h1 : ((List.range j).map fun (i : Nat) => k0 + (i : Int)).length = j := by simp
  have h2 : ((List.range (j + 1)).map fun (i : Nat) => k0 + (i : Int)).length = j + 1 := by simp
  simp only [marksP, List.getElem?_set, List.length_append, h1, List.length_drop]
  by_cases hij : j = i
  · subst hij
    rw [if_pos rfl, if_pos (by omega), List.getElem?_append_left (by omega)]
    simp
  · rw [if_neg hij]
    by_cases hlt : i < j
    · rw [List.getElem?_append_left (by omega), List.getElem?_append_left (by omega)]
      simp [hlt, show i < j + 1 by omega]
    · rw [List.getElem?_append_right (by omega), List.getElem?_append_right (by omega), h1, h2]
      simp only [List.getElem?_drop]
      congr 1
      omega
theorem marksL_getD (k0 : Int) (n j : Nat) (hj : j < n) : (marksL k0 n).getD j 0 = k0 + (j : Int) := by
  simp [marksL, hj]
theorem marksL_length (k0 : Int) (n : Nat) : (marksL k0 n).length = n := by simp [marksL]
/-- One number of an owned row is written. -/
theorem ownsInts_set {w : World} {B g n cap : Nat} {L : List Int} (h : ownsInts w B (.slice (some ⟨g, 0, none⟩) n cap) L) (hn : L.length = n) (j : Nat) (z : Int) :
    ownsInts (w.setCell ⟨g, j, none⟩ (.int .i64 z)) B (.slice (some ⟨g, 0, none⟩) n cap) (L.set j z) := by
  subst hn
  rcases h with h | ⟨h0, h1, a, h2⟩
  · have := (World.ownsRow.stored h j (.int .i64 z)).1
    refine .inl ?_
    simpa [List.map_set] using this
  · have : L = [] := List.eq_nil_of_length_eq_zero h0
    subst this
    exact .inr ⟨rfl, rfl, a, h2⟩
end Go.Proofs.Ytjcbffkdemadnaa
