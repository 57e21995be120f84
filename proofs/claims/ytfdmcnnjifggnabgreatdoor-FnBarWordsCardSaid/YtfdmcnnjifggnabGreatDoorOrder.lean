/- Contracts of the functions that tell whether a list is an order of digits. -/
import Derived.Test.YtfdmcnnjifggnabGreatDoorFind
import Derived.Test.YtfdmcnnjifggnabGreatDoorCell
import Derived.Lib.Hide
import Derived.Deep.QuietTactic
import Derived.BigQuiet
import Derived.WalkSpells
namespace Go.Proofs.YtfdmcnnjifggnabGreatDoor
open Go.RowKit

/-- The first k elements are digits, each other than those before it. -/
def okAt (L : List Int) (i : Nat) : Bool := inB 0 9 (L.getD i 0) && !((L.take i).contains (L.getD i 0))
def okP (L : List Int) (k : Nat) : Bool := (List.range k).all (okAt L)
/-- The list is an order. -/
def orderB (L : List Int) : Bool := okP L L.length
theorem okP_succ (L : List Int) (k : Nat) : okP L (k + 1) = (okP L k && okAt L k) := by simp [okP, List.range_succ]
theorem okP_le {L : List Int} {j k : Nat} (h : okP L k = true) (hj : j ≤ k) : okP L j = true := by
  simp only [okP, List.all_eq_true, List.mem_range] at h ⊢
  exact fun i hi => h i (by omega)
theorem okP_bad {L : List Int} {k : Nat} (hk : k < L.length) (h : okAt L k = false) : orderB L = false := by
  cases ho : orderB L with
  | false => rfl
  | true =>
    have := okP_le ho (show k + 1 ≤ L.length by omega)
    rw [okP_succ, h] at this
    simp at this
/-- Different elements of a list are no more than that list has. -/
theorem few : ∀ (L M : List Int), (∀ i, i < L.length → L.getD i 0 ∈ M ∧ (L.take i).contains (L.getD i 0) = false) → L.length ≤ M.length := by
  intro L
  induction hn : L.length generalizing L with
  | zero => intro M _; omega
  | succ n ih =>
    intro M h
    have h1 := h n (by omega)
    have hlen : (L.take n).length = n := by rw [List.length_take]; omega
    have h2 := ih (L.take n) hlen (M.erase (L.getD n 0)) (by
      intro i hi
      have hin : i < n := by omega
      have e : (L.take n).getD i 0 = L.getD i 0 := by simp only [List.getD_eq_getElem?_getD, List.getElem?_take_of_lt hin]
      have et : (L.take n).take i = L.take i := by rw [List.take_take]; congr 1; omega
      have h3 := h i (by omega)
      rw [e, et]
      refine ⟨?_, h3.2⟩
      rw [List.mem_erase_of_ne]
      · exact h3.1
      · intro he
        have hm : (L.take n).contains (L.getD n 0) = true := by
          rw [List.contains_iff_mem, ← he, ← e]
          have : (L.take n).getD i 0 = (L.take n)[i]'(by omega) := by rw [List.getD_eq_getElem?_getD, List.getElem?_eq_getElem (by omega)]; rfl
          rw [this]
          exact List.getElem_mem _
        rw [hm] at h1
        exact absurd h1.2 (by simp))
    rw [List.length_erase_of_mem h1.1] at h2
    have : 0 < M.length := List.length_pos_of_mem h1.1
    omega
theorem okP_few {L : List Int} {k : Nat} (hk : k ≤ L.length) (h : okP L k = true) : k ≤ 10 := by
  have hlen : (L.take k).length = k := by rw [List.length_take]; omega
  have := few (L.take k) [0, 1, 2, 3, 4, 5, 6, 7, 8, 9] (by
    intro i hi
    have hik : i < k := by omega
    simp only [okP, List.all_eq_true, List.mem_range] at h
    have h1 := h i hik
    have e : (L.take k).getD i 0 = L.getD i 0 := by simp only [List.getD_eq_getElem?_getD, List.getElem?_take_of_lt hik]
    have et : (L.take k).take i = L.take i := by rw [List.take_take]; congr 1; omega
    rw [e, et]
    simp only [okAt, Bool.and_eq_true, inB_iff, Bool.not_eq_true'] at h1
    refine ⟨?_, h1.2⟩
    simp only [List.mem_cons, List.not_mem_nil, or_false]
    omega)
  rw [hlen] at this
  simpa using this
theorem orderB_le {L : List Int} (h : orderB L = true) : L.length ≤ 10 := okP_few (Nat.le_refl _) h

end Go.Proofs.YtfdmcnnjifggnabGreatDoor
