/- Contracts of the functions that tell whether a cell is on the way to a goal. -/
import Derived.Test.YtfdmcnnjifggnabGreatDoorFindF
import Derived.Test.YtfdmcnnjifggnabGreatDoorDigit
import Derived.Test.YtfdmcnnjifggnabGreatDoorOrder
import Derived.Lib.Hide
import Derived.Deep.RegionHeld3
namespace Go.Proofs.YtfdmcnnjifggnabGreatDoor
open Go.RowKit

/-- All bars of a cell light in the cell of a digit. -/
def onP (c x : Int) : Bool := (bits .andNot .i64 c (digC x.toNat) == 0)
/-- A cell is on the way to a goal. -/
def wayB (c : Int) (L : List Int) : Bool := L.any (onP c)
/-- All numbers of a list are digits. -/
def allDig (L : List Int) : Prop := ∀ x ∈ L, inB 0 9 x = true
theorem orderB_dig {L : List Int} (h : orderB L = true) : allDig L := by
  intro x hx
  obtain ⟨i, hi, rfl⟩ := List.getElem_of_mem hx
  have := okP_le h (show i + 1 ≤ L.length by omega)
  rw [okP_succ, Bool.and_eq_true] at this
  have h2 := this.2
  simp only [okAt, Bool.and_eq_true] at h2
  have e : L.getD i 0 = L[i] := by simp [hi]
  rw [e] at h2
  exact h2.1
theorem and_full : ∀ a : Fin 128, ∀ b : Fin 128, ((a.val &&& b.val) == a.val) = ((a.val &&& (18446744073709551615 - b.val)) == 0) := by decide +kernel
theorem on_eq {c : Int} (hc : inB 0 127 c = true) (d : Nat) : (bits .and .i64 c (digC d) == c) = (bits .andNot .i64 c (digC d) == 0) := by
  rw [inB_iff] at hc
  obtain ⟨C, rfl⟩ := Int.eq_ofNat_of_zero_le hc.1
  have hd := digC_lt d
  have := and_full ⟨C, by omega⟩ ⟨digC d, hd⟩
  simp only at this
  rw [and64 _ _ (by omega) (by omega), andNot64 _ _ (by omega) (by omega)]
  rw [Bool.eq_iff_iff] at this ⊢
  simp only [beq_iff_eq] at this ⊢
  omega
theorem mem_getD {L : List Int} {k : Nat} (h : k < L.length) : L.getD k 0 ∈ L := by
  have : L.getD k 0 = L[k] := by simp [h]
  rw [this]; exact List.getElem_mem _

/-- The goal and the cell are valid. -/
def onOk (c : Int) (L : List Int) (n : Nat) : Bool := (orderB L && decide (0 < n)) && inB 0 127 c
theorem onOk_dig {c : Int} {L : List Int} {n : Nat} (h : onOk c L n = true) : allDig L := orderB_dig (by unfold onOk at h; simp only [Bool.and_eq_true] at h; exact h.1.1)
end Go.Proofs.YtfdmcnnjifggnabGreatDoor
