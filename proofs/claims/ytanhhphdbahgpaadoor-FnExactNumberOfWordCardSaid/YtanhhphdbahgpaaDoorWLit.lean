/- Contracts of the functions that count the bars of a word, and of those that count changes between rows. -/
import Derived.Test.YtanhhphdbahgpaaDoorShort
import Derived.Test.YtanhhphdbahgpaaDoorFar
import Derived.Lib.Hide
namespace Go.Proofs.YtanhhphdbahgpaaDoor
open Go.RowKit

/-- The bars of the first k cells. -/
def litP (L : List Int) : Nat → Nat
  | 0 => 0
  | k + 1 => litP L k + cnt (L.getD k 0).toNat
theorem litP_le (L : List Int) (k : Nat) : litP L k ≤ 7 * k := by
  induction k with
  | zero => exact Nat.le_refl _
  | succ k ih => have := cnt_le (L.getD k 0).toNat; unfold litP; omega
def litZ (s : ByteArray) : Int := if wordB s 12 = true then ((litP (rowW s) s.size : Nat) : Int) else 0
theorem memGetD {R : List Int} {k : Nat} (h : k < R.length) : R.getD k 0 ∈ R := by
  have e : R.getD k 0 = R[k] := by rw [List.getD_eq_getElem?_getD, List.getElem?_eq_getElem h]; rfl
  rw [e]; exact List.getElem_mem _
theorem cellNat {x : Int} (h : inB 0 127 x = true) : ∃ c : Nat, x = (c : Int) ∧ c < 128 := by
  rw [inB_iff] at h
  obtain ⟨c, rfl⟩ := Int.eq_ofNat_of_zero_le h.1
  exact ⟨c, rfl, by omega⟩
end Go.Proofs.YtanhhphdbahgpaaDoor
