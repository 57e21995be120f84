/- A part of a slice of Slots that is read. -/
import Derived.Test.YtjcbffkdemadnaaAppSl
import Derived.Lib.Hide
namespace Go.Proofs.Ytjcbffkdemadnaa
open Go.RowKit

theorem RdS_take {w : World} {ao : Option Addr} {l : List (Int × Int)} (h : RdS w ao l) (i : Nat) (hi : i ≤ l.length) : RdS w ao (l.take i) := by
  rcases h with h | ⟨b, off, rfl, hlt, hc⟩
  · exact .inl (by rw [h]; simp)
  · refine .inr ⟨b, off, rfl, hlt, fun j hj => ?_⟩
    have hj' : j < i := by simp at hj; omega
    have e : (l.take i).getD j (0, 0) = l.getD j (0, 0) := by simp [List.getElem?_take_of_lt hj']
    rw [e]
    exact hc j (by omega)
theorem RdS_drop {w : World} {b off : Nat} {l : List (Int × Int)} (h : RdS w (some ⟨b, off, none⟩) l) (i : Nat) (hi : i ≤ l.length) : RdS w (some ⟨b, off + i * 2, none⟩) (l.drop i) := by
  rcases h with h | ⟨b', off', he, hlt, hc⟩
  · exact .inl (by rw [h]; simp)
  · cases he
    refine .inr ⟨b, off + i * 2, rfl, hlt, fun j hj => ?_⟩
    have hj' : i + j < l.length := by simp at hj; omega
    have e : (l.drop i).getD j (0, 0) = l.getD (i + j) (0, 0) := by simp
    rw [e, show off + i * 2 + j * 2 = off + (i + j) * 2 by omega]
    exact hc (i + j) hj'
end Go.Proofs.Ytjcbffkdemadnaa
