/- How a slice of integers is read. -/
import Derived.Test.YtjcbffkdemadnaaOwn
import Derived.Lib.Hide
import Derived.Deep.QuietTactic
import Derived.BigQuiet
namespace Go.Proofs.Ytjcbffkdemadnaa
open Go.RowKit

/-- A slice at ao reads as the numbers L. -/
def RdI (w : World) (ao : Option Addr) (L : List Int) : Prop :=
  L = [] ∨ ∃ b off, ao = some ⟨b, off, none⟩ ∧ b < w.heap.size ∧ ∀ j, j < L.length → w.cell? ⟨b, off + j, none⟩ = some (.int .i64 (L.getD j 0))
theorem RdI_below {w w' : World} {ao : Option Addr} {L : List Int} (h : RdI w ao L) (hb : Below w.heap.size w w') : RdI w' ao L := by
  rcases h with h | ⟨b, off, rfl, hlt, hc⟩
  · exact .inl h
  · have := hb.size
    exact .inr ⟨b, off, rfl, by omega, fun j hj => (hb.cell (p := ⟨b, off + j, none⟩) (by show b < _; omega)).trans (hc j hj)⟩
theorem RdI_owns {w : World} {B : Nat} {ao : Option Addr} {n cap : Nat} {L : List Int} (h : ownsInts w B (.slice ao n cap) L) : RdI w ao L := by
  obtain ⟨ao', cap', he, hL | ⟨g, rfl, _, hlt, _, hc⟩⟩ := ownsInts_shape h
  · exact .inl hL
  · simp only [Value.slice.injEq] at he
    obtain ⟨rfl, _, _⟩ := he
    exact .inr ⟨g, 0, rfl, hlt, fun j hj => by simpa using hc j hj⟩
theorem RdI_row {w : World} {ao : Option Addr} {len cap : Nat} {zs : List Int} (h : RowIn .i64 w ao len cap zs) : RdI w ao (zs.take len) ∧ (zs.take len).length = len ∧ len ≤ maxLen := by
  rcases h with ⟨rfl, rfl, rfl, rfl⟩ | ⟨x, rfl, hl, hm, hz, hc, _⟩
  · exact ⟨.inl rfl, rfl, Nat.zero_le _⟩
  · have hlen : (zs.take len).length = len := by rw [List.length_take]; omega
    refine ⟨?_, hlen, by omega⟩
    by_cases h0 : len = 0
    · subst h0; exact .inl (by simp)
    · right
      obtain ⟨b, off, rfl, hcell⟩ := ints_at hc (by omega)
      have h00 := hcell 0 (by omega)
      refine ⟨b, off, rfl, World.block_lt_of_cell? w _ h00, fun j hj => ?_⟩
      rw [hcell j (by omega)]
      congr 2
      simp only [List.getD_eq_getElem?_getD]
      rw [List.getElem?_take_of_lt (by omega)]
end Go.Proofs.Ytjcbffkdemadnaa
