/- The draws of goals and of cells on the way to them: what they draw are lists of numbers of the call's own, whatever the code. -/
import Derived.Test.YtfdmcnnjifggnabGreatDoorCur
import Derived.Test.YtfdmcnnjifggnabGreatDoorFind
import Derived.Test.YtfdmcnnjifggnabGreatDoorOrder
import Derived.Test.YtfdmcnnjifggnabGreatDoorWay
import Derived.Lib.Hide
namespace Go.Proofs.YtfdmcnnjifggnabGreatDoor
open Go.RowKit

/-- A short list of the call's own is returned. -/
def RetOwn (k : Nat) (W : World) (e : Ending) (w' : World) : Prop := ∃ (ao : Option Addr) (cap : Nat) (L : List Int), e = .returned (.slice ao L.length cap) ∧ L.length ≤ k ∧ ownsInts w' W.heap.size (.slice ao L.length cap) L
theorem own_first {w : World} {B n cap : Nat} {ao : Option Addr} {L : List Int} (h : ownsInts w B (.slice ao n cap) L) (hn : 0 < L.length) : ∃ g, ao = some ⟨g, 0, none⟩ ∧ B ≤ g ∧ g < w.heap.size ∧ ∀ j, j < L.length → w.cell? ⟨g, j, none⟩ = some (.int .i64 (L.getD j 0)) := by
  obtain ⟨ao', cap', he, h0 | ⟨g, rfl, h1, h2, h3, h4⟩⟩ := ownsInts_shape h
  · rw [h0] at hn; simp at hn
  · simp only [Value.slice.injEq] at he
    obtain ⟨rfl, -, -⟩ := he
    exact ⟨g, rfl, h1, h2, h4⟩
theorem RdI_onlyC {b : Nat} {w w' : World} {ao : Option Addr} {L : List Int} (h : RdI w ao L) (hc : ∀ c o, ao = some ⟨c, o, none⟩ → c ≠ b) (ho : OnlyC b w w') : RdI w' ao L := by
  rcases h with h | ⟨k, o, rfl, hlt, hcell⟩
  · exact .inl h
  · exact .inr ⟨k, o, rfl, Nat.lt_of_lt_of_le hlt ho.size, fun j hj => (ho.cell hlt (hc k o rfl)).trans (hcell j hj)⟩
/-- A short list is returned, which lies in new memory. -/
theorem RetOwn_new {k : Nat} {w W : World} {e : Ending} {w' : World} (h : RetOwn k W e w') (hw : w.heap.size ≤ W.heap.size) : RetOwn k w e w' := by
  obtain ⟨ao, cap, L, h1, h2, h3⟩ := h
  exact ⟨ao, cap, L, h1, h2, ownsInts_le h3 hw⟩
theorem own_ne {w : World} {B b n cap : Nat} {ao : Option Addr} {L : List Int} (h : ownsInts w B (.slice ao n cap) L) (hb : b < B) (hL : L ≠ []) : ∀ c o, ao = some ⟨c, o, none⟩ → c ≠ b := by
  obtain ⟨g, rfl, hg, -⟩ := own_first h (by rcases Nat.eq_zero_or_pos L.length with h9 | h9; exact absurd (List.eq_nil_of_length_eq_zero h9) hL; exact h9)
  intro c o he
  have he' : g = c ∧ 0 = o := by simpa using he
  omega
theorem own_cap {w : World} {B n cap : Nat} {ao : Option Addr} {L : List Int} (h : ownsInts w B (.slice ao n cap) L) : L.length ≤ cap ∨ L = [] := by
  obtain ⟨ao', cap', he, h0 | ⟨g, rfl, h1, h2, h3, h4⟩⟩ := ownsInts_shape h
  · exact .inr h0
  · simp only [Value.slice.injEq] at he
    exact .inl (by omega)
/-- A number and a short list are returned. -/
def RetIntOwn (k : Nat) (W : World) (e : Ending) (w' : World) : Prop := ∃ (x : Int) (ao : Option Addr) (cap : Nat) (L : List Int), e = .returned (.tuple #[.int .i64 x, .slice ao L.length cap]) ∧ L.length ≤ k ∧ ownsInts w' W.heap.size (.slice ao L.length cap) L
end Go.Proofs.YtfdmcnnjifggnabGreatDoor
