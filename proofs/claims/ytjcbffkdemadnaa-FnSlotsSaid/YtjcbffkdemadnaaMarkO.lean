/- The contract of the law's own marking of a slice of numbers: no other block is changed. -/
import Derived.Test.YtjcbffkdemadnaaMarks
import Derived.Lib.Hide
import Derived.Deep.QuietTactic
import Derived.BigQuiet
namespace Go.Proofs.Ytjcbffkdemadnaa
open Go.RowKit

/-- No block but g is changed. -/
def OnlyB (n g : Nat) (w w' : World) : Prop := w'.heap.size = w.heap.size ∧ ∀ k, n = 0 ∨ k ≠ g → w'.heap[k]? = w.heap[k]?
theorem OnlyB_set {n g : Nat} {w w' : World} (h : OnlyB n g w w') (hn : 0 < n) (j : Nat) (v : Value) : OnlyB n g w (w'.setCell ⟨g, j, none⟩ v) := by
  refine ⟨by rw [heapSet]; exact h.1, fun k hk0 => ?_⟩
  rw [← h.2 k hk0]
  have hk : k ≠ g := by rcases hk0 with h | h <;> omega
  exact Below.heap_setCell _ _ _ _ (by first | exact hk | exact Ne.symm hk | (show _ ≠ _; omega))
/-- What is owned in later blocks stays. -/
theorem ownsG_only {w w' : World} {g B : Nat} {e : TypeId} {size : Nat} {v : Value} {n : Nat} {xs : List Value} (h : ownsG w B e size v n xs) {m : Nat} (ho : OnlyB m g w w') (hg : m = 0 ∨ g < B) : ownsG w' B e size v n xs := by
  rcases h with h | h
  · refine .inl ⟨h.1, ?_⟩
    rcases h.2 with h2 | ⟨g', cap, cur, rfl, hBg, hg', r⟩
    · exact .inl h2
    · exact .inr ⟨g', cap, cur, rfl, hBg, by rw [ho.2 g' (by omega)]; exact hg', r⟩
  · exact .inr h
theorem own_lt {w w2 : World} {B g n cap : Nat} {L : List Int} (ho : ownsInts w B (.slice (some ⟨g, 0, none⟩) n cap) L) (hn : L.length = n) (hsz : w.heap.size ≤ w2.heap.size) : n = 0 ∨ g < w2.heap.size := by
  obtain ⟨ao', cap', he, hL | ⟨g', rfl, hBg, hg, _, _⟩⟩ := ownsInts_shape ho
  · left; rw [hL] at hn; simpa using hn.symm
  · simp only [Value.slice.injEq, Option.some.injEq, Addr.mk.injEq] at he
    obtain ⟨⟨rfl, -⟩, -, -⟩ := he
    exact .inr (by omega)
end Go.Proofs.Ytjcbffkdemadnaa
