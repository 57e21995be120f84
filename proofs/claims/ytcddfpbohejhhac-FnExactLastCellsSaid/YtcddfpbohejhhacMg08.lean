/- Joined texts: Least, Plays, HasB. -/
import Derived.Test.YtcddfpbohejhhacMg05
import Derived.Test.YtcddfpbohejhhacMg02
import Derived.Lib.Hide
namespace Go.Proofs.Ytcddfpbohejhhac
open Go.RowKit

/-- From k on, looking at most so often, the first number that is not in the list. -/
def mexF (L : List Int) : Nat → Nat → Nat
  | 0, k => k
  | t + 1, k => if L.contains (k : Int) = true then mexF L t (k + 1) else k
/-- The least number that is not in a list. -/
def mexN (L : List Int) : Nat := mexF L (L.length + 1) 0
theorem pigeon : ∀ (k : Nat) (L : List Int), (∀ i : Nat, i < k → (i : Int) ∈ L) → k ≤ L.length
  | 0, _, _ => Nat.zero_le _
  | k + 1, L, h => by
    have hk := h k (by omega)
    have h1 := pigeon k (L.erase (k : Int)) (fun i hi => (List.mem_erase_of_ne (by omega)).2 (h i (by omega)))
    rw [List.length_erase_of_mem hk] at h1
    have := List.length_pos_of_mem hk
    omega
theorem mexF_in {L : List Int} {k : Nat} (h : L.contains (k : Int) = true) (hk : k < L.length) : mexF L (L.length + 1 - k) k = mexF L (L.length + 1 - (k + 1)) (k + 1) := by
  rw [show L.length + 1 - k = (L.length + 1 - (k + 1)) + 1 by omega]
  show (if _ then _ else _) = _
  rw [if_pos h]
theorem mexF_out {L : List Int} {k : Nat} (h : L.contains (k : Int) = false) (hk : k ≤ L.length) : mexF L (L.length + 1 - k) k = k := by
  rw [show L.length + 1 - k = (L.length - k) + 1 by omega]
  show (if _ then _ else _) = _
  rw [if_neg (by rw [h]; decide)]
/-- All numbers below k are in the list, and the least absent is looked for from k on. -/
def mexAt (L : List Int) (k : Nat) : Prop := (∀ i : Nat, i < k → (i : Int) ∈ L) ∧ mexF L (L.length + 1 - k) k = mexN L
theorem mexAt_zero (L : List Int) : mexAt L 0 := ⟨fun _ h => absurd h (by omega), rfl⟩
theorem mexAt_le {L : List Int} {k : Nat} (h : mexAt L k) : k ≤ L.length := pigeon k L h.1
theorem mexAt_in {L : List Int} {k : Nat} (h : mexAt L k) (hc : L.contains (k : Int) = true) : mexAt L (k + 1) ∧ k < L.length := by
  have h1 : ∀ i : Nat, i < k + 1 → (i : Int) ∈ L := fun i hi => by
    rcases Nat.lt_or_ge i k with h2 | h2
    · exact h.1 i h2
    · have : i = k := by omega
      subst this; simpa using hc
  have h2 := pigeon (k + 1) L h1
  exact ⟨⟨h1, by rw [← mexF_in hc (by omega)]; exact h.2⟩, by omega⟩
theorem mexAt_out {L : List Int} {k : Nat} (h : mexAt L k) (hc : L.contains (k : Int) = false) : mexN L = k := by
  rw [← h.2]; exact mexF_out hc (mexAt_le h)
/-- A slice of ints reads as the ints. -/
theorem RdI_of_V {w : World} {ao : Option Addr} {vs : List Int} (h : RdV w ao (vs.map (Value.int .i64))) : RdI w ao vs := by
  rcases h with h | ⟨b, off, rfl, hlt, hc⟩
  · exact .inl (by simpa using h)
  · refine .inr ⟨b, off, rfl, hlt, fun j hj => ?_⟩
    rw [hc j (by simpa using hj)]
    simp [hj]
end Go.Proofs.Ytcddfpbohejhhac

namespace Go.Proofs.Ytcddfpbohejhhac
open Go.RowKit

/-- Numbers one after the other into one. -/
def foldT (f : Int → Int → Int) (z : Int) (L : List Int) : Int := L.foldl f z
theorem foldT_succ (f : Int → Int → Int) (z : Int) (L : List Int) (k : Nat) (h : k < L.length) : foldT f z (L.take (k + 1)) = f (foldT f z (L.take k)) (L.getD k 0) := by
  rw [List.take_add_one, List.getElem?_eq_getElem h, List.getD_eq_getElem?_getD, List.getElem?_eq_getElem h]
  unfold foldT
  rw [List.foldl_append]
  rfl
def plusW (a b : Int) : Int := wrap64 (a + b)
def playsF (_ : Nat) (vs : List Int) : Int := if vs.length = 0 then 1 else foldT plusW 0 vs
def longF (_ : Nat) (vs : List Int) : Int := if vs.length = 0 then 0 else wrap64 (1 + foldT max (vs.getD 0 0) vs)
def shortF (_ : Nat) (vs : List Int) : Int := if vs.length = 0 then 0 else wrap64 (1 + foldT min (vs.getD 0 0) vs)
end Go.Proofs.Ytcddfpbohejhhac

namespace Go.Proofs.Ytcddfpbohejhhac
open Go.RowKit

/-- The place of the first false, the first element having the place n, or -1. -/
def idxB : List Bool → Nat → Int
  | [], _ => -1
  | y :: ys, n => if y = false then (n : Int) else idxB ys (n + 1)
theorem idxB_ge (L : List Bool) (n : Nat) : (decide (0 ≤ idxB L n)) = L.contains false := by
  induction L generalizing n with
  | nil => simp [idxB]
  | cons y ys ih =>
    unfold idxB
    cases y
    · simp
    · rw [if_neg (by decide), ih]; simp
theorem dropB (L : List Bool) (k : Nat) (h : k < L.length) : L.drop k = L.getD k false :: L.drop (k + 1) := by
  rw [List.drop_eq_getElem_cons h]; simp [h]
/-- A slice reads as the bools. -/
def RdB (w : World) (ao : Option Addr) (L : List Bool) : Prop := L = [] ∨ ∃ b off, ao = some ⟨b, off, none⟩ ∧ b < w.heap.size ∧ ∀ j, j < L.length → w.cell? ⟨b, off + j, none⟩ = some (.bool (L.getD j false))
theorem RdB_of_V {w : World} {ao : Option Addr} {vs : List Bool} (h : RdV w ao (vs.map Value.bool)) : RdB w ao vs := by
  rcases h with h | ⟨b, off, rfl, hlt, hc⟩
  · exact .inl (by simpa using h)
  · refine .inr ⟨b, off, rfl, hlt, fun j hj => ?_⟩
    rw [hc j (by simpa using hj)]
    simp [hj]
theorem RdB_below {w w' : World} {ao : Option Addr} {vs : List Bool} (h : RdB w ao vs) (hb : Below w.heap.size w w') : RdB w' ao vs := by
  rcases h with h | ⟨b, off, rfl, hlt, hc⟩
  · exact .inl h
  · have := hb.size
    exact .inr ⟨b, off, rfl, by omega, fun j hj => (hb.cell (p := ⟨b, off + j, none⟩) (by show b < _; omega)).trans (hc j hj)⟩
def missF (_ : Nat) (vs : List Bool) : Bool := decide (vs.length = 0) || vs.contains false
end Go.Proofs.Ytcddfpbohejhhac
