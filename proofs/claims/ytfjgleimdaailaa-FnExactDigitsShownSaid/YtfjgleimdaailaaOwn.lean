/- Slices that a call makes: what is owned of them, how they are read later, and append's law for them. -/
import Derived.Test.YtfjgleimdaailaaBase
import Derived.Maps.AppendAt
namespace Go.Proofs.Ytfjgleimdaailaa
open Go.RowKit

theorem infoInt : (Try.prog.info? 3).map (fun i => (i.zero, i.size, i.bytes)) = some (some (.int .i64 0), 1, 8) := by kernel_rfl

/-- The slice value v owns a row of the numbers L, in a block from B on. -/
def ownsInts (w : World) (B : Nat) (v : Value) (L : List Int) : Prop := w.ownsRow B 3 1 v L.length (L.map (Value.int .i64))

theorem ownsInts_nil (w : World) (B : Nat) : ownsInts w B (.slice none 0 0) [] := World.ownsRow_nil w B _ _
theorem ownsInts_empty (w : World) (B : Nat) (h : B ≤ w.heap.size) : ownsInts (w.alloc (.cells #[] 3)) B (.slice (some ⟨w.heap.size, 0, none⟩) 0 0) [] := World.ownsRow_lit w #[] 0 h (Nat.zero_le _) rfl
theorem ownsInts_shape {w : World} {B : Nat} {v : Value} {L : List Int} (h : ownsInts w B v L) : ∃ ao cap, v = .slice ao L.length cap ∧
    (L = [] ∨ ∃ g, ao = some ⟨g, 0, none⟩ ∧ B ≤ g ∧ g < w.heap.size ∧ L.length ≤ cap ∧ ∀ j, j < L.length → w.cell? ⟨g, j, none⟩ = some (.int .i64 (L.getD j 0))) := by
  have h2 := h
  rcases h.2 with ⟨rfl, hn⟩ | ⟨g, cap, cur, rfl, hb, hg, hnc, _⟩
  · have : L = [] := List.eq_nil_of_length_eq_zero hn
    subst this
    exact ⟨none, 0, rfl, .inl rfl⟩
  · refine ⟨some ⟨g, 0, none⟩, cap, rfl, .inr ⟨g, rfl, hb, (Array.getElem?_eq_some_iff.1 hg).1, hnc, fun j hj => ?_⟩⟩
    rw [World.ownsRow.cellAt h2 j (by omega)]
    simp [hj]
/-- What is owned stays owned in a world that differs in new blocks alone. -/
theorem ownsRow_below {w w' : World} {B C : Nat} {e : TypeId} {size : Nat} {v : Value} {n : Nat} {xs : List Value} (h : w.ownsRow B e size v n xs) (hb : Below w.heap.size w w') (hC : C ≤ B) : w'.ownsRow C e size v n xs := by
  refine ⟨h.1, ?_⟩
  rcases h.2 with h2 | ⟨g, cap, cur, hv, hBg, hg, r⟩
  · exact .inl h2
  · exact .inr ⟨g, cap, cur, hv, by omega, by rw [hb.block g (Array.getElem?_eq_some_iff.1 hg).1]; exact hg, r⟩
theorem ownsInts_below {w w' : World} {B C : Nat} {v : Value} {L : List Int} (h : ownsInts w B v L) (hb : Below w.heap.size w w') (hC : C ≤ B) : ownsInts w' C v L := ownsRow_below h hb hC
theorem ownsInts_le {w : World} {B C : Nat} {v : Value} {L : List Int} (h : ownsInts w B v L) (hC : C ≤ B) : ownsInts w C v L := ownsInts_below h (Below.refl _ _) hC
theorem ownsInts_alloc {w : World} {B : Nat} {v : Value} {L : List Int} (h : ownsInts w B v L) (o : Obj) : ownsInts (w.alloc o) B v L := World.ownsRow.alloc h o
theorem ownsInts_drew {w : World} {B : Nat} {v : Value} {L : List Int} (h : ownsInts w B v L) : ownsInts w.drew B v L := h

/-- append of one number to a slice of the call's own. -/
theorem wpAppendInt {ops : Array Oper} {rest : List Oper} {o : Oper} {a : Act} {Q : Exit → Act → World → Prop} (w : World) (hgd : o.guard = none) (s x : Operand)
    (ho : o.op = .call { callee := .builtin .append, args := #[s, x], argTypes := #[44, 44] })
    (B : Nat) (v : Value) (L : List Int) (hs : a.eval s = v) (hown : ownsInts w B v L) (z : Int) (hx : a.eval x = .slice (some ⟨w.heap.size, 0, none⟩) 1 1)
    (hn : L.length ≤ 1000000000) (hB : B ≤ w.heap.size)
    (h : ∀ ao cap w', ownsInts w' B (.slice ao (L.length + 1) cap) (L ++ [z]) → Below B w w' → wpList Try.prog ops Q rest (a.put o.dst (.slice ao (L.length + 1) cap)) w') :
    wpList Try.prog ops Q (o :: rest) a (w.alloc (.cells #[.int .i64 z] 3)) := by
  obtain ⟨i0, hi, hz0, hz1, hz2⟩ := info_parts infoInt
  refine wpList_append_own _ hgd s x _ ho B 3 i0 (.int .i64 0) 1 8 Try.underlying44 hi hz0 hz1 hz2 rfl (by decide) v L.length _ hs (ownsInts_alloc hown _) ⟨w.heap.size, 0, none⟩ 1 1 [.int .i64 z] hx rfl
    (cell_one_new _ _ _) (by simp [Value.oneCell']) (by unfold maxLen; omega) (by omega) (by simp; omega) ?_
  intro v' w' h2 hg _
  have h3 : ownsInts w' B v' (L ++ [z]) := by unfold ownsInts; simpa using h2
  obtain ⟨ao, cap, rfl, _⟩ := ownsInts_shape h3
  simp only [List.length_append, List.length_cons, List.length_nil, Nat.zero_add] at h3 ⊢
  exact h ao cap w' h3 (((Below.refl B w).alloc hB _).grown hg (by simp; omega) fun k hk => (World.ownsRow.lt hown k hk).1)
end Go.Proofs.Ytfjgleimdaailaa
