/- Slices of slices that a call makes. -/
import Derived.Test.YtjlhghbikmipgaaDoorOwn
import Derived.Test.YtjlhghbikmipgaaDoorRd
namespace Go.Proofs.YtjlhghbikmipgaaDoor
open Go.RowKit

theorem infoInts : (Tryd.prog.info? 25).map (fun i => (i.zero, i.size, i.bytes)) = some (some (.slice none 0 0), 1, 24) := by kernel_rfl

/-- The value v is a slice that the world lets its owner hold, with the numbers L. -/
def isInts (w : World) (B : Nat) (v : Value) (L : List Int) : Prop := ∃ ao cap, v = .slice ao L.length cap ∧ ownsInts w B (.slice ao L.length cap) L
/-- The slice value v owns a row of slices, each of which owns its numbers. -/
def ownsIntss (w : World) (B : Nat) (v : Value) (LL : List (List Int)) : Prop :=
  ∃ vs : List Value, ownsG w B 25 1 v LL.length vs ∧ ∀ i, i < LL.length → isInts w B (vs.getD i undef) (LL.getD i [])
theorem isInts_below {w w' : World} {B C : Nat} {v : Value} {L : List Int} (h : isInts w B v L) (hb : Below w.heap.size w w') (hC : C ≤ B) : isInts w' C v L := by
  obtain ⟨ao, cap, rfl, ho⟩ := h
  exact ⟨ao, cap, rfl, ownsInts_below ho hb hC⟩
theorem ownsIntss_nil (w : World) (B : Nat) : ownsIntss w B (.slice none 0 0) [] := ⟨[], .inl (World.ownsRow_nil w B _ _), fun i hi => by simp at hi⟩
theorem ownsIntss_zero (w : World) (B : Nat) (a : Addr) : ownsIntss w B (.slice (some a) 0 0) [] := ⟨[], .inr ⟨rfl, rfl, a, rfl⟩, fun i hi => by simp at hi⟩
theorem ownsIntss_below {w w' : World} {B C : Nat} {v : Value} {LL : List (List Int)} (h : ownsIntss w B v LL) (hb : Below w.heap.size w w') (hC : C ≤ B) : ownsIntss w' C v LL := by
  obtain ⟨vs, h1, h3⟩ := h
  exact ⟨vs, ownsG_below h1 hb hC, fun i hi => isInts_below (h3 i hi) hb hC⟩
theorem ownsIntss_shape {w : World} {B : Nat} {v : Value} {LL : List (List Int)} (h : ownsIntss w B v LL) : ∃ ao cap, v = .slice ao LL.length cap ∧
    (LL = [] ∨ ∃ g, ao = some ⟨g, 0, none⟩ ∧ B ≤ g ∧ g < w.heap.size ∧ LL.length ≤ cap ∧ ∀ j, j < LL.length → ∃ bo cap', w.cell? ⟨g, j, none⟩ = some (.slice bo (LL.getD j []).length cap') ∧ ownsInts w B (.slice bo (LL.getD j []).length cap') (LL.getD j [])) := by
  obtain ⟨vs, h1, h3⟩ := h
  have hlen := ownsG_len h1
  obtain ⟨ao, cap, rfl, ⟨hn, _⟩ | ⟨g, rfl, hb, hg, hc, hcell, _⟩⟩ := ownsG_shape h1
  · have : LL = [] := List.eq_nil_of_length_eq_zero hn
    subst this
    exact ⟨ao, cap, rfl, .inl rfl⟩
  · refine ⟨_, cap, rfl, .inr ⟨g, rfl, hb, hg, hc, fun j hj => ?_⟩⟩
    obtain ⟨bo, cap', he, ho⟩ := h3 j hj
    refine ⟨bo, cap', ?_, ho⟩
    rw [hcell j (by omega), ← he]
    simp [show j < vs.length by omega]
/-- Numbers that are owned stay so where blocks of another type are written. -/
theorem ownsInts_apart {w w' : World} {B : Nat} {u v : Value} {L : List Int} {e : TypeId} (he : (3 : TypeId) ≠ e) (h : ownsInts w B u L) (hk : ∀ k, k < w.heap.size → (v.ownBlock = some k → ∀ cur, w.heap[k]? ≠ some (.cells cur e (0, 0))) → w'.heap[k]? = w.heap[k]?) : ownsInts w' B u L := by
  rcases h with h | h
  · refine .inl ⟨h.1, ?_⟩
    rcases h.2 with h2 | ⟨g, cap, cur, hv1, hBg, hg, r⟩
    · exact .inl h2
    · refine .inr ⟨g, cap, cur, hv1, hBg, ?_, r⟩
      rw [hk g (Array.getElem?_eq_some_iff.1 hg).1 ?_]
      · exact hg
      · intro _ cur' hc
        rw [hg] at hc
        simp only [Option.some.injEq, Obj.cells.injEq] at hc
        exact he hc.2.1
  · exact .inr h
/-- append of one slice to a slice of slices of the call's own. -/
theorem wpAppendInts {ops : Array Oper} {rest : List Oper} {o : Oper} {a : Act} {Q : Exit → Act → World → Prop} (w : World) (hgd : o.guard = none) (s x : Operand)
    (ho : o.op = .call { callee := .builtin .append, args := #[s, x], argTypes := #[32, 32] })
    (B : Nat) (v : Value) (LL : List (List Int)) (hs : a.eval s = v) (hown : ownsIntss w B v LL) (u : Value) (L : List Int) (hu : ownsInts w B u L) (hx : a.eval x = .slice (some ⟨w.heap.size, 0, none⟩) 1 1)
    (hn : LL.length ≤ 1000000000) (hB : B ≤ w.heap.size)
    (h : ∀ ao cap w', ownsIntss w' B (.slice ao (LL.length + 1) cap) (LL ++ [L]) → Below B w w' → wpList Tryd.prog ops Q rest (a.put o.dst (.slice ao (LL.length + 1) cap)) w') :
    wpList Tryd.prog ops Q (o :: rest) a (w.alloc (.cells #[u] 25)) := by
  obtain ⟨vs, h1, h3⟩ := hown
  have h2 := ownsG_len h1
  simp only [Nat.mul_one] at h2
  obtain ⟨uo, ucap, rfl, _⟩ := ownsInts_shape hu
  refine wpAppendG w hgd s x _ _ (.slice none 0 0) 1 24 ho Tryd.underlying32 infoInts rfl (by decide) (by decide) B v LL.length vs hs h1 [.slice uo L.length ucap] _ hx rfl (by simp [Value.oneCell']) hn hB ?_
  intro ao cap w' hr hb hk
  refine h ao cap w' ⟨vs ++ [.slice uo L.length ucap], by simpa using hr, fun i hi => ?_⟩ hb
  have hkeep : ∀ u' L', isInts w B u' L' → isInts w' B u' L' := by
    rintro u' L' ⟨ao, cap, rfl, hoo⟩
    exact ⟨ao, cap, rfl, ownsInts_apart (by decide) hoo hk⟩
  by_cases hlt : i < LL.length
  · have e1 : (vs ++ [Value.slice uo L.length ucap]).getD i undef = vs.getD i undef := by simp [List.getElem?_append_left (show i < vs.length by omega)]
    have e2 : (LL ++ [L]).getD i [] = LL.getD i [] := by simp [List.getElem?_append_left hlt]
    rw [e1, e2]
    exact hkeep _ _ (h3 i hlt)
  · have hi2 : i = LL.length := by simp at hi; omega
    subst hi2
    have e1 : (vs ++ [Value.slice uo L.length ucap]).getD LL.length undef = .slice uo L.length ucap := by rw [← h2]; simp
    have e2 : (LL ++ [L]).getD LL.length [] = L := by simp
    rw [e1, e2]
    exact hkeep _ _ ⟨uo, ucap, rfl, hu⟩
end Go.Proofs.YtjlhghbikmipgaaDoor
