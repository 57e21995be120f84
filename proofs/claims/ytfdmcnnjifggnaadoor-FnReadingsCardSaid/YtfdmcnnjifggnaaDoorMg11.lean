/- Joined texts: Mark, Held, EqS, Scr. -/
import Derived.Test.YtfdmcnnjifggnaaDoorMg07
import Derived.Lib.Hide
import Derived.Deep.QuietTactic
import Derived.BigQuiet
import Derived.Test.YtfdmcnnjifggnaaDoorMg01
import Derived.Test.YtfdmcnnjifggnaaDoorMg10
import Derived.Deep.RegionHeld3
namespace Go.Proofs.YtfdmcnnjifggnaaDoor
open Go.RowKit

end Go.Proofs.YtfdmcnnjifggnaaDoor

namespace Go.Proofs.YtfdmcnnjifggnaaDoor
open Go.RowKit

end Go.Proofs.YtfdmcnnjifggnaaDoor

namespace Go.Proofs.YtfdmcnnjifggnaaDoor
open Go.RowKit

end Go.Proofs.YtfdmcnnjifggnaaDoor

namespace Go.Proofs.YtfdmcnnjifggnaaDoor
open Go.RowKit

/-- The slice value v owns m rows of K numbers each; row i lies in the block gs i alone, and holds R i. -/
def scr (w : World) (B : Nat) (v : Value) (m K : Nat) (gs : Nat → Nat) (R : Nat → List Int) : Prop :=
  ownsG w B 24 1 v m ((List.range m).map fun i => Value.slice (some ⟨gs i, 0, none⟩) K K) ∧
  (∀ i, i < m → B ≤ gs i ∧ gs i < w.heap.size ∧ (R i).length = K ∧ ownsInts w B (.slice (some ⟨gs i, 0, none⟩) K K) (R i)) ∧ (∀ i j, i < j → j < m → gs i < gs j)
theorem scr_below {w w' : World} {B C : Nat} {v : Value} {m K : Nat} {gs : Nat → Nat} {R : Nat → List Int} (h : scr w B v m K gs R) (hb : Below w.heap.size w w') (hC : C ≤ B) : scr w' C v m K gs R :=
  ⟨ownsG_below h.1 hb hC, fun i hi => by
    obtain ⟨h1, h2, h3, h4⟩ := h.2.1 i hi
    exact ⟨by omega, Nat.lt_of_lt_of_le h2 hb.size, h3, ownsInts_below h4 hb hC⟩, h.2.2⟩
theorem scr_nil (w : World) (B K : Nat) (gs : Nat → Nat) (R : Nat → List Int) : scr w B (.slice none 0 0) 0 K gs R := ⟨.inl (World.ownsRow_nil w B _ _), fun i hi => by omega, fun i j _ hj => by omega⟩
theorem scr_zero (w : World) (B K : Nat) (a : Addr) (gs : Nat → Nat) (R : Nat → List Int) : scr w B (.slice (some a) 0 0) 0 K gs R := ⟨.inr ⟨rfl, rfl, a, rfl⟩, fun i hi => by omega, fun i j _ hj => by omega⟩
theorem scr_congr {w : World} {B : Nat} {v : Value} {m K : Nat} {gs : Nat → Nat} {R R' : Nat → List Int} (h : scr w B v m K gs R) (e : ∀ i, i < m → R i = R' i) : scr w B v m K gs R' :=
  ⟨h.1, fun i hi => by rw [← e i hi]; exact h.2.1 i hi, h.2.2⟩
theorem ownsG_block {w : World} {B : Nat} {e : TypeId} {size : Nat} {v : Value} {n : Nat} {xs : List Value} (h : ownsG w B e size v n xs) (hn : 0 < n) : ∃ g cap cur, v = .slice (some ⟨g, 0, none⟩) n cap ∧ B ≤ g ∧ w.heap[g]? = some (.cells cur e (0, 0)) := by
  rcases h with h | ⟨rfl, _⟩
  · rcases h.2 with ⟨rfl, _⟩ | ⟨g, cap, cur, hv, hBg, hg, _⟩
    · omega
    · exact ⟨g, cap, cur, hv, hBg, hg⟩
  · omega
theorem ownsG_heap {w w' : World} {B : Nat} {e : TypeId} {size : Nat} {g n cap : Nat} {xs : List Value} (h : ownsG w B e size (.slice (some ⟨g, 0, none⟩) n cap) n xs) (hk : w'.heap[g]? = w.heap[g]?) : ownsG w' B e size (.slice (some ⟨g, 0, none⟩) n cap) n xs := by
  rcases h with h | h
  · refine .inl ⟨h.1, ?_⟩
    rcases h.2 with h2 | ⟨g', cap', cur, hv, hBg, hg, r⟩
    · exact .inl h2
    · have hv2 := hv
      simp only [Value.slice.injEq, Option.some.injEq, Addr.mk.injEq] at hv2
      obtain ⟨⟨rfl, -⟩, -⟩ := hv2
      exact .inr ⟨g, cap', cur, hv, hBg, by rw [hk]; exact hg, r⟩
  · exact .inr h
theorem ownsInts_heap {w w' : World} {B g n cap : Nat} {L : List Int} (hn : L.length = n) (h : ownsInts w B (.slice (some ⟨g, 0, none⟩) n cap) L) (hk : w'.heap[g]? = w.heap[g]?) : ownsInts w' B (.slice (some ⟨g, 0, none⟩) n cap) L := by
  subst hn
  exact ownsG_heap h hk
theorem ownsInts_raise {w : World} {B C g n cap : Nat} {L : List Int} (h : ownsInts w B (.slice (some ⟨g, 0, none⟩) n cap) L) (hC : C ≤ g) : ownsInts w C (.slice (some ⟨g, 0, none⟩) n cap) L := by
  rcases h with h | h
  · refine .inl ⟨h.1, ?_⟩
    rcases h.2 with h2 | ⟨g', cap', cur, hv, hBg, hg, r⟩
    · exact .inl h2
    · have hv2 := hv
      simp only [Value.slice.injEq, Option.some.injEq, Addr.mk.injEq] at hv2
      obtain ⟨⟨rfl, -⟩, -⟩ := hv2
      exact .inr ⟨g, cap', cur, hv, hC, hg, r⟩
  · exact .inr h
/-- What is read of such rows. -/
theorem scr_read {w : World} {B : Nat} {v : Value} {m K : Nat} {gs : Nat → Nat} {R : Nat → List Int} (h : scr w B v m K gs R) : ∃ ao cap, v = .slice ao m cap ∧
    (m = 0 ∨ ∃ g, ao = some ⟨g, 0, none⟩ ∧ B ≤ g ∧ g < w.heap.size ∧ (∀ i, i < m → w.cell? ⟨g, i, none⟩ = some (.slice (some ⟨gs i, 0, none⟩) K K) ∧ RdI w (some ⟨gs i, 0, none⟩) (R i) ∧ (R i).length = K)) := by
  obtain ⟨ao, cap, rfl, ⟨hn, _⟩ | ⟨g, rfl, hb, hg, hc, hcell, _⟩⟩ := ownsG_shape h.1
  · exact ⟨ao, cap, rfl, .inl hn⟩
  · refine ⟨_, cap, rfl, .inr ⟨g, rfl, hb, hg, fun i hi => ?_⟩⟩
    obtain ⟨h1, h2, h3, h4⟩ := h.2.1 i hi
    refine ⟨?_, ?_, h3⟩
    · rw [hcell i (by omega)]
      simp [hi]
    · subst h3
      exact RdI_owns h4
/-- append of one row. -/
theorem wpAppendScr {ops : Array Oper} {rest : List Oper} {o : Oper} {a : Act} {Q : Exit → Act → World → Prop} (w : World) (hgd : o.guard = none) (s x : Operand)
    (ho : o.op = .call { callee := .builtin .append, args := #[s, x], argTypes := #[35, 35] })
    (B : Nat) (v : Value) (m K : Nat) (gs : Nat → Nat) (R : Nat → List Int) (hs : a.eval s = v) (hown : scr w B v m K gs R) (g : Nat) (hu : ownsInts w B (.slice (some ⟨g, 0, none⟩) K K) (R m)) (hl : (R m).length = K) (hBg : B ≤ g) (hg : g < w.heap.size) (hlast : ∀ i, i < m → gs i < g)
    (hx : a.eval x = .slice (some ⟨w.heap.size, 0, none⟩) 1 1)
    (hn : m ≤ 1000000000) (hB : B ≤ w.heap.size)
    (h : ∀ ao cap w', scr w' B (.slice ao (m + 1) cap) (m + 1) K (fun i => if i < m then gs i else g) R → Below B w w' → wpList Tryd.prog ops Q rest (a.put o.dst (.slice ao (m + 1) cap)) w') :
    wpList Tryd.prog ops Q (o :: rest) a (w.alloc (.cells #[.slice (some ⟨g, 0, none⟩) K K] 24)) := by
  refine wpAppendG w hgd s x _ _ (.slice none 0 0) 1 24 ho Tryd.underlying35 infoInts rfl (by decide) (by decide) B v m _ hs hown.1 [.slice (some ⟨g, 0, none⟩) K K] _ hx rfl (by simp [Value.oneCell']) hn hB ?_
  intro ao cap w' hr hb hk
  refine h ao cap w' ⟨?_, fun i hi => ?_, fun i j hij hj => ?_⟩ hb
  · have : (List.range (m + 1)).map (fun i => Value.slice (some ⟨if i < m then gs i else g, 0, none⟩) K K) = (List.range m).map (fun i => Value.slice (some ⟨gs i, 0, none⟩) K K) ++ [.slice (some ⟨g, 0, none⟩) K K] := by
      rw [List.range_succ, List.map_append]
      congr 1
      · apply List.map_congr_left
        intro i hi
        rw [if_pos (List.mem_range.1 hi)]
      · simp
    rw [this]
    exact hr
  · by_cases hlt : i < m
    · obtain ⟨h1, h2, h3, h4⟩ := hown.2.1 i hlt
      dsimp only
      rw [if_pos hlt]
      exact ⟨h1, Nat.lt_of_lt_of_le h2 hb.size, h3, ownsInts_apart (by decide) h4 hk⟩
    · have : i = m := by omega
      subst this
      dsimp only
      rw [if_neg (by omega)]
      exact ⟨hBg, Nat.lt_of_lt_of_le hg hb.size, hl, ownsInts_apart (by decide) hu hk⟩
  · dsimp only
    rw [if_pos (by omega)]
    by_cases hlt : j < m
    · rw [if_pos hlt]; exact hown.2.2 i j hij hlt
    · rw [if_neg hlt]; exact hlast i (by omega)
/-- The marks of m rows. -/
def marksR (k0 : Int) (K i : Nat) : List Int := marksL (k0 + ((i * K : Nat) : Int)) K
def markRow (k0 : Int) (K i : Nat) (R : Nat → List Int) (j : Nat) : List Int := if j < i then marksR k0 K j else R j
theorem scr_mark {w w' : World} {B : Nat} {v : Value} {m K : Nat} {gs : Nat → Nat} {R R' : Nat → List Int} (h : scr w B v m K gs R) (i : Nat) (hi : i < m) (hK : 0 < K) (hb : Below B w w') (hk : ∀ b, b ≠ gs i → w'.heap[b]? = w.heap[b]?)
    (hrow : ownsInts w' (gs i) (.slice (some ⟨gs i, 0, none⟩) K K) (R' i)) (hl : (R' i).length = K) (hR : ∀ j, j ≠ i → R' j = R j) : scr w' B v m K gs R' := by
  obtain ⟨g, cap, cur, rfl, hBg, hg⟩ := ownsG_block h.1 (by omega)
  obtain ⟨hi1, hi2, hi3, hi4⟩ := h.2.1 i hi
  have hne : g ≠ gs i := by
    intro he
    have h4' : ownsG w B 3 1 (.slice (some ⟨gs i, 0, none⟩) K K) (R i).length ((R i).map (Value.int .i64)) := hi4
    obtain ⟨g2, cap2, cur2, hv2, _, hg2⟩ := ownsG_block h4' (by omega)
    simp only [Value.slice.injEq, Option.some.injEq, Addr.mk.injEq] at hv2
    obtain ⟨⟨h5, -⟩, -⟩ := hv2
    rw [← h5, ← he, hg] at hg2
    simp only [Option.some.injEq, Obj.cells.injEq] at hg2
    exact absurd hg2.2.1 (by decide)
  refine ⟨ownsG_heap h.1 (hk g hne), fun j hj => ?_, h.2.2⟩
  obtain ⟨h1, h2, h3, h4⟩ := h.2.1 j hj
  by_cases hij : j = i
  · subst hij
    exact ⟨h1, Nat.lt_of_lt_of_le h2 hb.size, hl, ownsInts_raise hrow h1⟩
  · rw [hR j hij]
    refine ⟨h1, Nat.lt_of_lt_of_le h2 hb.size, h3, ownsInts_heap h3 h4 (hk _ ?_)⟩
    rcases Nat.lt_or_gt_of_ne hij with hlt | hlt
    · exact Nat.ne_of_lt (h.2.2 j i hlt hi)
    · exact Nat.ne_of_gt (h.2.2 i j hlt hj)
theorem keepSS {wr W w2 : World} {b1 o1 b2 o2 : Nat} {x1 x2 : Option Value} (hB1 : b1 < wr.heap.size) (hB2 : b2 < wr.heap.size)
    (h : W.cell? ⟨b1, o1, none⟩ = x1 ∧ W.cell? ⟨b2, o2, none⟩ = x2 ∧ Below wr.heap.size wr W) (hb : Below W.heap.size W w2) :
    w2.cell? ⟨b1, o1, none⟩ = x1 ∧ w2.cell? ⟨b2, o2, none⟩ = x2 ∧ Below wr.heap.size wr w2 := by
  have hs := h.2.2.size
  exact ⟨(hb.cell (p := ⟨b1, o1, none⟩) (by show b1 < _; omega)).trans h.1, (hb.cell (p := ⟨b2, o2, none⟩) (by show b2 < _; omega)).trans h.2.1, belowThen h.2.2 hb⟩
end Go.Proofs.YtfdmcnnjifggnaaDoor
