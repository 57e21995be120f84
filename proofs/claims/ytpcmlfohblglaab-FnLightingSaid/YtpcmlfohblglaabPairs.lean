/- Slices of pairs that a call makes, held as flat lists; and contracts of the law's own helpers on them. -/
import Derived.Test.YtpcmlfohblglaabMarks
import Derived.Test.YtpcmlfohblglaabEqA
import Derived.Lib.Hide
import Derived.Deep.RegionHeld3
namespace Go.Proofs.Ytpcmlfohblglaab
open Go.RowKit

theorem infoPair : (Try.prog.info? 42).map (fun i => (i.zero, i.size, i.bytes)) = some (some (.agg #[.int .i64 0, .int .i64 0]), 2, 16) := by kernel_rfl
/-- The slice value v owns a row of n pairs, the numbers F one behind the other. -/
def ownsPairs (w : World) (B : Nat) (v : Value) (n : Nat) (F : List Int) : Prop := ownsG w B 42 2 v n (F.map (Value.int .i64))
theorem ownsPairs_nil (w : World) (B : Nat) : ownsPairs w B (.slice none 0 0) 0 [] := .inl (World.ownsRow_nil w B _ _)
theorem ownsPairs_zero (w : World) (B : Nat) (a : Addr) : ownsPairs w B (.slice (some a) 0 0) 0 [] := .inr ⟨rfl, rfl, a, rfl⟩
theorem ownsPairs_len {w : World} {B : Nat} {v : Value} {n : Nat} {F : List Int} (h : ownsPairs w B v n F) : F.length = n * 2 := by have := ownsG_len h; simpa using this
theorem ownsPairs_below {w w' : World} {B C : Nat} {v : Value} {n : Nat} {F : List Int} (h : ownsPairs w B v n F) (hb : Below w.heap.size w w') (hC : C ≤ B) : ownsPairs w' C v n F := ownsG_below h hb hC
theorem ownsPairs_shape {w : World} {B : Nat} {v : Value} {n : Nat} {F : List Int} (h : ownsPairs w B v n F) : ∃ ao cap, v = .slice ao n cap ∧
    (n = 0 ∨ ∃ g, ao = some ⟨g, 0, none⟩ ∧ B ≤ g ∧ g < w.heap.size ∧ n ≤ cap ∧ (∀ j, j < n * 2 → w.cell? ⟨g, j, none⟩ = some (.int .i64 (F.getD j 0))) ∧ ∀ j, w.frozen? ⟨g, j, none⟩ = false) := by
  have hl := ownsPairs_len h
  obtain ⟨ao, cap, rfl, ⟨hn, _⟩ | ⟨g, rfl, hb, hg, hc, hcell, hf, _⟩⟩ := ownsG_shape h
  · exact ⟨ao, cap, rfl, .inl hn⟩
  · refine ⟨_, cap, rfl, .inr ⟨g, rfl, hb, hg, hc, fun j hj => ?_, hf⟩⟩
    rw [hcell j hj]
    simp [show j < F.length by omega]
theorem RdI_pairs {w : World} {B : Nat} {ao : Option Addr} {n cap : Nat} {F : List Int} (h : ownsPairs w B (.slice ao n cap) n F) : RdI w ao F := by
  have hl := ownsPairs_len h
  obtain ⟨ao', cap', he, h0 | ⟨g, rfl, _, hlt, _, hc, _⟩⟩ := ownsPairs_shape h
  · subst h0; exact .inl (List.eq_nil_of_length_eq_zero (by omega))
  · simp only [Value.slice.injEq] at he
    obtain ⟨rfl, _, _⟩ := he
    exact .inr ⟨g, 0, rfl, hlt, fun j hj => by simpa using hc j (by omega)⟩
theorem ownsPairs_set {w : World} {B g n cap : Nat} {F : List Int} (h : ownsPairs w B (.slice (some ⟨g, 0, none⟩) n cap) n F) (j : Nat) (z : Int) :
    ownsPairs (w.setCell ⟨g, j, none⟩ (.int .i64 z)) B (.slice (some ⟨g, 0, none⟩) n cap) n (F.set j z) := by
  rcases h with h | ⟨h0, h1, a, h2⟩
  · have := (World.ownsRow.stored h j (.int .i64 z)).1
    refine .inl ?_
    simpa [List.map_set] using this
  · have : F = [] := List.map_eq_nil_iff.1 h1
    subst this
    exact .inr ⟨h0, rfl, a, h2⟩
/-- append of one pair to a slice of the call's own. -/
theorem wpAppendPair {ops : Array Oper} {rest : List Oper} {o : Oper} {a : Act} {Q : Exit → Act → World → Prop} (w : World) (hgd : o.guard = none) (s x : Operand)
    (ho : o.op = .call { callee := .builtin .append, args := #[s, x], argTypes := #[29, 29] })
    (B : Nat) (v : Value) (n : Nat) (F : List Int) (hs : a.eval s = v) (hown : ownsPairs w B v n F) (z1 z2 : Int) (t' : TypeId) (hx : a.eval x = .slice (some ⟨w.heap.size, 0, none⟩) 1 1)
    (hn : n ≤ 1000000000) (hB : B ≤ w.heap.size)
    (h : ∀ ao cap w', ownsPairs w' B (.slice ao (n + 1) cap) (n + 1) (F ++ [z1, z2]) → Below B w w' → wpList Try.prog ops Q rest (a.put o.dst (.slice ao (n + 1) cap)) w') :
    wpList Try.prog ops Q (o :: rest) a (w.alloc (.cells #[.int .i64 z1, .int .i64 z2] t')) :=
  wpAppendG w hgd s x _ _ (.agg #[.int .i64 0, .int .i64 0]) 2 16 ho Try.underlying29 infoPair rfl (by decide) (by decide) B v n _ hs hown [.int .i64 z1, .int .i64 z2] _ hx rfl (by simp [Value.oneCell']) hn hB
    fun ao cap w' h2 hb _ => h ao cap w' (by unfold ownsPairs; simpa using h2) hb

theorem keep4 {wr W w2 : World} {b1 o1 b2 o2 : Nat} {x1 y1 x2 y2 : Option Value} (hB1 : b1 < wr.heap.size) (hB2 : b2 < wr.heap.size)
    (h : W.cell? ⟨b1, o1, none⟩ = x1 ∧ W.cell? ⟨b1, o1 + 1, none⟩ = y1 ∧ W.cell? ⟨b2, o2, none⟩ = x2 ∧ W.cell? ⟨b2, o2 + 1, none⟩ = y2 ∧ Below wr.heap.size wr W) (hb : Below W.heap.size W w2) :
    w2.cell? ⟨b1, o1, none⟩ = x1 ∧ w2.cell? ⟨b1, o1 + 1, none⟩ = y1 ∧ w2.cell? ⟨b2, o2, none⟩ = x2 ∧ w2.cell? ⟨b2, o2 + 1, none⟩ = y2 ∧ Below wr.heap.size wr w2 := by
  have hs := h.2.2.2.2.size
  have k1 : b1 < W.heap.size := by omega
  have k2 : b2 < W.heap.size := by omega
  exact ⟨(hb.cell (p := ⟨b1, o1, none⟩) k1).trans h.1, (hb.cell (p := ⟨b1, o1 + 1, none⟩) k1).trans h.2.1, (hb.cell (p := ⟨b2, o2, none⟩) k2).trans h.2.2.1, (hb.cell (p := ⟨b2, o2 + 1, none⟩) k2).trans h.2.2.2.1, belowThen h.2.2.2.2 hb⟩
end Go.Proofs.Ytpcmlfohblglaab
