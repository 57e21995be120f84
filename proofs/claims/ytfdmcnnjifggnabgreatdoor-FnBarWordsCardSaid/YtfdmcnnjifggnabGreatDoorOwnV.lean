/- Slices of values of one cell each that a call makes, and how they are read. -/
import Derived.Test.YtfdmcnnjifggnabGreatDoorOwn
namespace Go.Proofs.YtfdmcnnjifggnabGreatDoor
open Go.RowKit

/-- The slice value v owns a row of values of one cell each. -/
def ownsV (w : World) (B : Nat) (e : TypeId) (v : Value) (vs : List Value) : Prop := ownsG w B e 1 v vs.length vs
theorem ownsV_nil (w : World) (B : Nat) (e : TypeId) : ownsV w B e (.slice none 0 0) [] := .inl (World.ownsRow_nil w B _ _)
theorem ownsV_below {w w' : World} {B C : Nat} {e : TypeId} {v : Value} {vs : List Value} (h : ownsV w B e v vs) (hb : Below w.heap.size w w') (hC : C ≤ B) : ownsV w' C e v vs := ownsG_below h hb hC
/-- A slice at ao reads as the values. -/
def RdV (w : World) (ao : Option Addr) (vs : List Value) : Prop :=
  vs = [] ∨ ∃ b off, ao = some ⟨b, off, none⟩ ∧ b < w.heap.size ∧ ∀ j, j < vs.length → w.cell? ⟨b, off + j, none⟩ = some (vs.getD j undef)
theorem RdV_below {w w' : World} {ao : Option Addr} {vs : List Value} (h : RdV w ao vs) (hb : Below w.heap.size w w') : RdV w' ao vs := by
  rcases h with h | ⟨b, off, rfl, hlt, hc⟩
  · exact .inl h
  · have := hb.size
    exact .inr ⟨b, off, rfl, by omega, fun j hj => (hb.cell (p := ⟨b, off + j, none⟩) (by show b < _; omega)).trans (hc j hj)⟩
theorem ownsV_shape {w : World} {B : Nat} {e : TypeId} {v : Value} {vs : List Value} (h : ownsV w B e v vs) : ∃ ao cap, v = .slice ao vs.length cap ∧ RdV w ao vs := by
  obtain ⟨ao, cap, rfl, ⟨hn, hx⟩ | ⟨g, rfl, hb, hg, hc, hcell, _⟩⟩ := ownsG_shape h
  · exact ⟨ao, cap, rfl, .inl hx⟩
  · refine ⟨_, cap, rfl, .inr ⟨g, 0, rfl, hg, fun j hj => ?_⟩⟩
    rw [Nat.zero_add, hcell j (by omega)]
    simp [hj]
/-- append of one value to a slice of the call's own. -/
theorem wpAppendV {ops : Array Oper} {rest : List Oper} {o : Oper} {a : Act} {Q : Exit → Act → World → Prop} (w : World) (hgd : o.guard = none) (s x : Operand) (ts e : TypeId) (z : Value) (bytes : Nat)
    (ho : o.op = .call { callee := .builtin .append, args := #[s, x], argTypes := #[ts, ts] }) (hts : Tryz.prog.underlying ts = some (.slice e))
    (hin : (Tryz.prog.info? e).map (fun i => (i.zero, i.size, i.bytes)) = some (some z, 1, bytes)) (hzs : z.cells.size = 1) (hby : bytes ≤ 100)
    (B : Nat) (v : Value) (vs : List Value) (hs : a.eval s = v) (hown : ownsV w B e v vs) (u : Value) (hu : u.oneCell' = true) (t' : TypeId) (hx : a.eval x = .slice (some ⟨w.heap.size, 0, none⟩) 1 1)
    (hn : vs.length ≤ 1000000000) (hB : B ≤ w.heap.size)
    (h : ∀ ao cap w', ownsV w' B e (.slice ao (vs.length + 1) cap) (vs ++ [u]) → Below B w w' → wpList Tryz.prog ops Q rest (a.put o.dst (.slice ao (vs.length + 1) cap)) w') :
    wpList Tryz.prog ops Q (o :: rest) a (w.alloc (.cells #[u] t')) :=
  wpAppendG w hgd s x ts e z 1 bytes ho hts hin hzs (by decide) hby B v vs.length _ hs hown [u] _ hx rfl (by simpa using hu) hn hB
    fun ao cap w' h2 hb _ => h ao cap w' (by unfold ownsV; simpa using h2) hb
end Go.Proofs.YtfdmcnnjifggnabGreatDoor
