/- The values of cells, computed from those of the cells that they can become: plain; and slices of values of one cell each. -/
import Derived.Test.YtpcmlfohblglaabLit
import Derived.Test.YtpcmlfohblglaabMap
import Derived.Lib.Hide
namespace Go.Proofs.Ytpcmlfohblglaab
open Go.RowKit

theorem litP_mem {L : List Int} {c k x : Nat} (hc : c < 128) (hk : k ≤ 7) (h : x ∈ litP L c k) : c < x ∧ x < 128 ∧ wayB (x : Int) L = true := by
  simp only [litP, List.mem_map, List.mem_filter, List.mem_range] at h
  obtain ⟨b, ⟨hb, hn⟩, rfl⟩ := h
  simp only [nextB, Bool.and_eq_true, bne_iff_ne, ne_eq] at hn
  have h1 : c ≤ c ||| 2 ^ b := Nat.left_le_or
  exact ⟨by omega, lor_lt c b hc (by omega), hn.2⟩
section
variable {α : Type}
def tabV (L : List Int) (f : Nat → List α → α) : Nat → Nat → α
  | 0, c => f c []
  | k + 1, c => f c ((litL L c).map (tabV L f k))
def valC (L : List Int) (f : Nat → List α → α) (c : Nat) : α := tabV L f (128 - c) c
theorem tabV_fuel (L : List Int) (f : Nat → List α → α) : ∀ k k' c, c < 128 → 128 - c ≤ k → 128 - c ≤ k' → tabV L f k c = tabV L f k' c := by
  intro k
  induction k with
  | zero => intro k' c hc h1 _; omega
  | succ k ih =>
    intro k' c hc h1 h2
    cases k' with
    | zero => omega
    | succ k' =>
      unfold tabV
      congr 1
      apply List.map_congr_left
      intro x hx
      have := litP_mem hc (Nat.le_refl 7) hx
      exact ih k' x this.2.1 (by omega) (by omega)
theorem valC_eq (L : List Int) (f : Nat → List α → α) (c : Nat) (hc : c < 128) : valC L f c = f c ((litL L c).map (valC L f)) := by
  obtain ⟨k, hk⟩ : ∃ k, 128 - c = k + 1 := ⟨127 - c, by omega⟩
  show tabV L f (128 - c) c = _
  rw [hk]
  show f c ((litL L c).map (tabV L f k)) = _
  congr 1
  apply List.map_congr_left
  intro x hx
  have := litP_mem hc (Nat.le_refl 7) hx
  exact tabV_fuel L f _ _ x this.2.1 (by omega) (by omega)
end

/-- The slice value v owns a row of values of one cell each. -/
def ownsV (w : World) (B : Nat) (e : TypeId) (v : Value) (vs : List Value) : Prop := ownsG w B e 1 v vs.length vs
theorem ownsV_nil (w : World) (B : Nat) (e : TypeId) : ownsV w B e (.slice none 0 0) [] := .inl (World.ownsRow_nil w B _ _)
theorem ownsV_below {w w' : World} {B C : Nat} {e : TypeId} {v : Value} {vs : List Value} (h : ownsV w B e v vs) (hb : Below w.heap.size w w') (hC : C ≤ B) : ownsV w' C e v vs := ownsG_below h hb hC
/-- A slice at ao reads as the values. -/
def RdV (w : World) (ao : Option Addr) (vs : List Value) : Prop :=
  vs = [] ∨ ∃ b off, ao = some ⟨b, off, none⟩ ∧ b < w.heap.size ∧ ∀ j, j < vs.length → w.cell? ⟨b, off + j, none⟩ = some (vs.getD j undef)
theorem RdV_below {w w' : World} {ao : Option Addr} {vs : List Value} (h : RdV w ao vs) (hb : Below w.heap.size w w') : RdV w' ao vs := by
  rcases h with h | ⟨b, off, rfl, hlt, hc⟩
  · exact .inl h
  · have := hb.size
    exact .inr ⟨b, off, rfl, by omega, fun j hj => (hb.cell (p := ⟨b, off + j, none⟩) (by show b < _; omega)).trans (hc j hj)⟩
theorem ownsV_shape {w : World} {B : Nat} {e : TypeId} {v : Value} {vs : List Value} (h : ownsV w B e v vs) : ∃ ao cap, v = .slice ao vs.length cap ∧ RdV w ao vs := by
  obtain ⟨ao, cap, rfl, ⟨hn, hx⟩ | ⟨g, rfl, hb, hg, hc, hcell, _⟩⟩ := ownsG_shape h
  · exact ⟨ao, cap, rfl, .inl hx⟩
  · refine ⟨_, cap, rfl, .inr ⟨g, 0, rfl, hg, fun j hj => ?_⟩⟩
    rw [Nat.zero_add, hcell j (by omega)]
    simp [hj]
/-- append of one value to a slice of the call's own. -/
theorem wpAppendV {ops : Array Oper} {rest : List Oper} {o : Oper} {a : Act} {Q : Exit → Act → World → Prop} (w : World) (hgd : o.guard = none) (s x : Operand) (ts e : TypeId) (z : Value) (bytes : Nat)
    (ho : o.op = .call { callee := .builtin .append, args := #[s, x], argTypes := #[ts, ts] }) (hts : Try.prog.underlying ts = some (.slice e))
    (hin : (Try.prog.info? e).map (fun i => (i.zero, i.size, i.bytes)) = some (some z, 1, bytes)) (hzs : z.cells.size = 1) (hby : bytes ≤ 100)
    (B : Nat) (v : Value) (vs : List Value) (hs : a.eval s = v) (hown : ownsV w B e v vs) (u : Value) (hu : u.oneCell' = true) (t' : TypeId) (hx : a.eval x = .slice (some ⟨w.heap.size, 0, none⟩) 1 1)
    (hn : vs.length ≤ 1000000000) (hB : B ≤ w.heap.size)
    (h : ∀ ao cap w', ownsV w' B e (.slice ao (vs.length + 1) cap) (vs ++ [u]) → Below B w w' → wpList Try.prog ops Q rest (a.put o.dst (.slice ao (vs.length + 1) cap)) w') :
    wpList Try.prog ops Q (o :: rest) a (w.alloc (.cells #[u] t')) :=
  wpAppendG w hgd s x ts e z 1 bytes ho hts hin hzs (by decide) hby B v vs.length _ hs hown [u] _ hx rfl (by simpa using hu) hn hB
    fun ao cap w' h2 hb _ => h ao cap w' (by unfold ownsV; simpa using h2) hb
theorem wf128 (k : Nat) (h : k < 128) : (Lit.int .i64 (k : Int)).wf = true := by
  have : ∀ x : Fin 128, (Lit.int .i64 (x.val : Int)).wf = true := by decide +kernel
  exact this ⟨k, h⟩
theorem below_grown {w W w' : World} {b : Nat} (h : Below b w W) (hg : W.grownBy w' (some b)) (hb : b ≤ w.heap.size) : Below b w w' := by
  have hs := h.size
  exact ⟨hg.os.trans h.os, hg.tape.trans h.tape, hg.output.trans h.output, Nat.le_trans h.size hg.size, fun k hk => (hg.block k (by omega) (fun e => by injection e; omega)).trans (h.block k hk)⟩
end Go.Proofs.Ytpcmlfohblglaab
