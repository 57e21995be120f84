/- Small definitions and facts on integers and memory, on which the contracts of this seat rest. -/
import Derived.Test.YtjcbffkdemadnaaRows
import Derived.WalkKit
import Derived.ProofKit
import Derived.OpenShut
import Derived.ShutString
import Derived.ChangeOld
import Derived.Below
import Derived.Lib.SmallJoins
import Derived.Deep.QuietTactic
namespace Go.Proofs.Ytjcbffkdemadnaa
open Go.RowKit

/-- A slice of integers that came in: nil, or a row of cap cells that hold the numbers zs. -/
def RowIn (k : IntKind) (w : World) (a : Option Addr) (len cap : Nat) (zs : List Int) : Prop :=
  (a = none ∧ len = 0 ∧ cap = 0 ∧ zs = []) ∨
  ∃ x, a = some x ∧ len ≤ cap ∧ cap ≤ maxLen ∧ zs.length = cap ∧ (∀ i, i < zs.length → w.cell? (x.add i) = some (.int k (zs.getD i 0))) ∧ ∀ n ∈ zs, (Lit.int k n).wf = true

/-- x lies from a to b. -/
def inB (a b x : Int) : Bool := decide (a ≤ x) && decide (x ≤ b)
theorem inB_iff {a b x : Int} : inB a b x = true ↔ a ≤ x ∧ x ≤ b := by simp [inB]
theorem inB_not {a b x : Int} : inB a b x = false ↔ x < a ∨ b < x := by
  rw [Bool.eq_false_iff, ne_eq, inB_iff]; omega

theorem ofInt64 (a : Nat) (ha : a < 4611686018427387904) : (BitVec.ofInt 64 (a : Int)).toNat = a := by
  rw [BitVec.ofInt_natCast, BitVec.toNat_ofNat]; exact Nat.mod_eq_of_lt (by omega)
theorem wrapSmall (n : Nat) (h : n < 4611686018427387904) : IntKind.i64.wrap ((n : Nat) : Int) = (n : Int) := by
  rw [IntKind.wrap_i64]; omega
theorem and64 (a b : Nat) (ha : a < 4611686018427387904) (hb : b < 4611686018427387904) : bits .and .i64 (a : Int) (b : Int) = ((a &&& b : Nat) : Int) := by
  have hx : a &&& b < 2 ^ 62 := Nat.and_lt_two_pow _ (by omega)
  show IntKind.i64.wrap ((BitVec.ofInt 64 (a : Int) &&& BitVec.ofInt 64 (b : Int)).toNat : Int) = _
  rw [BitVec.toNat_and, ofInt64 a ha, ofInt64 b hb]
  exact wrapSmall _ (by omega)
theorem or64 (a b : Nat) (ha : a < 4611686018427387904) (hb : b < 4611686018427387904) : bits .or .i64 (a : Int) (b : Int) = ((a ||| b : Nat) : Int) := by
  have hx : a ||| b < 2 ^ 62 := Nat.or_lt_two_pow (by omega) (by omega)
  show IntKind.i64.wrap ((BitVec.ofInt 64 (a : Int) ||| BitVec.ofInt 64 (b : Int)).toNat : Int) = _
  rw [BitVec.toNat_or, ofInt64 a ha, ofInt64 b hb]
  exact wrapSmall _ (by omega)
theorem xor64 (a b : Nat) (ha : a < 4611686018427387904) (hb : b < 4611686018427387904) : bits .xor .i64 (a : Int) (b : Int) = ((a ^^^ b : Nat) : Int) := by
  have hx : a ^^^ b < 2 ^ 62 := Nat.xor_lt_two_pow (by omega) (by omega)
  show IntKind.i64.wrap ((BitVec.ofInt 64 (a : Int) ^^^ BitVec.ofInt 64 (b : Int)).toNat : Int) = _
  rw [BitVec.toNat_xor, ofInt64 a ha, ofInt64 b hb]
  exact wrapSmall _ (by omega)
theorem andNot64 (a b : Nat) (ha : a < 4611686018427387904) (hb : b < 4611686018427387904) : bits .andNot .i64 (a : Int) (b : Int) = ((a &&& (18446744073709551615 - b) : Nat) : Int) := by
  have hx : a &&& (18446744073709551615 - b) ≤ a := Nat.and_le_left
  show IntKind.i64.wrap ((BitVec.ofInt 64 (a : Int) &&& ~~~BitVec.ofInt 64 (b : Int)).toNat : Int) = _
  rw [BitVec.toNat_and, BitVec.toNat_not, ofInt64 a ha, ofInt64 b hb]
  have e : 2 ^ 64 - 1 - b = 18446744073709551615 - b := by omega
  rw [e]
  exact wrapSmall _ (by omega)
theorem ret_int {k : IntKind} {a b : Int} (h : a = b) : Ending.returned (.int k a) = .returned (.int k b) := by rw [h]
theorem ret_bool {a b : Bool} (h : a = b) : Ending.returned (.bool a) = .returned (.bool b) := by rw [h]
theorem ret_ib {k : IntKind} {a b : Int} {c d : Bool} (h : a = b) (h2 : c = d) : Ending.returned (.tuple #[.int k a, .bool c]) = .returned (.tuple #[.int k b, .bool d]) := by rw [h, h2]
/-- A cell, a mark of a world behind a call: names that the walk does not open. -/
def cellNew (w : World) (b : Nat) (o : Nat) : Option Value := w.cell? ⟨b, o, none⟩
def frozenNew (w : World) (b : Nat) (o : Nat) : Bool := w.frozen? ⟨b, o, none⟩
theorem cellRule {W w1 : World} (hb : Below W.heap.size W w1) : ∀ b o, w1.cell? ⟨b, o, none⟩ = if b < W.heap.size then W.cell? ⟨b, o, none⟩ else cellNew w1 b o := by
  intro b o
  split
  · exact hb.cell (p := ⟨b, o, none⟩) ‹_›
  · rfl
theorem frozenRule {W w1 : World} (hb : Below W.heap.size W w1) : ∀ b o, w1.frozen? ⟨b, o, none⟩ = if b < W.heap.size then W.frozen? ⟨b, o, none⟩ else frozenNew w1 b o := by
  intro b o
  split
  · exact hb.frozen (p := ⟨b, o, none⟩) ‹_›
  · rfl
theorem heapAlloc (w : World) (o : Obj) : (w.alloc o).heap.size = w.heap.size + 1 := by simp
theorem heapSet (w : World) (a : Addr) (v : Value) : (w.setCell a v).heap.size = w.heap.size := by simp [World.setCell]
theorem cellAlloc (w : World) (c : Array Value) (t : TypeId) (n i : Nat) : (w.alloc (.cells c t)).cell? ⟨n, i, none⟩ = if n < w.heap.size then w.cell? ⟨n, i, none⟩ else if n = w.heap.size then c[i]? else cellNew (w.alloc (.cells c t)) n i := by
  split
  · exact World.cell?_alloc_past _ _ _ ‹_›
  · split
    · exact World.cell?_alloc_at _ _ _ _ ‹_›
    · rfl
theorem frozenAlloc (w : World) (c : Array Value) (t : TypeId) (n i : Nat) : (w.alloc (.cells c t)).frozen? ⟨n, i, none⟩ = if n < w.heap.size then w.frozen? ⟨n, i, none⟩ else if n = w.heap.size then false else frozenNew (w.alloc (.cells c t)) n i := by
  split
  · exact Below.frozen (B := w.heap.size) ((Below.refl _ w).alloc (Nat.le_refl _) _) (p := ⟨n, i, none⟩) ‹_›
  · split
    · exact World.frozen?_alloc_at _ _ _ _ ‹_›
    · rfl
def setNew (w : World) (a : Addr) (v : Value) : World := w.setCell a v
theorem setCellAlloc (w : World) (c : Array Value) (t : TypeId) (n i : Nat) (v : Value) : (w.alloc (.cells c t)).setCell ⟨n, i, none⟩ v = if n < w.heap.size then (w.setCell ⟨n, i, none⟩ v).alloc (.cells c t) else if n = w.heap.size then w.alloc (.cells (c.setIfInBounds i v) t) else setNew (w.alloc (.cells c t)) ⟨n, i, none⟩ v := by
  split
  · exact World.setCell_alloc_past _ _ _ _ ‹_›
  · split
    · exact World.setCell_alloc_at _ _ _ _ _ ‹_›
    · rfl
/-- A call that leaves the world alone, inside a region that only reads. -/
theorem quietL {P : Program} {fn : FuncId} {args : Array Value} {w : World} {n : Nat} {v : Value} (h : Calls P fn args (w.drewN n) fun e w' => e = .returned v ∧ w.drewN n = w') :
    Calls P fn args (w.drewN n) fun e w'' => e = .returned v ∧ ∃ m, w'' = w.drewN m := h.mono fun _ _ ⟨he, hm⟩ => ⟨he, n, hm.symm⟩
theorem belowThen {w a b : World} (h : Below w.heap.size w a) (hb : Below a.heap.size a b) : Below w.heap.size w b := h.trans (hb.mono h.size)
theorem boxKeep {wr W w2 : World} {B : Nat} {c0 c1 : Option Value} (hB : B < wr.heap.size) (h : W.cell? ⟨B, 0, none⟩ = c0 ∧ W.cell? ⟨B, 1, none⟩ = c1 ∧ Below wr.heap.size wr W) (hb : Below W.heap.size W w2) :
    w2.cell? ⟨B, 0, none⟩ = c0 ∧ w2.cell? ⟨B, 1, none⟩ = c1 ∧ Below wr.heap.size wr w2 := by
  have := h.2.2.size
  refine ⟨(hb.cell (p := ⟨B, 0, none⟩) (by show B < _; omega)).trans h.1, (hb.cell (p := ⟨B, 1, none⟩) (by show B < _; omega)).trans h.2.1, belowThen h.2.2 hb⟩

theorem boxKeep1 {wr W w2 : World} {B : Nat} {c0 : Option Value} (hB : B < wr.heap.size) (h : W.cell? ⟨B, 0, none⟩ = c0 ∧ Below wr.heap.size wr W) (hb : Below W.heap.size W w2) :
    w2.cell? ⟨B, 0, none⟩ = c0 ∧ Below wr.heap.size wr w2 := by
  have := h.2.size
  exact ⟨(hb.cell (p := ⟨B, 0, none⟩) (by show B < _; omega)).trans h.1, belowThen h.2 hb⟩
/-- A block of two cells of the call's own, in a world that has grown. -/
def CellK (B : Nat) (v0 v1 : Value) (w0 W : World) : Prop :=
  W.cell? ⟨B, 0, none⟩ = some v0 ∧ W.cell? ⟨B, 1, none⟩ = some v1 ∧ W.frozen? ⟨B, 0, none⟩ = false ∧ W.frozen? ⟨B, 1, none⟩ = false ∧ B < W.heap.size ∧ Below w0.heap.size w0 W
theorem CellK_new (w : World) (v0 v1 : Value) (t : TypeId) : CellK w.heap.size v0 v1 w (w.alloc (.cells #[v0, v1] t)) :=
  ⟨World.cell?_alloc_at _ _ _ _ rfl, World.cell?_alloc_at _ _ _ _ rfl, World.frozen?_alloc_at _ _ _ _ rfl, World.frozen?_alloc_at _ _ _ _ rfl, by simp, Go.Joins.below_alloc1 _ _⟩
theorem CellK_drew {B : Nat} {v0 v1 : Value} {w0 W : World} (h : CellK B v0 v1 w0 W) : CellK B v0 v1 w0 W.drew := ⟨h.1, h.2.1, h.2.2.1, h.2.2.2.1, h.2.2.2.2.1, h.2.2.2.2.2.drew⟩
theorem CellK_keep {B : Nat} {v0 v1 : Value} {w0 W W' : World} (hb : Below W.heap.size W W') (h : CellK B v0 v1 w0 W) : CellK B v0 v1 w0 W' := by
  obtain ⟨c0, c1, f0, f1, hB, hbw⟩ := h
  have := hb.size
  exact ⟨(hb.cell (p := ⟨B, 0, none⟩) hB).trans c0, (hb.cell (p := ⟨B, 1, none⟩) hB).trans c1, (hb.frozen (p := ⟨B, 0, none⟩) hB).trans f0, (hb.frozen (p := ⟨B, 1, none⟩) hB).trans f1, by omega, belowThen hbw hb⟩
end Go.Proofs.Ytjcbffkdemadnaa
