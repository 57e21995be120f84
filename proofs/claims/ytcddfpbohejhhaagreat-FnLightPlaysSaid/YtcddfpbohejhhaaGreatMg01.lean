/- Joined texts: Base, Own, Rd. -/
import Derived.Test.YtcddfpbohejhhaaGreatRows
import Derived.WalkKit
import Derived.ProofKit
import Derived.OpenShut
import Derived.ShutString
import Derived.ChangeOld
import Derived.Below
import Derived.Lib.SmallJoins
import Derived.Deep.QuietTactic
import Derived.Maps.AppendAt
import Derived.Lib.Hide
import Derived.BigQuiet
namespace Go.Proofs.YtcddfpbohejhhaaGreat
open Go.RowKit

/-- A slice of integers that came in: nil, or a row of cap cells that hold the numbers zs. -/
def RowIn (k : IntKind) (w : World) (a : Option Addr) (len cap : Nat) (zs : List Int) : Prop :=
  (a = none ∧ len = 0 ∧ cap = 0 ∧ zs = []) ∨
  ∃ x, a = some x ∧ len ≤ cap ∧ cap ≤ maxLen ∧ zs.length = cap ∧ (∀ i, i < zs.length → w.cell? (x.add i) = some (.int k (zs.getD i 0))) ∧ ∀ n ∈ zs, (Lit.int k n).wf = true

/-- x lies from a to b. -/
def inB (a b x : Int) : Bool := decide (a ≤ x) && decide (x ≤ b)
theorem inB_iff {a b x : Int} : inB a b x = true ↔ a ≤ x ∧ x ≤ b := by simp [inB]
theorem inB_not {a b x : Int} : inB a b x = false ↔ x < a ∨ b < x := by
  rw [Bool.eq_false_iff, ne_eq, inB_iff]; omega

theorem ofInt64 (a : Nat) (ha : a < 4611686018427387904) : (BitVec.ofInt 64 (a : Int)).toNat = a := by
  rw [BitVec.ofInt_natCast, BitVec.toNat_ofNat]; exact Nat.mod_eq_of_lt (by omega)
theorem wrapSmall (n : Nat) (h : n < 4611686018427387904) : IntKind.i64.wrap ((n : Nat) : Int) = (n : Int) := by
  rw [IntKind.wrap_i64]; omega
theorem and64 (a b : Nat) (ha : a < 4611686018427387904) (hb : b < 4611686018427387904) : bits .and .i64 (a : Int) (b : Int) = ((a &&& b : Nat) : Int) := by
  have hx : a &&& b < 2 ^ 62 := Nat.and_lt_two_pow _ (by omega)
  show IntKind.i64.wrap ((BitVec.ofInt 64 (a : Int) &&& BitVec.ofInt 64 (b : Int)).toNat : Int) = _
  rw [BitVec.toNat_and, ofInt64 a ha, ofInt64 b hb]
  exact wrapSmall _ (by omega)
theorem or64 (a b : Nat) (ha : a < 4611686018427387904) (hb : b < 4611686018427387904) : bits .or .i64 (a : Int) (b : Int) = ((a ||| b : Nat) : Int) := by
  have hx : a ||| b < 2 ^ 62 := Nat.or_lt_two_pow (by omega) (by omega)
  show IntKind.i64.wrap ((BitVec.ofInt 64 (a : Int) ||| BitVec.ofInt 64 (b : Int)).toNat : Int) = _
  rw [BitVec.toNat_or, ofInt64 a ha, ofInt64 b hb]
  exact wrapSmall _ (by omega)
theorem xor64 (a b : Nat) (ha : a < 4611686018427387904) (hb : b < 4611686018427387904) : bits .xor .i64 (a : Int) (b : Int) = ((a ^^^ b : Nat) : Int) := by
  have hx : a ^^^ b < 2 ^ 62 := Nat.xor_lt_two_pow (by omega) (by omega)
  show IntKind.i64.wrap ((BitVec.ofInt 64 (a : Int) ^^^ BitVec.ofInt 64 (b : Int)).toNat : Int) = _
  rw [BitVec.toNat_xor, ofInt64 a ha, ofInt64 b hb]
  exact wrapSmall _ (by omega)
theorem andNot64 (a b : Nat) (ha : a < 4611686018427387904) (hb : b < 4611686018427387904) : bits .andNot .i64 (a : Int) (b : Int) = ((a &&& (18446744073709551615 - b) : Nat) : Int) := by
  have hx : a &&& (18446744073709551615 - b) ≤ a := Nat.and_le_left
  show IntKind.i64.wrap ((BitVec.ofInt 64 (a : Int) &&& ~~~BitVec.ofInt 64 (b : Int)).toNat : Int) = _
  rw [BitVec.toNat_and, BitVec.toNat_not, ofInt64 a ha, ofInt64 b hb]
  have e : 2 ^ 64 - 1 - b = 18446744073709551615 - b := by omega
  rw [e]
  exact wrapSmall _ (by omega)
theorem ret_int {k : IntKind} {a b : Int} (h : a = b) : Ending.returned (.int k a) = .returned (.int k b) := by rw [h]
theorem ret_bool {a b : Bool} (h : a = b) : Ending.returned (.bool a) = .returned (.bool b) := by rw [h]
theorem ret_ib {k : IntKind} {a b : Int} {c d : Bool} (h : a = b) (h2 : c = d) : Ending.returned (.tuple #[.int k a, .bool c]) = .returned (.tuple #[.int k b, .bool d]) := by rw [h, h2]
/-- A cell, a mark of a world behind a call: names that the walk does not open. -/
def cellNew (w : World) (b : Nat) (o : Nat) : Option Value := w.cell? ⟨b, o, none⟩
def frozenNew (w : World) (b : Nat) (o : Nat) : Bool := w.frozen? ⟨b, o, none⟩
theorem cellRule {W w1 : World} (hb : Below W.heap.size W w1) : ∀ b o, w1.cell? ⟨b, o, none⟩ = if b < W.heap.size then W.cell? ⟨b, o, none⟩ else cellNew w1 b o := by
  intro b o
  split
  · exact hb.cell (p := ⟨b, o, none⟩) ‹_›
  · rfl
theorem frozenRule {W w1 : World} (hb : Below W.heap.size W w1) : ∀ b o, w1.frozen? ⟨b, o, none⟩ = if b < W.heap.size then W.frozen? ⟨b, o, none⟩ else frozenNew w1 b o := by
  intro b o
  split
  · exact hb.frozen (p := ⟨b, o, none⟩) ‹_›
  · rfl
theorem heapAlloc (w : World) (o : Obj) : (w.alloc o).heap.size = w.heap.size + 1 := by simp
theorem heapSet (w : World) (a : Addr) (v : Value) : (w.setCell a v).heap.size = w.heap.size := by simp [World.setCell]
theorem cellAlloc (w : World) (c : Array Value) (t : TypeId) (n i : Nat) : (w.alloc (.cells c t)).cell? ⟨n, i, none⟩ = if n < w.heap.size then w.cell? ⟨n, i, none⟩ else if n = w.heap.size then c[i]? else cellNew (w.alloc (.cells c t)) n i := by
  split
  · exact World.cell?_alloc_past _ _ _ ‹_›
  · split
    · exact World.cell?_alloc_at _ _ _ _ ‹_›
    · rfl
theorem frozenAlloc (w : World) (c : Array Value) (t : TypeId) (n i : Nat) : (w.alloc (.cells c t)).frozen? ⟨n, i, none⟩ = if n < w.heap.size then w.frozen? ⟨n, i, none⟩ else if n = w.heap.size then false else frozenNew (w.alloc (.cells c t)) n i := by
  split
  · exact Below.frozen (B := w.heap.size) ((Below.refl _ w).alloc (Nat.le_refl _) _) (p := ⟨n, i, none⟩) ‹_›
  · split
    · exact World.frozen?_alloc_at _ _ _ _ ‹_›
    · rfl
def setNew (w : World) (a : Addr) (v : Value) : World := w.setCell a v
theorem setCellAlloc (w : World) (c : Array Value) (t : TypeId) (n i : Nat) (v : Value) : (w.alloc (.cells c t)).setCell ⟨n, i, none⟩ v = if n < w.heap.size then (w.setCell ⟨n, i, none⟩ v).alloc (.cells c t) else if n = w.heap.size then w.alloc (.cells (c.setIfInBounds i v) t) else setNew (w.alloc (.cells c t)) ⟨n, i, none⟩ v := by
  split
  · exact World.setCell_alloc_past _ _ _ _ ‹_›
  · split
    · exact World.setCell_alloc_at _ _ _ _ _ ‹_›
    · rfl
/-- A call that leaves the world alone, inside a region that only reads. -/
theorem quietL {P : Program} {fn : FuncId} {args : Array Value} {w : World} {n : Nat} {v : Value} (h : Calls P fn args (w.drewN n) fun e w' => e = .returned v ∧ w.drewN n = w') :
    Calls P fn args (w.drewN n) fun e w'' => e = .returned v ∧ ∃ m, w'' = w.drewN m := h.mono fun _ _ ⟨he, hm⟩ => ⟨he, n, hm.symm⟩
theorem belowThen {w a b : World} (h : Below w.heap.size w a) (hb : Below a.heap.size a b) : Below w.heap.size w b := h.trans (hb.mono h.size)
theorem boxKeep {wr W w2 : World} {B : Nat} {c0 c1 : Option Value} (hB : B < wr.heap.size) (h : W.cell? ⟨B, 0, none⟩ = c0 ∧ W.cell? ⟨B, 1, none⟩ = c1 ∧ Below wr.heap.size wr W) (hb : Below W.heap.size W w2) :
    w2.cell? ⟨B, 0, none⟩ = c0 ∧ w2.cell? ⟨B, 1, none⟩ = c1 ∧ Below wr.heap.size wr w2 := by
  have := h.2.2.size
  refine ⟨(hb.cell (p := ⟨B, 0, none⟩) (by show B < _; omega)).trans h.1, (hb.cell (p := ⟨B, 1, none⟩) (by show B < _; omega)).trans h.2.1, belowThen h.2.2 hb⟩

theorem boxKeep1 {wr W w2 : World} {B : Nat} {c0 : Option Value} (hB : B < wr.heap.size) (h : W.cell? ⟨B, 0, none⟩ = c0 ∧ Below wr.heap.size wr W) (hb : Below W.heap.size W w2) :
    w2.cell? ⟨B, 0, none⟩ = c0 ∧ Below wr.heap.size wr w2 := by
  have := h.2.size
  exact ⟨(hb.cell (p := ⟨B, 0, none⟩) (by show B < _; omega)).trans h.1, belowThen h.2 hb⟩
/-- A block of two cells of the call's own, in a world that has grown. -/
def CellK (B : Nat) (v0 v1 : Value) (w0 W : World) : Prop :=
  W.cell? ⟨B, 0, none⟩ = some v0 ∧ W.cell? ⟨B, 1, none⟩ = some v1 ∧ W.frozen? ⟨B, 0, none⟩ = false ∧ W.frozen? ⟨B, 1, none⟩ = false ∧ B < W.heap.size ∧ Below w0.heap.size w0 W
theorem CellK_new (w : World) (v0 v1 : Value) (t : TypeId) : CellK w.heap.size v0 v1 w (w.alloc (.cells #[v0, v1] t)) :=
  ⟨World.cell?_alloc_at _ _ _ _ rfl, World.cell?_alloc_at _ _ _ _ rfl, World.frozen?_alloc_at _ _ _ _ rfl, World.frozen?_alloc_at _ _ _ _ rfl, by simp, Go.Joins.below_alloc1 _ _⟩
theorem CellK_drew {B : Nat} {v0 v1 : Value} {w0 W : World} (h : CellK B v0 v1 w0 W) : CellK B v0 v1 w0 W.drew := ⟨h.1, h.2.1, h.2.2.1, h.2.2.2.1, h.2.2.2.2.1, h.2.2.2.2.2.drew⟩
theorem CellK_keep {B : Nat} {v0 v1 : Value} {w0 W W' : World} (hb : Below W.heap.size W W') (h : CellK B v0 v1 w0 W) : CellK B v0 v1 w0 W' := by
  obtain ⟨c0, c1, f0, f1, hB, hbw⟩ := h
  have := hb.size
  exact ⟨(hb.cell (p := ⟨B, 0, none⟩) hB).trans c0, (hb.cell (p := ⟨B, 1, none⟩) hB).trans c1, (hb.frozen (p := ⟨B, 0, none⟩) hB).trans f0, (hb.frozen (p := ⟨B, 1, none⟩) hB).trans f1, by omega, belowThen hbw hb⟩
end Go.Proofs.YtcddfpbohejhhaaGreat

namespace Go.Proofs.YtcddfpbohejhhaaGreat
open Go.RowKit

/-- The slice value v owns a row of elements of type e, in a block from B on; or it is empty and has no room, wherever it points. -/
def ownsG (w : World) (B : Nat) (e : TypeId) (size : Nat) (v : Value) (n : Nat) (xs : List Value) : Prop :=
  w.ownsRow B e size v n xs ∨ (n = 0 ∧ xs = [] ∧ ∃ a, v = .slice (some a) 0 0)
theorem ownsG_len {w : World} {B : Nat} {e : TypeId} {size : Nat} {v : Value} {n : Nat} {xs : List Value} (h : ownsG w B e size v n xs) : xs.length = n * size := by
  rcases h with h | ⟨rfl, rfl, _⟩
  · exact h.1
  · simp
/-- What is owned stays owned in a world that differs in new blocks alone. -/
theorem ownsRow_below {w w' : World} {B C : Nat} {e : TypeId} {size : Nat} {v : Value} {n : Nat} {xs : List Value} (h : w.ownsRow B e size v n xs) (hb : Below w.heap.size w w') (hC : C ≤ B) : w'.ownsRow C e size v n xs := by
  refine ⟨h.1, ?_⟩
  rcases h.2 with h2 | ⟨g, cap, cur, hv, hBg, hg, r⟩
  · exact .inl h2
  · exact .inr ⟨g, cap, cur, hv, by omega, by rw [hb.block g (Array.getElem?_eq_some_iff.1 hg).1]; exact hg, r⟩
theorem ownsG_below {w w' : World} {B C : Nat} {e : TypeId} {size : Nat} {v : Value} {n : Nat} {xs : List Value} (h : ownsG w B e size v n xs) (hb : Below w.heap.size w w') (hC : C ≤ B) : ownsG w' C e size v n xs := by
  rcases h with h | h
  · exact .inl (ownsRow_below h hb hC)
  · exact .inr h
theorem ownsG_alloc {w : World} {B : Nat} {e : TypeId} {size : Nat} {v : Value} {n : Nat} {xs : List Value} (h : ownsG w B e size v n xs) (o : Obj) : ownsG (w.alloc o) B e size v n xs := by
  rcases h with h | h
  · exact .inl (World.ownsRow.alloc h o)
  · exact .inr h
/-- The shape of an owned slice, and its cells. -/
theorem ownsG_shape {w : World} {B : Nat} {e : TypeId} {size : Nat} {v : Value} {n : Nat} {xs : List Value} (h : ownsG w B e size v n xs) : ∃ ao cap, v = .slice ao n cap ∧
    ((n = 0 ∧ xs = []) ∨ ∃ g, ao = some ⟨g, 0, none⟩ ∧ B ≤ g ∧ g < w.heap.size ∧ n ≤ cap ∧ (∀ j, j < n * size → w.cell? ⟨g, j, none⟩ = xs[j]?) ∧ (∀ j, w.frozen? ⟨g, j, none⟩ = false) ∧ w.ownsRow B e size (.slice (some ⟨g, 0, none⟩) n cap) n xs) := by
  rcases h with h | ⟨rfl, rfl, a, rfl⟩
  · have h2 := h
    rcases h.2 with ⟨rfl, rfl⟩ | ⟨g, cap, cur, rfl, hb, hg, hnc, _⟩
    · exact ⟨none, 0, rfl, .inl ⟨rfl, List.eq_nil_of_length_eq_zero (by simpa using h.1)⟩⟩
    · exact ⟨some ⟨g, 0, none⟩, cap, rfl, .inr ⟨g, rfl, hb, (Array.getElem?_eq_some_iff.1 hg).1, hnc, fun j hj => World.ownsRow.cellAt h2 j hj, fun j => World.ownsRow.frozenAt h2 j, h2⟩⟩
  · exact ⟨_, _, rfl, .inl ⟨rfl, rfl⟩⟩

/-- append to a slice of the call's own, whatever its elements. -/
theorem wpAppendG {ops : Array Oper} {rest : List Oper} {o : Oper} {a : Act} {Q : Exit → Act → World → Prop} (w : World) (hgd : o.guard = none) (s x : Operand) (ts e : TypeId) (z : Value) (size bytes : Nat)
    (ho : o.op = .call { callee := .builtin .append, args := #[s, x], argTypes := #[ts, ts] }) (hts : Tryz.prog.underlying ts = some (.slice e))
    (hin : (Tryz.prog.info? e).map (fun i => (i.zero, i.size, i.bytes)) = some (some z, size, bytes)) (hzs : z.cells.size = size) (hsz : 0 < size) (hby : bytes ≤ 100)
    (B : Nat) (v : Value) (n : Nat) (xs : List Value) (hs : a.eval s = v) (hown : ownsG w B e size v n xs) (news : List Value) (t' : TypeId) (hx : a.eval x = .slice (some ⟨w.heap.size, 0, none⟩) 1 1) (hl : news.length = size) (h1 : ∀ u ∈ news, u.oneCell' = true)
    (hn : n ≤ 1000000000) (hB : B ≤ w.heap.size)
    (h : ∀ ao cap w', ownsG w' B e size (.slice ao (n + 1) cap) (n + 1) (xs ++ news) → Below B w w' → (∀ k, k < w.heap.size → (v.ownBlock = some k → ∀ cur, w.heap[k]? ≠ some (.cells cur e (0, 0))) → w'.heap[k]? = w.heap[k]?) → wpList Tryz.prog ops Q rest (a.put o.dst (.slice ao (n + 1) cap)) w') :
    wpList Tryz.prog ops Q (o :: rest) a (w.alloc (.cells news.toArray t')) := by
  obtain ⟨i0, hi, hz0, hz1, hz2⟩ := info_parts hin
  have hb1 : (n + 1) * bytes ≤ 140737488355328 := by
    have : (n + 1) * bytes ≤ (n + 1) * 100 := Nat.mul_le_mul_left _ hby
    omega
  have hnews : ∀ j u, news[j]? = some u → (w.alloc (.cells news.toArray t')).cell? ((⟨w.heap.size, 0, none⟩ : Addr).add j) = some u := by
    intro j u hu
    rw [Addr.add_lit, World.cell?_alloc_at _ _ _ _ rfl]
    simpa using hu
  have fin : ∀ v' w', w'.ownsRow B e size v' (n + 1) (xs ++ news) → Below B w w' → (∀ k, k < w.heap.size → (v.ownBlock = some k → ∀ cur, w.heap[k]? ≠ some (.cells cur e (0, 0))) → w'.heap[k]? = w.heap[k]?) → wpList Tryz.prog ops Q rest (a.put o.dst v') w' := by
    intro v' w' hr hb hk
    obtain ⟨ao, cap, rfl, _⟩ := ownsG_shape (.inl hr)
    exact h ao cap w' (.inl hr) hb hk
  rcases hown with hown | ⟨rfl, rfl, a0, rfl⟩
  · refine wpList_append_own _ hgd s x ts ho B e i0 z size bytes hts hi hz0 hz1 hz2 hzs hsz v n xs hs (World.ownsRow.alloc hown _) ⟨w.heap.size, 0, none⟩ 1 1 news hx (by simpa using hl) hnews h1 (by unfold maxLen; omega) hb1 (by simp; omega) ?_
    intro v' w' hr hg _
    refine fin v' w' hr (((Below.refl B w).alloc hB _).grown hg (by simp; omega) fun k hk => (World.ownsRow.lt hown k hk).1) fun k hk hne => ?_
    rw [hg.block k (by simp; omega) ?_, Below.heap_alloc _ _ _ hk]
    intro hc
    rcases hown.2 with ⟨rfl, _⟩ | ⟨g, _, cur, rfl, _, hgg, _⟩
    · simp [Value.ownBlock] at hc
    · simp only [Value.ownBlock, Option.some.injEq] at hc
      subst hc
      exact hne rfl cur hgg
  · refine wpList_append_grows _ hgd s x ts ho e i0 z size bytes hts hi hz0 hz1 hz2 hzs hsz (some a0) 0 0 [] hs (by simp) (by simp) (by simp) ⟨w.heap.size, 0, none⟩ 1 1 news hx (by simpa using hl) hnews h1 (by omega) (by unfold maxLen; omega) hb1 ?_
    intro v' w' hr hg
    have hr2 : w'.ownsRow B e size v' (0 + 1) ([] ++ news) := by
      refine ⟨hr.1, ?_⟩
      rcases hr.2 with h2 | ⟨g, cap, cur, hv, hBg, r⟩
      · exact .inl h2
      · exact .inr ⟨g, cap, cur, hv, by simp at hBg; omega, r⟩
    refine fin v' w' hr2 (((Below.refl B w).alloc hB _).grown hg (by simp; omega) fun k hk => by cases hk) fun k hk hne => ?_
    rw [hg.block k (by simp; omega) (by simp), Below.heap_alloc _ _ _ hk]

theorem infoInt : (Tryz.prog.info? 3).map (fun i => (i.zero, i.size, i.bytes)) = some (some (.int .i64 0), 1, 8) := by kernel_rfl
/-- The slice value v owns a row of the numbers L, in a block from B on. -/
def ownsInts (w : World) (B : Nat) (v : Value) (L : List Int) : Prop := ownsG w B 3 1 v L.length (L.map (Value.int .i64))
theorem ownsInts_nil (w : World) (B : Nat) : ownsInts w B (.slice none 0 0) [] := .inl (World.ownsRow_nil w B _ _)
theorem ownsInts_zero (w : World) (B : Nat) (a : Addr) : ownsInts w B (.slice (some a) 0 0) [] := .inr ⟨rfl, rfl, a, rfl⟩
theorem ownsInts_shape {w : World} {B : Nat} {v : Value} {L : List Int} (h : ownsInts w B v L) : ∃ ao cap, v = .slice ao L.length cap ∧
    (L = [] ∨ ∃ g, ao = some ⟨g, 0, none⟩ ∧ B ≤ g ∧ g < w.heap.size ∧ L.length ≤ cap ∧ ∀ j, j < L.length → w.cell? ⟨g, j, none⟩ = some (.int .i64 (L.getD j 0))) := by
  obtain ⟨ao, cap, rfl, ⟨hn, _⟩ | ⟨g, rfl, hb, hg, hc, hcell, _⟩⟩ := ownsG_shape h
  · have : L = [] := List.eq_nil_of_length_eq_zero hn
    subst this
    exact ⟨ao, cap, rfl, .inl rfl⟩
  · refine ⟨_, cap, rfl, .inr ⟨g, rfl, hb, hg, hc, fun j hj => ?_⟩⟩
    rw [hcell j (by omega)]
    simp [hj]
theorem ownsInts_frozen {w : World} {B g n cap : Nat} {L : List Int} (h : ownsInts w B (.slice (some ⟨g, 0, none⟩) n cap) L) (hp : 0 < L.length) (j : Nat) : w.frozen? ⟨g, j, none⟩ = false := by
  obtain ⟨ao, cap', he, ⟨hn, _⟩ | ⟨g', rfl, _, _, _, _, hf, _⟩⟩ := ownsG_shape h
  · omega
  · simp only [Value.slice.injEq, Option.some.injEq, Addr.mk.injEq] at he
    obtain ⟨⟨rfl, _⟩, _⟩ := he
    exact hf j
theorem ownsInts_below {w w' : World} {B C : Nat} {v : Value} {L : List Int} (h : ownsInts w B v L) (hb : Below w.heap.size w w') (hC : C ≤ B) : ownsInts w' C v L := ownsG_below h hb hC
theorem ownsInts_le {w : World} {B C : Nat} {v : Value} {L : List Int} (h : ownsInts w B v L) (hC : C ≤ B) : ownsInts w C v L := ownsInts_below h (Below.refl _ _) hC
theorem ownsInts_drew {w : World} {B : Nat} {v : Value} {L : List Int} (h : ownsInts w B v L) : ownsInts w.drew B v L := ownsInts_below h ((Below.refl _ _).drew) (Nat.le_refl _)
/-- append of one number to a slice of the call's own. -/
theorem wpAppendInt {ops : Array Oper} {rest : List Oper} {o : Oper} {a : Act} {Q : Exit → Act → World → Prop} (w : World) (hgd : o.guard = none) (s x : Operand)
    (ho : o.op = .call { callee := .builtin .append, args := #[s, x], argTypes := #[24, 24] })
    (B : Nat) (v : Value) (L : List Int) (hs : a.eval s = v) (hown : ownsInts w B v L) (z : Int) (hx : a.eval x = .slice (some ⟨w.heap.size, 0, none⟩) 1 1)
    (hn : L.length ≤ 1000000000) (hB : B ≤ w.heap.size)
    (h : ∀ ao cap w', ownsInts w' B (.slice ao (L.length + 1) cap) (L ++ [z]) → Below B w w' → wpList Tryz.prog ops Q rest (a.put o.dst (.slice ao (L.length + 1) cap)) w') :
    wpList Tryz.prog ops Q (o :: rest) a (w.alloc (.cells #[.int .i64 z] 3)) :=
  wpAppendG w hgd s x _ _ (.int .i64 0) 1 8 ho Tryz.underlying24 infoInt rfl (by decide) (by decide) B v L.length _ hs hown [.int .i64 z] _ hx rfl (by simp [Value.oneCell']) hn hB
    fun ao cap w' h2 hb _ => h ao cap w' (by unfold ownsInts; simpa using h2) hb
end Go.Proofs.YtcddfpbohejhhaaGreat

namespace Go.Proofs.YtcddfpbohejhhaaGreat
open Go.RowKit

/-- A slice at ao reads as the numbers L. -/
def RdI (w : World) (ao : Option Addr) (L : List Int) : Prop :=
  L = [] ∨ ∃ b off, ao = some ⟨b, off, none⟩ ∧ b < w.heap.size ∧ ∀ j, j < L.length → w.cell? ⟨b, off + j, none⟩ = some (.int .i64 (L.getD j 0))
theorem RdI_below {w w' : World} {ao : Option Addr} {L : List Int} (h : RdI w ao L) (hb : Below w.heap.size w w') : RdI w' ao L := by
  rcases h with h | ⟨b, off, rfl, hlt, hc⟩
  · exact .inl h
  · have := hb.size
    exact .inr ⟨b, off, rfl, by omega, fun j hj => (hb.cell (p := ⟨b, off + j, none⟩) (by show b < _; omega)).trans (hc j hj)⟩
theorem RdI_owns {w : World} {B : Nat} {ao : Option Addr} {n cap : Nat} {L : List Int} (h : ownsInts w B (.slice ao n cap) L) : RdI w ao L := by
  obtain ⟨ao', cap', he, hL | ⟨g, rfl, _, hlt, _, hc⟩⟩ := ownsInts_shape h
  · exact .inl hL
  · simp only [Value.slice.injEq] at he
    obtain ⟨rfl, _, _⟩ := he
    exact .inr ⟨g, 0, rfl, hlt, fun j hj => by simpa using hc j hj⟩
theorem RdI_row {w : World} {ao : Option Addr} {len cap : Nat} {zs : List Int} (h : RowIn .i64 w ao len cap zs) : RdI w ao (zs.take len) ∧ (zs.take len).length = len ∧ len ≤ maxLen := by
  rcases h with ⟨rfl, rfl, rfl, rfl⟩ | ⟨x, rfl, hl, hm, hz, hc, _⟩
  · exact ⟨.inl rfl, rfl, Nat.zero_le _⟩
  · have hlen : (zs.take len).length = len := by rw [List.length_take]; omega
    refine ⟨?_, hlen, by omega⟩
    by_cases h0 : len = 0
    · subst h0; exact .inl (by simp)
    · right
      obtain ⟨b, off, rfl, hcell⟩ := ints_at hc (by omega)
      have h00 := hcell 0 (by omega)
      refine ⟨b, off, rfl, World.block_lt_of_cell? w _ h00, fun j hj => ?_⟩
      rw [hcell j (by omega)]
      congr 2
      simp only [List.getD_eq_getElem?_getD]
      rw [List.getElem?_take_of_lt (by omega)]
end Go.Proofs.YtcddfpbohejhhaaGreat
