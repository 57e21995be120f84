/- Maps keyed by integers that a call makes, whatever their elements: as functions from keys to values. -/
import Derived.Test.YtpcmlfohblglaabBase
import Derived.Maps.Own
import Derived.Maps.OwnOps
import Derived.Maps.Views
namespace Go.Proofs.Ytpcmlfohblglaab
open Go.RowKit
open Go.Maps (Keyed)

/-- How an element of whatever type is kept: as itself. -/
def asHeld (v : Value) : Option (DataW Value × List MemPlace) := some (.held v, [])
/-- Block b is a map of at most n entries that gives f k at the key k (z where there is none). -/
def mapV (w : World) (b n : Nat) (z : Value) (f : Int → Value) : Prop :=
  ∃ D : DataW Value, w.ownsMap Try.prog 3 asHeld b n D ∧ Maps.IsMap D ∧ ∀ k : Int, D.atKey (.int .i64 k) (.held z) = .held (f k)
theorem keyedInt : Keyed Try.prog 3 := Maps.int_keyed Try.underlying3
theorem mapV_made (w : World) (z : Value) : mapV (w.alloc (.map #[] 0)) w.heap.size 0 z (fun _ => z) :=
  ⟨.map [], World.ownsMap_made _ _ _ _, Maps.isMap_empty, fun _ => rfl⟩
theorem mapV_lt {w : World} {b n : Nat} {z : Value} {f : Int → Value} (h : mapV w b n z f) : b < w.heap.size := by
  obtain ⟨D, h1, _⟩ := h; exact h1.lt
theorem mapV_mono {w : World} {b n n' : Nat} {z : Value} {f : Int → Value} (h : mapV w b n z f) (hn : n ≤ n') : mapV w b n' z f := by
  obtain ⟨D, h1, h2, h3⟩ := h; exact ⟨D, h1.mono hn, h2, h3⟩
theorem mapV_below {w w' : World} {b n : Nat} {z : Value} {f : Int → Value} (h : mapV w b n z f) (hb : Below w.heap.size w w') : mapV w' b n z f := by
  obtain ⟨D, h1, h2, h3⟩ := h
  refine ⟨D, h1.kept (row := none) ⟨hb.os, hb.tape, hb.output, hb.size, fun k hk _ => hb.block k hk⟩ (by simp), h2, h3⟩
theorem mapV_congr {w : World} {b n : Nat} {z : Value} {f g : Int → Value} (h : mapV w b n z f) (e : ∀ k, f k = g k) : mapV w b n z g := by
  obtain ⟨D, h1, h2, h3⟩ := h; exact ⟨D, h1, h2, fun k => by rw [h3, e]⟩
/-- m[k]. -/
theorem wpLookV (w : World) {ops : Array Oper} {rest : List Oper} {o : Oper} {a : Act} {Q : Exit → Act → World → Prop} (hg : o.guard = none) (m x : Operand) (t : TypeId) (hop : o.op = Op.lookup t m x false)
    (e : TypeId) (ht : Try.prog.underlying t = some (.map 3 e)) (z : Value) (hz : (zeroValue e).run Try.prog w = .ok z w) (b n : Nat) (f : Int → Value) (hm : a.eval m = .map (some b)) (h : mapV w b n z f)
    (k : Int) (hx : a.eval x = .int .i64 k) (hwf : (Lit.int .i64 k).wf = true) (hK : wpList Try.prog ops Q rest (a.put o.dst (f k)) w) : wpList Try.prog ops Q (o :: rest) a w := by
  obtain ⟨D, h1, h2, h3⟩ := h
  refine wpList_plain hg fun K' hK' => ?_
  obtain ⟨v, ps, hrun, hat⟩ := h1.lookup keyedInt ht hz (zd := .held z) (zp := []) rfl (Maps.keyOf_int_mk Try.underlying3 hwf)
  have hv : v = f k := by
    rw [h3 k] at hat
    simp only [asHeld, Option.some.injEq, Prod.mk.injEq, DataW.held.injEq] at hat
    exact hat.1
  subst hv
  unfold Oper.wp
  simp [execOp, hop, hm, hx, hrun, Result.andThen]
  exact hK' _ _ hK
/-- m[k] = v. -/
theorem wpUpdV (w : World) {ops : Array Oper} {rest : List Oper} {o : Oper} {a : Act} {Q : Exit → Act → World → Prop} (hg : o.guard = none) (m x v : Operand) (t : TypeId) (hop : o.op = Op.mapUpdate t m x v)
    (e : TypeId) (ht : Try.prog.underlying t = some (.map 3 e)) (z : Value) (b n : Nat) (f : Int → Value) (hm : a.eval m = .map (some b)) (h : mapV w b n z f) (hn : n ≤ 1000000)
    (k : Int) (hx : a.eval x = .int .i64 k) (hwf : (Lit.int .i64 k).wf = true) (val : Value) (hv : a.eval v = val)
    (hK : ∀ w', mapV w' b (n + 1) z (fun j => if j = k then val else f j) → w.grownBy w' (some b) → wpList Try.prog ops Q rest (a.put o.dst undef) w') : wpList Try.prog ops Q (o :: rest) a w := by
  obtain ⟨D, h1, h2, h3⟩ := h
  refine wpList_mapUpdate_own w hg m x v t hop 3 e keyedInt ht asHeld b n D hm h1 (by unfold maxLen; omega) _ val (.int .i64 k) hx hv (Maps.keyOf_int_mk Try.underlying3 hwf) (.held val) [] rfl ?_
  intro w' hm' hg'
  refine hK w' ⟨_, hm', h2.put _ _, fun j => ?_⟩ hg'
  show _ = DataW.held (if j = k then val else f j)
  by_cases hj : j = k
  · subst hj
    rw [if_pos rfl, Maps.atKey_put_same h2 (by trivial)]
  · rw [if_neg hj, Maps.atKey_put_other (by simpa using hj), h3]
end Go.Proofs.Ytpcmlfohblglaab
