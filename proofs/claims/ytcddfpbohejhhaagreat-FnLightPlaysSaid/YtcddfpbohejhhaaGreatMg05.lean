/- Joined texts: Map, TabV, Pad. -/
import Derived.Test.YtcddfpbohejhhaaGreatMg01
import Derived.Maps.Own
import Derived.Maps.OwnOps
import Derived.Maps.Views
import Derived.Test.YtcddfpbohejhhaaGreatMg04
import Derived.Lib.Hide
namespace Go.Proofs.YtcddfpbohejhhaaGreat
open Go.RowKit
open Go.Maps (Keyed)

/-- How an element of whatever type is kept: as itself. -/
def asHeld (v : Value) : Option (DataW Value × List MemPlace) := some (.held v, [])
/-- Block b is a map of at most n entries that gives f k at the key k (z where there is none). -/
def mapV (w : World) (b n : Nat) (z : Value) (f : Int → Value) : Prop :=
  ∃ D : DataW Value, w.ownsMap Tryz.prog 3 asHeld b n D ∧ Maps.IsMap D ∧ ∀ k : Int, D.atKey (.int .i64 k) (.held z) = .held (f k)
theorem keyedInt : Keyed Tryz.prog 3 := Maps.int_keyed Tryz.underlying3
theorem mapV_made (w : World) (z : Value) : mapV (w.alloc (.map #[] 0)) w.heap.size 0 z (fun _ => z) :=
  ⟨.map [], World.ownsMap_made _ _ _ _, Maps.isMap_empty, fun _ => rfl⟩
theorem mapV_lt {w : World} {b n : Nat} {z : Value} {f : Int → Value} (h : mapV w b n z f) : b < w.heap.size := by
  obtain ⟨D, h1, _⟩ := h; exact h1.lt
theorem mapV_mono {w : World} {b n n' : Nat} {z : Value} {f : Int → Value} (h : mapV w b n z f) (hn : n ≤ n') : mapV w b n' z f := by
  obtain ⟨D, h1, h2, h3⟩ := h; exact ⟨D, h1.mono hn, h2, h3⟩
theorem mapV_below {w w' : World} {b n : Nat} {z : Value} {f : Int → Value} (h : mapV w b n z f) (hb : Below w.heap.size w w') : mapV w' b n z f := by
  obtain ⟨D, h1, h2, h3⟩ := h
  refine ⟨D, h1.kept (row := none) ⟨hb.os, hb.tape, hb.output, hb.size, fun k hk _ => hb.block k hk⟩ (by simp), h2, h3⟩
theorem mapV_congr {w : World} {b n : Nat} {z : Value} {f g : Int → Value} (h : mapV w b n z f) (e : ∀ k, f k = g k) : mapV w b n z g := by
  obtain ⟨D, h1, h2, h3⟩ := h; exact ⟨D, h1, h2, fun k => by rw [h3, e]⟩
/-- m[k]. -/
theorem wpLookV (w : World) {ops : Array Oper} {rest : List Oper} {o : Oper} {a : Act} {Q : Exit → Act → World → Prop} (hg : o.guard = none) (m x : Operand) (t : TypeId) (hop : o.op = Op.lookup t m x false)
    (e : TypeId) (ht : Tryz.prog.underlying t = some (.map 3 e)) (z : Value) (hz : (zeroValue e).run Tryz.prog w = .ok z w) (b n : Nat) (f : Int → Value) (hm : a.eval m = .map (some b)) (h : mapV w b n z f)
    (k : Int) (hx : a.eval x = .int .i64 k) (hwf : (Lit.int .i64 k).wf = true) (hK : wpList Tryz.prog ops Q rest (a.put o.dst (f k)) w) : wpList Tryz.prog ops Q (o :: rest) a w := by
  obtain ⟨D, h1, h2, h3⟩ := h
  refine wpList_plain hg fun K' hK' => ?_
  obtain ⟨v, ps, hrun, hat⟩ := h1.lookup keyedInt ht hz (zd := .held z) (zp := []) rfl (Maps.keyOf_int_mk Tryz.underlying3 hwf)
  have hv : v = f k := by
    rw [h3 k] at hat
    simp only [asHeld, Option.some.injEq, Prod.mk.injEq, DataW.held.injEq] at hat
    exact hat.1
  subst hv
  unfold Oper.wp
  simp [execOp, hop, hm, hx, hrun, Result.andThen]
  exact hK' _ _ hK
/-- m[k] = v. -/
theorem wpUpdV (w : World) {ops : Array Oper} {rest : List Oper} {o : Oper} {a : Act} {Q : Exit → Act → World → Prop} (hg : o.guard = none) (m x v : Operand) (t : TypeId) (hop : o.op = Op.mapUpdate t m x v)
    (e : TypeId) (ht : Tryz.prog.underlying t = some (.map 3 e)) (z : Value) (b n : Nat) (f : Int → Value) (hm : a.eval m = .map (some b)) (h : mapV w b n z f) (hn : n ≤ 1000000)
    (k : Int) (hx : a.eval x = .int .i64 k) (hwf : (Lit.int .i64 k).wf = true) (val : Value) (hv : a.eval v = val)
    (hK : ∀ w', mapV w' b (n + 1) z (fun j => if j = k then val else f j) → w.grownBy w' (some b) → wpList Tryz.prog ops Q rest (a.put o.dst undef) w') : wpList Tryz.prog ops Q (o :: rest) a w := by
  obtain ⟨D, h1, h2, h3⟩ := h
  refine wpList_mapUpdate_own w hg m x v t hop 3 e keyedInt ht asHeld b n D hm h1 (by unfold maxLen; omega) _ val (.int .i64 k) hx hv (Maps.keyOf_int_mk Tryz.underlying3 hwf) (.held val) [] rfl ?_
  intro w' hm' hg'
  refine hK w' ⟨_, hm', h2.put _ _, fun j => ?_⟩ hg'
  show _ = DataW.held (if j = k then val else f j)
  by_cases hj : j = k
  · subst hj
    rw [if_pos rfl, Maps.atKey_put_same h2 (by trivial)]
  · rw [if_neg hj, Maps.atKey_put_other (by simpa using hj), h3]
end Go.Proofs.YtcddfpbohejhhaaGreat

namespace Go.Proofs.YtcddfpbohejhhaaGreat
open Go.RowKit

theorem litP_mem {L : List Int} {c k x : Nat} (hc : c < 128) (hk : k ≤ 7) (h : x ∈ litP L c k) : c < x ∧ x < 128 ∧ wayB (x : Int) L = true := by
  simp only [litP, List.mem_map, List.mem_filter, List.mem_range] at h
  obtain ⟨b, ⟨hb, hn⟩, rfl⟩ := h
  simp only [nextB, Bool.and_eq_true, bne_iff_ne, ne_eq] at hn
  have h1 : c ≤ c ||| 2 ^ b := Nat.left_le_or
  exact ⟨by omega, lor_lt c b hc (by omega), hn.2⟩
section
variable {α : Type}
def tabV (L : List Int) (f : Nat → List α → α) : Nat → Nat → α
  | 0, c => f c []
  | k + 1, c => f c ((litL L c).map (tabV L f k))
def valC (L : List Int) (f : Nat → List α → α) (c : Nat) : α := tabV L f (128 - c) c
theorem tabV_fuel (L : List Int) (f : Nat → List α → α) : ∀ k k' c, c < 128 → 128 - c ≤ k → 128 - c ≤ k' → tabV L f k c = tabV L f k' c := by
  intro k
  induction k with
  | zero => intro k' c hc h1 _; omega
  | succ k ih =>
    intro k' c hc h1 h2
    cases k' with
    | zero => omega
    | succ k' =>
      unfold tabV
      congr 1
      apply List.map_congr_left
      intro x hx
      have := litP_mem hc (Nat.le_refl 7) hx
      exact ih k' x this.2.1 (by omega) (by omega)
theorem valC_eq (L : List Int) (f : Nat → List α → α) (c : Nat) (hc : c < 128) : valC L f c = f c ((litL L c).map (valC L f)) := by
  obtain ⟨k, hk⟩ : ∃ k, 128 - c = k + 1 := ⟨127 - c, by omega⟩
  show tabV L f (128 - c) c = _
  rw [hk]
  show f c ((litL L c).map (tabV L f k)) = _
  congr 1
  apply List.map_congr_left
  intro x hx
  have := litP_mem hc (Nat.le_refl 7) hx
  exact tabV_fuel L f _ _ x this.2.1 (by omega) (by omega)
end

/-- The slice value v owns a row of values of one cell each. -/
def ownsV (w : World) (B : Nat) (e : TypeId) (v : Value) (vs : List Value) : Prop := ownsG w B e 1 v vs.length vs
theorem ownsV_nil (w : World) (B : Nat) (e : TypeId) : ownsV w B e (.slice none 0 0) [] := .inl (World.ownsRow_nil w B _ _)
theorem ownsV_below {w w' : World} {B C : Nat} {e : TypeId} {v : Value} {vs : List Value} (h : ownsV w B e v vs) (hb : Below w.heap.size w w') (hC : C ≤ B) : ownsV w' C e v vs := ownsG_below h hb hC
/-- A slice at ao reads as the values. -/
def RdV (w : World) (ao : Option Addr) (vs : List Value) : Prop :=
  vs = [] ∨ ∃ b off, ao = some ⟨b, off, none⟩ ∧ b < w.heap.size ∧ ∀ j, j < vs.length → w.cell? ⟨b, off + j, none⟩ = some (vs.getD j undef)
theorem RdV_below {w w' : World} {ao : Option Addr} {vs : List Value} (h : RdV w ao vs) (hb : Below w.heap.size w w') : RdV w' ao vs := by
  rcases h with h | ⟨b, off, rfl, hlt, hc⟩
  · exact .inl h
  · have := hb.size
    exact .inr ⟨b, off, rfl, by omega, fun j hj => (hb.cell (p := ⟨b, off + j, none⟩) (by show b < _; omega)).trans (hc j hj)⟩
theorem ownsV_shape {w : World} {B : Nat} {e : TypeId} {v : Value} {vs : List Value} (h : ownsV w B e v vs) : ∃ ao cap, v = .slice ao vs.length cap ∧ RdV w ao vs := by
  obtain ⟨ao, cap, rfl, ⟨hn, hx⟩ | ⟨g, rfl, hb, hg, hc, hcell, _⟩⟩ := ownsG_shape h
  · exact ⟨ao, cap, rfl, .inl hx⟩
  · refine ⟨_, cap, rfl, .inr ⟨g, 0, rfl, hg, fun j hj => ?_⟩⟩
    rw [Nat.zero_add, hcell j (by omega)]
    simp [hj]
/-- append of one value to a slice of the call's own. -/
theorem wpAppendV {ops : Array Oper} {rest : List Oper} {o : Oper} {a : Act} {Q : Exit → Act → World → Prop} (w : World) (hgd : o.guard = none) (s x : Operand) (ts e : TypeId) (z : Value) (bytes : Nat)
    (ho : o.op = .call { callee := .builtin .append, args := #[s, x], argTypes := #[ts, ts] }) (hts : Tryz.prog.underlying ts = some (.slice e))
    (hin : (Tryz.prog.info? e).map (fun i => (i.zero, i.size, i.bytes)) = some (some z, 1, bytes)) (hzs : z.cells.size = 1) (hby : bytes ≤ 100)
    (B : Nat) (v : Value) (vs : List Value) (hs : a.eval s = v) (hown : ownsV w B e v vs) (u : Value) (hu : u.oneCell' = true) (t' : TypeId) (hx : a.eval x = .slice (some ⟨w.heap.size, 0, none⟩) 1 1)
    (hn : vs.length ≤ 1000000000) (hB : B ≤ w.heap.size)
    (h : ∀ ao cap w', ownsV w' B e (.slice ao (vs.length + 1) cap) (vs ++ [u]) → Below B w w' → wpList Tryz.prog ops Q rest (a.put o.dst (.slice ao (vs.length + 1) cap)) w') :
    wpList Tryz.prog ops Q (o :: rest) a (w.alloc (.cells #[u] t')) :=
  wpAppendG w hgd s x ts e z 1 bytes ho hts hin hzs (by decide) hby B v vs.length _ hs hown [u] _ hx rfl (by simpa using hu) hn hB
    fun ao cap w' h2 hb _ => h ao cap w' (by unfold ownsV; simpa using h2) hb
theorem wf128 (k : Nat) (h : k < 128) : (Lit.int .i64 (k : Int)).wf = true := by
  have : ∀ x : Fin 128, (Lit.int .i64 (x.val : Int)).wf = true := by decide +kernel
  exact this ⟨k, h⟩
theorem below_grown {w W w' : World} {b : Nat} (h : Below b w W) (hg : W.grownBy w' (some b)) (hb : b ≤ w.heap.size) : Below b w w' := by
  have hs := h.size
  exact ⟨hg.os.trans h.os, hg.tape.trans h.tape, hg.output.trans h.output, Nat.le_trans h.size hg.size, fun k hk => (hg.block k (by omega) (fun e => by injection e; omega)).trans (h.block k hk)⟩
end Go.Proofs.YtcddfpbohejhhaaGreat

namespace Go.Proofs.YtcddfpbohejhhaaGreat
open Go.RowKit

theorem zeroCells_rep (m : Nat) : Builtin.zeroCells #[Value.int .i64 0] m = (List.replicate m (Value.int .i64 0)).toArray := by
  apply Array.ext'
  simp [Builtin.zeroCells, List.eq_replicate_iff]
  intro b hb
  rw [Nat.mod_one]
  rfl
set_option maxHeartbeats 1000000 in
theorem run_append_zeros (w : World) (ty : TypeId) (B : Nat) (v : Value) (n m : Nat) (xs : List Value) (hown : w.ownsRow B 3 1 v n xs) (h : n + m ≤ 1000) (hB : B ≤ w.heap.size) :
    ∃ v' w', (Builtin.append_ #[24, 3] ty #[v, .int .i64 m]).run Tryz.prog w = .ok v' w' ∧ w'.ownsRow B 3 1 v' (n + m) (xs ++ List.replicate m (.int .i64 0)) ∧ w.grownBy w' v.ownBlock := by
  obtain ⟨i, hi, hz, hs1, hb8⟩ := info_parts infoInt
  have ht := Tryz.underlying24
  have hu := Tryz.underlying3
  have hw : IntKind.i64.wrap (m : Int) = (m : Int) := IntWalk.i64_in _ (by omega)
  have hw0 : IntKind.i64.wrap 0 = 0 := by decide
  have hm0 : ¬ ((m : Int) < 0) := by omega
  have hmb : ¬ (281474976710656 < (m : Int) * 8) := by omega
  have hxl : xs.length = n := by have := hown.1; omega
  have hlen : (xs ++ List.replicate m (Value.int .i64 0)).length = (n + m) * 1 := by simp [hxl]
  have grown : ∀ (old : Nat), old < n + m → ∀ (row : Option Nat),
      (w.drew.alloc (.cells (xs.toArray ++ (List.replicate m (Value.int .i64 0)).toArray ++ Builtin.zeroCells #[Value.int .i64 0] (grownCap w (n + m) old 3 - (n + m))) 3)).ownsRow B 3 1
        (.slice (some ⟨w.heap.size, 0, none⟩) (n + m) (grownCap w (n + m) old 3)) (n + m) (xs ++ List.replicate m (Value.int .i64 0)) ∧
      w.grownBy (w.drew.alloc (.cells (xs.toArray ++ (List.replicate m (Value.int .i64 0)).toArray ++ Builtin.zeroCells #[Value.int .i64 0] (grownCap w (n + m) old 3 - (n + m))) 3)) row := by
    intro old ho row
    have hge := grownCap_ge w (n + m) old 3
    have hcm : grownCap w (n + m) old 3 ≤ maxLen := grownCap_le_maxLen w (n + m) old 3 (by unfold maxLen; omega)
    refine ⟨⟨hlen, .inr ⟨w.heap.size, _, _, rfl, hB, heap_alloc_new w.drew _, hge, hcm, ?_, ?_⟩⟩, ⟨rfl, rfl, rfl, by simp, fun k hk _ => heap_alloc_old w.drew _ hk⟩⟩
    · simp only [Array.size_append, List.size_toArray, size_zeroCells, List.length_replicate, hxl]
      simp
      omega
    · simp only [Array.toList_append, List.append_assoc]
      rw [← List.append_assoc, ← hlen]
      exact List.take_left
  rcases hown.2 with ⟨rfl, rfl⟩ | ⟨g, cap, cur, rfl, hbg, hg, hnc, hcm, hcs, htake⟩
  · have hx : xs = [] := List.eq_nil_of_length_eq_zero hxl
    subst hx
    rcases Nat.eq_zero_or_pos m with rfl | hm
    · refine ⟨.slice none 0 0, w, ?_, World.ownsRow_nil w B _ _, ⟨rfl, rfl, rfl, Nat.le_refl _, fun _ _ _ => rfl⟩⟩
      simp [Builtin.append_, run_underlying ht, run_underlying hu, sizeOf, typeInfo, hi, hz, hs1, hb8, asInt, asIntOf, hw0, hw]
    · have hgr := grown 0 (by omega) (Value.ownBlock (.slice none 0 0))
      have h48' : ¬ (281474976710656 < Builtin.nextslicecap m 0 * 8) := by rw [nextslicecap_zero hm]; omega
      have hm1 : ¬ m = 0 := by omega
      have h63' : ¬ (9223372036854775807 < (m : Int)) := by omega
      simp only [Nat.zero_add, List.nil_append, Array.empty_append] at hgr ⊢
      refine ⟨_, _, ?_, hgr.1, hgr.2⟩
      simp [Builtin.append_, run_underlying ht, run_underlying hu, sizeOf, typeInfo, zeroValue, hi, hz, hs1, hb8, asInt, asIntOf, hw, hm0, hmb, hm1, h63', h48', Question.forced, run_firstCells_none, newRow, grownCap, zeroCells_rep, Value.cells]
  · have hnews1 : ∀ u ∈ List.replicate m (Value.int .i64 0), u.oneCell' = true := fun u hu => by rw [List.eq_of_mem_replicate hu]; rfl
    by_cases hroom : n + m ≤ cap
    · have hfit : n * 1 + 0 + (List.replicate m (Value.int .i64 0)).length ≤ cur.size := by rw [List.length_replicate, hcs]; omega
      have hst := run_storeCells_at Tryz.prog g (n * 1) 3 (List.replicate m (Value.int .i64 0)) 0 cur w hg hfit hnews1
      rw [Nat.add_zero] at hst
      refine ⟨.slice (some ⟨g, 0, none⟩) (n + m) cap, w.setRow g (cur.toList.take (n * 1) ++ List.replicate m (Value.int .i64 0) ++ cur.toList.drop (n * 1 + (List.replicate m (Value.int .i64 0)).length)).toArray, ?_, ⟨hlen, .inr ⟨g, cap, _, rfl, hbg, setRow_heap w g cur _ 3 _ hg, hroom, hcm, ?_, ?_⟩⟩, ⟨rfl, rfl, rfl, by simp, fun k _ hk => setRow_other w g k _ (fun e => hk (by simp [Value.ownBlock, e]))⟩⟩
      · rcases Nat.eq_zero_or_pos m with rfl | hm
        · have hroom' : n ≤ cap := by omega
          simp only [Nat.mul_one, List.replicate_zero, List.length_nil, List.append_nil, Nat.add_zero] at hst ⊢
          simp only [Builtin.append_, run_underlying ht, run_underlying hu, sizeOf, typeInfo]
          simp [run_underlying ht, run_underlying hu, sizeOf, typeInfo, hi, hz, hs1, hb8, asInt, asIntOf, hw0, hw, Addr.add_lit, hroom']
          rw [hst]
          simp [Result.andThen]
        · have hm1 : ¬ m = 0 := by omega
          simp only [Nat.mul_one, List.length_replicate] at hst ⊢
          simp [Builtin.append_, run_underlying ht, run_underlying hu, sizeOf, typeInfo, zeroValue, hi, hz, hs1, hb8, asInt, asIntOf, hw, hm0, hmb, hm1, hroom, zeroCells_rep, Value.cells, Addr.add_lit]
          rw [hst]
          simp [Result.andThen]
      · simp only [List.size_toArray, List.length_append, List.length_take, List.length_drop, Array.length_toList, List.length_replicate]
        rw [hcs]; omega
      · rw [htake, ← hlen]
        exact List.take_left
    · have hm : 0 < m := by omega
      have holds : ∀ j u, xs[j]? = some u → w.drew.cell? ((⟨g, 0, none⟩ : Addr).add j) = some u := by
        intro j u hj
        exact hown.cells (g := g) rfl j u hj
      have hfo := run_firstCells_some (P := Tryz.prog) w.drew 1 n ⟨g, 0, none⟩ n cap xs (by omega) holds
      have hgr := grown cap (by omega) (Value.ownBlock (.slice (some ⟨g, 0, none⟩) n cap))
      have hm1 : ¬ m = 0 := by omega
      have h63' : ¬ (9223372036854775807 < ((n : Int) + (m : Int))) := by omega
      have h48' : ¬ (281474976710656 < Builtin.nextslicecap (n + m) cap * 8) := by
        have := growslice_fits (need := n + m) (old := cap) (bytes := 8) (by omega) (by omega)
        omega
      refine ⟨_, _, ?_, hgr.1, hgr.2⟩
      simp [Builtin.append_, run_underlying ht, run_underlying hu, sizeOf, typeInfo, zeroValue, hi, hz, hs1, hb8, asInt, asIntOf, hw, hm0, hmb, hm1, hroom, h63', h48', Question.forced, hfo, newRow, grownCap, zeroCells_rep, Value.cells]
set_option maxHeartbeats 1000000 in
theorem run_append_zeros0 (w : World) (ty : TypeId) (B : Nat) (a0 : Addr) (m : Nat) (h : m ≤ 1000) (hB : B ≤ w.heap.size) :
    ∃ v' w', (Builtin.append_ #[24, 3] ty #[.slice (some a0) 0 0, .int .i64 m]).run Tryz.prog w = .ok v' w' ∧ ownsInts w' B v' (List.replicate m 0) ∧ Below B w w' := by
  obtain ⟨i, hi, hz, hs1, hb8⟩ := info_parts infoInt
  have ht := Tryz.underlying24
  have hu := Tryz.underlying3
  have hw : IntKind.i64.wrap (m : Int) = (m : Int) := IntWalk.i64_in _ (by omega)
  have hw0 : IntKind.i64.wrap 0 = 0 := by decide
  have hm0 : ¬ ((m : Int) < 0) := by omega
  have hmb : ¬ (281474976710656 < (m : Int) * 8) := by omega
  rcases Nat.eq_zero_or_pos m with rfl | hm
  · refine ⟨.slice (some a0) 0 0, w, ?_, ownsInts_zero _ _ _, Below.refl _ _⟩
    simp [Builtin.append_, run_underlying ht, run_underlying hu, sizeOf, typeInfo, hi, hz, hs1, hb8, asInt, asIntOf, hw0, hw, storeCells]
  · have hge := grownCap_ge w m 0 3
    have hcm : grownCap w m 0 3 ≤ maxLen := grownCap_le_maxLen w m 0 3 (by unfold maxLen; omega)
    have h48' : ¬ (281474976710656 < Builtin.nextslicecap m 0 * 8) := by rw [nextslicecap_zero hm]; omega
    have hm1 : ¬ m = 0 := by omega
    have h63' : ¬ (9223372036854775807 < (m : Int)) := by omega
    have hfo := run_firstCells_some (P := Tryz.prog) w.drew 1 0 a0 0 0 [] rfl (by simp)
    refine ⟨.slice (some ⟨w.heap.size, 0, none⟩) m (grownCap w m 0 3), w.drew.alloc (.cells ((List.replicate m (Value.int .i64 0)).toArray ++ Builtin.zeroCells #[Value.int .i64 0] (grownCap w m 0 3 - m)) 3), ?_, .inl ⟨by simp, .inr ⟨w.heap.size, _, _, ?_, hB, heap_alloc_new w.drew _, ?_, hcm, ?_, ?_⟩⟩, ?_⟩
    · simp [Builtin.append_, run_underlying ht, run_underlying hu, sizeOf, typeInfo, zeroValue, hi, hz, hs1, hb8, asInt, asIntOf, hw, hm0, hmb, hm1, h63', h48', Question.forced, hfo, newRow, grownCap, zeroCells_rep, Value.cells]
    · rw [List.length_replicate]
    · rw [List.length_replicate]; exact hge
    · simp only [Array.size_append, List.size_toArray, size_zeroCells, List.length_replicate]
      simp
      omega
    · simp only [Array.toList_append, List.length_replicate, Nat.mul_one]
      rw [List.take_left' (by simp)]
      simp
    · exact ⟨rfl, rfl, rfl, by simp, fun k hk => heap_alloc_old w.drew _ (by have : k < w.heap.size := Nat.lt_of_lt_of_le hk hB; exact this)⟩
/-- append of m zeros that are made on the spot. -/
theorem wpAppendZeros {ops : Array Oper} {rest : List Oper} {o : Oper} {a : Act} {Q : Exit → Act → World → Prop} (w : World) (hgd : o.guard = none) (s x : Operand)
    (ho : o.op = .call { callee := .builtin .append, args := #[s, x], argTypes := #[24, 3] })
    (B : Nat) (v : Value) (n m : Nat) (L : List Int) (hs : a.eval s = v) (hown : ownsInts w B v L) (hn : L.length = n) (hx : a.eval x = .int .i64 m) (hnm : n + m ≤ 1000) (hB : B ≤ w.heap.size)
    (h : ∀ ao cap w', ownsInts w' B (.slice ao (n + m) cap) (L ++ List.replicate m 0) → Below B w w' → wpList Tryz.prog ops Q rest (a.put o.dst (.slice ao (n + m) cap)) w') :
    wpList Tryz.prog ops Q (o :: rest) a w := by
  have key : ∃ v' w', (Builtin.append_ #[24, 3] o.type #[v, .int .i64 m]).run Tryz.prog w = .ok v' w' ∧ ownsInts w' B v' (L ++ List.replicate m 0) ∧ Below B w w' := by
    rcases hown with hown | ⟨h0, hL, a0, rfl⟩
    · obtain ⟨v', w', h1, h2, h3⟩ := run_append_zeros w o.type B v L.length m _ hown (by omega) hB
      refine ⟨v', w', h1, .inl ?_, (Below.refl B w).grown h3 hB fun k hk => (World.ownsRow.lt hown k hk).1⟩
      simpa using h2
    · obtain ⟨v', w', h1, h2, h3⟩ := run_append_zeros0 w o.type B a0 m (by omega) hB
      have : L = [] := List.eq_nil_of_length_eq_zero h0
      subst this
      exact ⟨v', w', h1, by simpa using h2, h3⟩
  obtain ⟨v', w', h1, h2, h3⟩ := key
  obtain ⟨ao, cap, hv, _⟩ := ownsInts_shape h2
  have hl : (L ++ List.replicate m 0).length = n + m := by simp [hn]
  rw [hl] at hv
  subst hv
  refine wpList_plain hgd fun K hK => ?_
  unfold Oper.wp execOp
  simp only [ho, resolve, invoke, builtin, Sem.run_bind, Sem.run_pure, Result.andThen_ok, List.map_toArray, List.map_cons, List.map_nil, hs, hx, h1]
  exact hK _ _ (h ao cap w' h2 h3)
end Go.Proofs.YtcddfpbohejhhaaGreat
