/- append of zeros that are made on the spot. -/
import Derived.Test.YtfdmcnnjifggnabGreatDoorOwn
import Derived.Lib.Hide
namespace Go.Proofs.YtfdmcnnjifggnabGreatDoor
open Go.RowKit

theorem zeroCells_rep (m : Nat) : Builtin.zeroCells #[Value.int .i64 0] m = (List.replicate m (Value.int .i64 0)).toArray := by
  apply Array.ext'
  simp [Builtin.zeroCells, List.eq_replicate_iff]
  intro b hb
  rw [Nat.mod_one]
  rfl
set_option maxHeartbeats 1000000 in
theorem run_append_zeros (w : World) (ty : TypeId) (B : Nat) (v : Value) (n m : Nat) (xs : List Value) (hown : w.ownsRow B 3 1 v n xs) (h : n + m ≤ 1000) (hB : B ≤ w.heap.size) :
    ∃ v' w', (Builtin.append_ #[25, 3] ty #[v, .int .i64 m]).run Tryz.prog w = .ok v' w' ∧ w'.ownsRow B 3 1 v' (n + m) (xs ++ List.replicate m (.int .i64 0)) ∧ w.grownBy w' v.ownBlock := by
  obtain ⟨i, hi, hz, hs1, hb8⟩ := info_parts infoInt
  have ht := Tryz.underlying25
  have hu := Tryz.underlying3
  have hw : IntKind.i64.wrap (m : Int) = (m : Int) := IntWalk.i64_in _ (by omega)
  have hw0 : IntKind.i64.wrap 0 = 0 := by decide
  have hm0 : ¬ ((m : Int) < 0) := by omega
  have hmb : ¬ (281474976710656 < (m : Int) * 8) := by omega
  have hxl : xs.length = n := by have := hown.1; omega
  have hlen : (xs ++ List.replicate m (Value.int .i64 0)).length = (n + m) * 1 := by simp [hxl]
  have grown : ∀ (old : Nat), old < n + m → ∀ (row : Option Nat),
      (w.drew.alloc (.cells (xs.toArray ++ (List.replicate m (Value.int .i64 0)).toArray ++ Builtin.zeroCells #[Value.int .i64 0] (grownCap w (n + m) old 3 - (n + m))) 3)).ownsRow B 3 1
        (.slice (some ⟨w.heap.size, 0, none⟩) (n + m) (grownCap w (n + m) old 3)) (n + m) (xs ++ List.replicate m (Value.int .i64 0)) ∧
      w.grownBy (w.drew.alloc (.cells (xs.toArray ++ (List.replicate m (Value.int .i64 0)).toArray ++ Builtin.zeroCells #[Value.int .i64 0] (grownCap w (n + m) old 3 - (n + m))) 3)) row := by
    intro old ho row
    have hge := grownCap_ge w (n + m) old 3
    have hcm : grownCap w (n + m) old 3 ≤ maxLen := grownCap_le_maxLen w (n + m) old 3 (by unfold maxLen; omega)
    refine ⟨⟨hlen, .inr ⟨w.heap.size, _, _, rfl, hB, heap_alloc_new w.drew _, hge, hcm, ?_, ?_⟩⟩, ⟨rfl, rfl, rfl, by simp, fun k hk _ => heap_alloc_old w.drew _ hk⟩⟩
    · simp only [Array.size_append, List.size_toArray, size_zeroCells, List.length_replicate, hxl]
      simp
      omega
    · simp only [Array.toList_append, List.append_assoc]
      rw [← List.append_assoc, ← hlen]
      exact List.take_left
  rcases hown.2 with ⟨rfl, rfl⟩ | ⟨g, cap, cur, rfl, hbg, hg, hnc, hcm, hcs, htake⟩
  · have hx : xs = [] := List.eq_nil_of_length_eq_zero hxl
    subst hx
    rcases Nat.eq_zero_or_pos m with rfl | hm
    · refine ⟨.slice none 0 0, w, ?_, World.ownsRow_nil w B _ _, ⟨rfl, rfl, rfl, Nat.le_refl _, fun _ _ _ => rfl⟩⟩
      simp [Builtin.append_, run_underlying ht, run_underlying hu, sizeOf, typeInfo, hi, hz, hs1, hb8, asInt, asIntOf, hw0, hw]
    · have hgr := grown 0 (by omega) (Value.ownBlock (.slice none 0 0))
      have h48' : ¬ (281474976710656 < Builtin.nextslicecap m 0 * 8) := by rw [nextslicecap_zero hm]; omega
      have hm1 : ¬ m = 0 := by omega
      have h63' : ¬ (9223372036854775807 < (m : Int)) := by omega
      simp only [Nat.zero_add, List.nil_append, Array.empty_append] at hgr ⊢
      refine ⟨_, _, ?_, hgr.1, hgr.2⟩
      simp [Builtin.append_, run_underlying ht, run_underlying hu, sizeOf, typeInfo, zeroValue, hi, hz, hs1, hb8, asInt, asIntOf, hw, hm0, hmb, hm1, h63', h48', Question.forced, run_firstCells_none, newRow, grownCap, zeroCells_rep, Value.cells]
  · have hnews1 : ∀ u ∈ List.replicate m (Value.int .i64 0), u.oneCell' = true := fun u hu => by rw [List.eq_of_mem_replicate hu]; rfl
    by_cases hroom : n + m ≤ cap
    · have hfit : n * 1 + 0 + (List.replicate m (Value.int .i64 0)).length ≤ cur.size := by rw [List.length_replicate, hcs]; omega
      have hst := run_storeCells_at Tryz.prog g (n * 1) 3 (List.replicate m (Value.int .i64 0)) 0 cur w hg hfit hnews1
      rw [Nat.add_zero] at hst
      refine ⟨.slice (some ⟨g, 0, none⟩) (n + m) cap, w.setRow g (cur.toList.take (n * 1) ++ List.replicate m (Value.int .i64 0) ++ cur.toList.drop (n * 1 + (List.replicate m (Value.int .i64 0)).length)).toArray, ?_, ⟨hlen, .inr ⟨g, cap, _, rfl, hbg, setRow_heap w g cur _ 3 _ hg, hroom, hcm, ?_, ?_⟩⟩, ⟨rfl, rfl, rfl, by simp, fun k _ hk => setRow_other w g k _ (fun e => hk (by simp [Value.ownBlock, e]))⟩⟩
      · rcases Nat.eq_zero_or_pos m with rfl | hm
        · have hroom' : n ≤ cap := by omega
          simp only [Nat.mul_one, List.replicate_zero, List.length_nil, List.append_nil, Nat.add_zero] at hst ⊢
          simp only [Builtin.append_, run_underlying ht, run_underlying hu, sizeOf, typeInfo]
          simp [run_underlying ht, run_underlying hu, sizeOf, typeInfo, hi, hz, hs1, hb8, asInt, asIntOf, hw0, hw, Addr.add_lit, hroom']
          rw [hst]
          simp [Result.andThen]
        · have hm1 : ¬ m = 0 := by omega
          simp only [Nat.mul_one, List.length_replicate] at hst ⊢
          simp [Builtin.append_, run_underlying ht, run_underlying hu, sizeOf, typeInfo, zeroValue, hi, hz, hs1, hb8, asInt, asIntOf, hw, hm0, hmb, hm1, hroom, zeroCells_rep, Value.cells, Addr.add_lit]
          rw [hst]
          simp [Result.andThen]
      · simp only [List.size_toArray, List.length_append, List.length_take, List.length_drop, Array.length_toList, List.length_replicate]
        rw [hcs]; omega
      · rw [htake, ← hlen]
        exact List.take_left
    · have hm : 0 < m := by omega
      have holds : ∀ j u, xs[j]? = some u → w.drew.cell? ((⟨g, 0, none⟩ : Addr).add j) = some u := by
        intro j u hj
        exact hown.cells (g := g) rfl j u hj
      have hfo := run_firstCells_some (P := Tryz.prog) w.drew 1 n ⟨g, 0, none⟩ n cap xs (by omega) holds
      have hgr := grown cap (by omega) (Value.ownBlock (.slice (some ⟨g, 0, none⟩) n cap))
      have hm1 : ¬ m = 0 := by omega
      have h63' : ¬ (9223372036854775807 < ((n : Int) + (m : Int))) := by omega
      have h48' : ¬ (281474976710656 < Builtin.nextslicecap (n + m) cap * 8) := by
        have := growslice_fits (need := n + m) (old := cap) (bytes := 8) (by omega) (by omega)
        omega
      refine ⟨_, _, ?_, hgr.1, hgr.2⟩
      simp [Builtin.append_, run_underlying ht, run_underlying hu, sizeOf, typeInfo, zeroValue, hi, hz, hs1, hb8, asInt, asIntOf, hw, hm0, hmb, hm1, hroom, h63', h48', Question.forced, hfo, newRow, grownCap, zeroCells_rep, Value.cells]
set_option maxHeartbeats 1000000 in
theorem run_append_zeros0 (w : World) (ty : TypeId) (B : Nat) (a0 : Addr) (m : Nat) (h : m ≤ 1000) (hB : B ≤ w.heap.size) :
    ∃ v' w', (Builtin.append_ #[25, 3] ty #[.slice (some a0) 0 0, .int .i64 m]).run Tryz.prog w = .ok v' w' ∧ ownsInts w' B v' (List.replicate m 0) ∧ Below B w w' := by
  obtain ⟨i, hi, hz, hs1, hb8⟩ := info_parts infoInt
  have ht := Tryz.underlying25
  have hu := Tryz.underlying3
  have hw : IntKind.i64.wrap (m : Int) = (m : Int) := IntWalk.i64_in _ (by omega)
  have hw0 : IntKind.i64.wrap 0 = 0 := by decide
  have hm0 : ¬ ((m : Int) < 0) := by omega
  have hmb : ¬ (281474976710656 < (m : Int) * 8) := by omega
  rcases Nat.eq_zero_or_pos m with rfl | hm
  · refine ⟨.slice (some a0) 0 0, w, ?_, ownsInts_zero _ _ _, Below.refl _ _⟩
    simp [Builtin.append_, run_underlying ht, run_underlying hu, sizeOf, typeInfo, hi, hz, hs1, hb8, asInt, asIntOf, hw0, hw, storeCells]
  · have hge := grownCap_ge w m 0 3
    have hcm : grownCap w m 0 3 ≤ maxLen := grownCap_le_maxLen w m 0 3 (by unfold maxLen; omega)
    have h48' : ¬ (281474976710656 < Builtin.nextslicecap m 0 * 8) := by rw [nextslicecap_zero hm]; omega
    have hm1 : ¬ m = 0 := by omega
    have h63' : ¬ (9223372036854775807 < (m : Int)) := by omega
    have hfo := run_firstCells_some (P := Tryz.prog) w.drew 1 0 a0 0 0 [] rfl (by simp)
    refine ⟨.slice (some ⟨w.heap.size, 0, none⟩) m (grownCap w m 0 3), w.drew.alloc (.cells ((List.replicate m (Value.int .i64 0)).toArray ++ Builtin.zeroCells #[Value.int .i64 0] (grownCap w m 0 3 - m)) 3), ?_, .inl ⟨by simp, .inr ⟨w.heap.size, _, _, ?_, hB, heap_alloc_new w.drew _, ?_, hcm, ?_, ?_⟩⟩, ?_⟩
    · simp [Builtin.append_, run_underlying ht, run_underlying hu, sizeOf, typeInfo, zeroValue, hi, hz, hs1, hb8, asInt, asIntOf, hw, hm0, hmb, hm1, h63', h48', Question.forced, hfo, newRow, grownCap, zeroCells_rep, Value.cells]
    · rw [List.length_replicate]
    · rw [List.length_replicate]; exact hge
    · simp only [Array.size_append, List.size_toArray, size_zeroCells, List.length_replicate]
      simp
      omega
    · simp only [Array.toList_append, List.length_replicate, Nat.mul_one]
      rw [List.take_left' (by simp)]
      simp
    · exact ⟨rfl, rfl, rfl, by simp, fun k hk => heap_alloc_old w.drew _ (by have : k < w.heap.size := Nat.lt_of_lt_of_le hk hB; exact this)⟩
/-- append of m zeros that are made on the spot. -/
theorem wpAppendZeros {ops : Array Oper} {rest : List Oper} {o : Oper} {a : Act} {Q : Exit → Act → World → Prop} (w : World) (hgd : o.guard = none) (s x : Operand)
    (ho : o.op = .call { callee := .builtin .append, args := #[s, x], argTypes := #[25, 3] })
    (B : Nat) (v : Value) (n m : Nat) (L : List Int) (hs : a.eval s = v) (hown : ownsInts w B v L) (hn : L.length = n) (hx : a.eval x = .int .i64 m) (hnm : n + m ≤ 1000) (hB : B ≤ w.heap.size)
    (h : ∀ ao cap w', ownsInts w' B (.slice ao (n + m) cap) (L ++ List.replicate m 0) → Below B w w' → wpList Tryz.prog ops Q rest (a.put o.dst (.slice ao (n + m) cap)) w') :
    wpList Tryz.prog ops Q (o :: rest) a w := by
  have key : ∃ v' w', (Builtin.append_ #[25, 3] o.type #[v, .int .i64 m]).run Tryz.prog w = .ok v' w' ∧ ownsInts w' B v' (L ++ List.replicate m 0) ∧ Below B w w' := by
    rcases hown with hown | ⟨h0, hL, a0, rfl⟩
    · obtain ⟨v', w', h1, h2, h3⟩ := run_append_zeros w o.type B v L.length m _ hown (by omega) hB
      refine ⟨v', w', h1, .inl ?_, (Below.refl B w).grown h3 hB fun k hk => (World.ownsRow.lt hown k hk).1⟩
      simpa using h2
    · obtain ⟨v', w', h1, h2, h3⟩ := run_append_zeros0 w o.type B a0 m (by omega) hB
      have : L = [] := List.eq_nil_of_length_eq_zero h0
      subst this
      exact ⟨v', w', h1, by simpa using h2, h3⟩
  obtain ⟨v', w', h1, h2, h3⟩ := key
  obtain ⟨ao, cap, hv, _⟩ := ownsInts_shape h2
  have hl : (L ++ List.replicate m 0).length = n + m := by simp [hn]
  rw [hl] at hv
  subst hv
  refine wpList_plain hgd fun K hK => ?_
  unfold Oper.wp execOp
  simp only [ho, resolve, invoke, builtin, Sem.run_bind, Sem.run_pure, Result.andThen_ok, List.map_toArray, List.map_cons, List.map_nil, hs, hx, h1]
  exact hK _ _ (h ao cap w' h2 h3)
end Go.Proofs.YtfdmcnnjifggnabGreatDoor
