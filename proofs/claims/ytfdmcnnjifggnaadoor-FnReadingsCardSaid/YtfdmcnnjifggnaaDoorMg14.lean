/- Joined texts: Pad, WCh, ScrC, ScrD. -/
import Derived.Test.YtfdmcnnjifggnaaDoorMg01
import Derived.Lib.Hide
import Derived.Test.YtfdmcnnjifggnaaDoorMg13
import Derived.Test.YtfdmcnnjifggnaaDoorMg12
import Derived.Deep.RegionLaw
import Derived.Deep.AppendLies
namespace Go.Proofs.YtfdmcnnjifggnaaDoor
open Go.RowKit

theorem zeroCells_rep (m : Nat) : Builtin.zeroCells #[Value.int .i64 0] m = (List.replicate m (Value.int .i64 0)).toArray := by
  apply Array.ext'
  simp [Builtin.zeroCells, List.eq_replicate_iff]
  intro b hb
  rw [Nat.mod_one]
  rfl
set_option maxHeartbeats 1000000 in
theorem run_append_zeros (w : World) (ty : TypeId) (B : Nat) (v : Value) (n m : Nat) (xs : List Value) (hown : w.ownsRow B 3 1 v n xs) (h : n + m ≤ 1000) (hB : B ≤ w.heap.size) :
    ∃ v' w', (Builtin.append_ #[24, 3] ty #[v, .int .i64 m]).run Tryd.prog w = .ok v' w' ∧ w'.ownsRow B 3 1 v' (n + m) (xs ++ List.replicate m (.int .i64 0)) ∧ w.grownBy w' v.ownBlock := by
  obtain ⟨i, hi, hz, hs1, hb8⟩ := info_parts infoInt
  have ht := Tryd.underlying24
  have hu := Tryd.underlying3
  have hw : IntKind.i64.wrap (m : Int) = (m : Int) := IntWalk.i64_in _ (by omega)
  have hw0 : IntKind.i64.wrap 0 = 0 := by decide
  have hm0 : ¬ ((m : Int) < 0) := by omega
  have hmb : ¬ (281474976710656 < (m : Int) * 8) := by omega
  have hxl : xs.length = n := by have := hown.1; omega
  have hlen : (xs ++ List.replicate m (Value.int .i64 0)).length = (n + m) * 1 := by simp [hxl]
  have grown : ∀ (old : Nat), old < n + m → ∀ (row : Option Nat),
      (w.drew.alloc (.cells (xs.toArray ++ (List.replicate m (Value.int .i64 0)).toArray ++ Builtin.zeroCells #[Value.int .i64 0] (grownCap w (n + m) old 3 - (n + m))) 3)).ownsRow B 3 1
        (.slice (some ⟨w.heap.size, 0, none⟩) (n + m) (grownCap w (n + m) old 3)) (n + m) (xs ++ List.replicate m (Value.int .i64 0)) ∧
      w.grownBy (w.drew.alloc (.cells (xs.toArray ++ (List.replicate m (Value.int .i64 0)).toArray ++ Builtin.zeroCells #[Value.int .i64 0] (grownCap w (n + m) old 3 - (n + m))) 3)) row := by
    intro old ho row
    have hge := grownCap_ge w (n + m) old 3
    have hcm : grownCap w (n + m) old 3 ≤ maxLen := grownCap_le_maxLen w (n + m) old 3 (by unfold maxLen; omega)
    refine ⟨⟨hlen, .inr ⟨w.heap.size, _, _, rfl, hB, heap_alloc_new w.drew _, hge, hcm, ?_, ?_⟩⟩, ⟨rfl, rfl, rfl, by simp, fun k hk _ => heap_alloc_old w.drew _ hk⟩⟩
    · simp only [Array.size_append, List.size_toArray, size_zeroCells, List.length_replicate, hxl]
      simp
      omega
    · simp only [Array.toList_append, List.append_assoc]
      rw [← List.append_assoc, ← hlen]
      exact List.take_left
  rcases hown.2 with ⟨rfl, rfl⟩ | ⟨g, cap, cur, rfl, hbg, hg, hnc, hcm, hcs, htake⟩
  · have hx : xs = [] := List.eq_nil_of_length_eq_zero hxl
    subst hx
    rcases Nat.eq_zero_or_pos m with rfl | hm
    · refine ⟨.slice none 0 0, w, ?_, World.ownsRow_nil w B _ _, ⟨rfl, rfl, rfl, Nat.le_refl _, fun _ _ _ => rfl⟩⟩
      simp [Builtin.append_, run_underlying ht, run_underlying hu, sizeOf, typeInfo, hi, hz, hs1, hb8, asInt, asIntOf, hw0, hw]
    · have hgr := grown 0 (by omega) (Value.ownBlock (.slice none 0 0))
      have h48' : ¬ (281474976710656 < Builtin.nextslicecap m 0 * 8) := by rw [nextslicecap_zero hm]; omega
      have hm1 : ¬ m = 0 := by omega
      have h63' : ¬ (9223372036854775807 < (m : Int)) := by omega
      simp only [Nat.zero_add, List.nil_append, Array.empty_append] at hgr ⊢
      refine ⟨_, _, ?_, hgr.1, hgr.2⟩
      simp [Builtin.append_, run_underlying ht, run_underlying hu, sizeOf, typeInfo, zeroValue, hi, hz, hs1, hb8, asInt, asIntOf, hw, hm0, hmb, hm1, h63', h48', Question.forced, run_firstCells_none, newRow, grownCap, zeroCells_rep, Value.cells]
  · have hnews1 : ∀ u ∈ List.replicate m (Value.int .i64 0), u.oneCell' = true := fun u hu => by rw [List.eq_of_mem_replicate hu]; rfl
    by_cases hroom : n + m ≤ cap
    · have hfit : n * 1 + 0 + (List.replicate m (Value.int .i64 0)).length ≤ cur.size := by rw [List.length_replicate, hcs]; omega
      have hst := run_storeCells_at Tryd.prog g (n * 1) 3 (List.replicate m (Value.int .i64 0)) 0 cur w hg hfit hnews1
      rw [Nat.add_zero] at hst
      refine ⟨.slice (some ⟨g, 0, none⟩) (n + m) cap, w.setRow g (cur.toList.take (n * 1) ++ List.replicate m (Value.int .i64 0) ++ cur.toList.drop (n * 1 + (List.replicate m (Value.int .i64 0)).length)).toArray, ?_, ⟨hlen, .inr ⟨g, cap, _, rfl, hbg, setRow_heap w g cur _ 3 _ hg, hroom, hcm, ?_, ?_⟩⟩, ⟨rfl, rfl, rfl, by simp, fun k _ hk => setRow_other w g k _ (fun e => hk (by simp [Value.ownBlock, e]))⟩⟩
      · rcases Nat.eq_zero_or_pos m with rfl | hm
        · have hroom' : n ≤ cap := by omega
          simp only [Nat.mul_one, List.replicate_zero, List.length_nil, List.append_nil, Nat.add_zero] at hst ⊢
          simp only [Builtin.append_, run_underlying ht, run_underlying hu, sizeOf, typeInfo]
          simp [run_underlying ht, run_underlying hu, sizeOf, typeInfo, hi, hz, hs1, hb8, asInt, asIntOf, hw0, hw, Addr.add_lit, hroom']
          rw [hst]
          simp [Result.andThen]
        · have hm1 : ¬ m = 0 := by omega
          simp only [Nat.mul_one, List.length_replicate] at hst ⊢
          simp [Builtin.append_, run_underlying ht, run_underlying hu, sizeOf, typeInfo, zeroValue, hi, hz, hs1, hb8, asInt, asIntOf, hw, hm0, hmb, hm1, hroom, zeroCells_rep, Value.cells, Addr.add_lit]
          rw [hst]
          simp [Result.andThen]
      · simp only [List.size_toArray, List.length_append, List.length_take, List.length_drop, Array.length_toList, List.length_replicate]
        rw [hcs]; omega
      · rw [htake, ← hlen]
        exact List.take_left
    · have hm : 0 < m := by omega
      have holds : ∀ j u, xs[j]? = some u → w.drew.cell? ((⟨g, 0, none⟩ : Addr).add j) = some u := by
        intro j u hj
        exact hown.cells (g := g) rfl j u hj
      have hfo := run_firstCells_some (P := Tryd.prog) w.drew 1 n ⟨g, 0, none⟩ n cap xs (by omega) holds
      have hgr := grown cap (by omega) (Value.ownBlock (.slice (some ⟨g, 0, none⟩) n cap))
      have hm1 : ¬ m = 0 := by omega
      have h63' : ¬ (9223372036854775807 < ((n : Int) + (m : Int))) := by omega
      have h48' : ¬ (281474976710656 < Builtin.nextslicecap (n + m) cap * 8) := by
        have := growslice_fits (need := n + m) (old := cap) (bytes := 8) (by omega) (by omega)
        omega
      refine ⟨_, _, ?_, hgr.1, hgr.2⟩
      simp [Builtin.append_, run_underlying ht, run_underlying hu, sizeOf, typeInfo, zeroValue, hi, hz, hs1, hb8, asInt, asIntOf, hw, hm0, hmb, hm1, hroom, h63', h48', Question.forced, hfo, newRow, grownCap, zeroCells_rep, Value.cells]
set_option maxHeartbeats 1000000 in
theorem run_append_zeros0 (w : World) (ty : TypeId) (B : Nat) (a0 : Addr) (m : Nat) (h : m ≤ 1000) (hB : B ≤ w.heap.size) :
    ∃ v' w', (Builtin.append_ #[24, 3] ty #[.slice (some a0) 0 0, .int .i64 m]).run Tryd.prog w = .ok v' w' ∧ ownsInts w' B v' (List.replicate m 0) ∧ Below B w w' := by
  obtain ⟨i, hi, hz, hs1, hb8⟩ := info_parts infoInt
  have ht := Tryd.underlying24
  have hu := Tryd.underlying3
  have hw : IntKind.i64.wrap (m : Int) = (m : Int) := IntWalk.i64_in _ (by omega)
  have hw0 : IntKind.i64.wrap 0 = 0 := by decide
  have hm0 : ¬ ((m : Int) < 0) := by omega
  have hmb : ¬ (281474976710656 < (m : Int) * 8) := by omega
  rcases Nat.eq_zero_or_pos m with rfl | hm
  · refine ⟨.slice (some a0) 0 0, w, ?_, ownsInts_zero _ _ _, Below.refl _ _⟩
    simp [Builtin.append_, run_underlying ht, run_underlying hu, sizeOf, typeInfo, hi, hz, hs1, hb8, asInt, asIntOf, hw0, hw, storeCells]
  · have hge := grownCap_ge w m 0 3
    have hcm : grownCap w m 0 3 ≤ maxLen := grownCap_le_maxLen w m 0 3 (by unfold maxLen; omega)
    have h48' : ¬ (281474976710656 < Builtin.nextslicecap m 0 * 8) := by rw [nextslicecap_zero hm]; omega
    have hm1 : ¬ m = 0 := by omega
    have h63' : ¬ (9223372036854775807 < (m : Int)) := by omega
    have hfo := run_firstCells_some (P := Tryd.prog) w.drew 1 0 a0 0 0 [] rfl (by simp)
    refine ⟨.slice (some ⟨w.heap.size, 0, none⟩) m (grownCap w m 0 3), w.drew.alloc (.cells ((List.replicate m (Value.int .i64 0)).toArray ++ Builtin.zeroCells #[Value.int .i64 0] (grownCap w m 0 3 - m)) 3), ?_, .inl ⟨by simp, .inr ⟨w.heap.size, _, _, ?_, hB, heap_alloc_new w.drew _, ?_, hcm, ?_, ?_⟩⟩, ?_⟩
    · simp [Builtin.append_, run_underlying ht, run_underlying hu, sizeOf, typeInfo, zeroValue, hi, hz, hs1, hb8, asInt, asIntOf, hw, hm0, hmb, hm1, h63', h48', Question.forced, hfo, newRow, grownCap, zeroCells_rep, Value.cells]
    · rw [List.length_replicate]
    · rw [List.length_replicate]; exact hge
    · simp only [Array.size_append, List.size_toArray, size_zeroCells, List.length_replicate]
      simp
      omega
    · simp only [Array.toList_append, List.length_replicate, Nat.mul_one]
      rw [List.take_left' (by simp)]
      simp
    · exact ⟨rfl, rfl, rfl, by simp, fun k hk => heap_alloc_old w.drew _ (by have : k < w.heap.size := Nat.lt_of_lt_of_le hk hB; exact this)⟩
/-- append of m zeros that are made on the spot. -/
theorem wpAppendZeros {ops : Array Oper} {rest : List Oper} {o : Oper} {a : Act} {Q : Exit → Act → World → Prop} (w : World) (hgd : o.guard = none) (s x : Operand)
    (ho : o.op = .call { callee := .builtin .append, args := #[s, x], argTypes := #[24, 3] })
    (B : Nat) (v : Value) (n m : Nat) (L : List Int) (hs : a.eval s = v) (hown : ownsInts w B v L) (hn : L.length = n) (hx : a.eval x = .int .i64 m) (hnm : n + m ≤ 1000) (hB : B ≤ w.heap.size)
    (h : ∀ ao cap w', ownsInts w' B (.slice ao (n + m) cap) (L ++ List.replicate m 0) → Below B w w' → wpList Tryd.prog ops Q rest (a.put o.dst (.slice ao (n + m) cap)) w') :
    wpList Tryd.prog ops Q (o :: rest) a w := by
  have key : ∃ v' w', (Builtin.append_ #[24, 3] o.type #[v, .int .i64 m]).run Tryd.prog w = .ok v' w' ∧ ownsInts w' B v' (L ++ List.replicate m 0) ∧ Below B w w' := by
    rcases hown with hown | ⟨h0, hL, a0, rfl⟩
    · obtain ⟨v', w', h1, h2, h3⟩ := run_append_zeros w o.type B v L.length m _ hown (by omega) hB
      refine ⟨v', w', h1, .inl ?_, (Below.refl B w).grown h3 hB fun k hk => (World.ownsRow.lt hown k hk).1⟩
      simpa using h2
    · obtain ⟨v', w', h1, h2, h3⟩ := run_append_zeros0 w o.type B a0 m (by omega) hB
      have : L = [] := List.eq_nil_of_length_eq_zero h0
      subst this
      exact ⟨v', w', h1, by simpa using h2, h3⟩
  obtain ⟨v', w', h1, h2, h3⟩ := key
  obtain ⟨ao, cap, hv, _⟩ := ownsInts_shape h2
  have hl : (L ++ List.replicate m 0).length = n + m := by simp [hn]
  rw [hl] at hv
  subst hv
  refine wpList_plain hgd fun K hK => ?_
  unfold Oper.wp execOp
  simp only [ho, resolve, invoke, builtin, Sem.run_bind, Sem.run_pure, Result.andThen_ok, List.map_toArray, List.map_cons, List.map_nil, hs, hx, h1]
  exact hK _ _ (h ao cap w' h2 h3)
end Go.Proofs.YtfdmcnnjifggnaaDoor

namespace Go.Proofs.YtfdmcnnjifggnaaDoor
open Go.RowKit

/-- The changes in the first k cells. -/
def chP (A B : List Int) : Nat → Nat
  | 0 => 0
  | k + 1 => chP A B k + cnt ((A.getD k 0).toNat ^^^ (B.getD k 0).toNat)
theorem chP_le (A B : List Int) (k : Nat) : chP A B k ≤ 7 * k := by
  induction k with
  | zero => exact Nat.le_refl _
  | succ k ih => have := cnt_le ((A.getD k 0).toNat ^^^ (B.getD k 0).toNat); unfold chP; omega
theorem chP_congr {A A' B B' : List Int} (hA : ∀ j, A.getD j 0 = A'.getD j 0) (hB : ∀ j, B.getD j 0 = B'.getD j 0) (k : Nat) : chP A B k = chP A' B' k := by
  induction k with
  | zero => rfl
  | succ k ih => unfold chP; rw [ih, hA, hB]
theorem getD_zeros (L : List Int) (m j : Nat) : (L ++ List.replicate m 0).getD j 0 = L.getD j 0 := by
  simp only [List.getD_eq_getElem?_getD]
  by_cases h : j < L.length
  · rw [List.getElem?_append_left h]
  · rw [List.getElem?_append_right (by omega), List.getElem?_eq_none (by omega : L.length ≤ j), List.getElem?_replicate]
    split <;> rfl
theorem chP_more (A B : List Int) (k m : Nat) (hA : A.length ≤ k) (hB : B.length ≤ k) : chP A B (k + m) = chP A B k := by
  induction m with
  | zero => rfl
  | succ m ih =>
    have h1 : A.getD (k + m) 0 = 0 := by rw [List.getD_eq_getElem?_getD, List.getElem?_eq_none (by omega)]; rfl
    have h2 : B.getD (k + m) 0 = 0 := by rw [List.getD_eq_getElem?_getD, List.getElem?_eq_none (by omega)]; rfl
    show chP A B (k + m) + cnt ((A.getD (k + m) 0).toNat ^^^ (B.getD (k + m) 0).toNat) = _
    rw [ih, h1, h2]
    rfl
set_option maxHeartbeats 800000 in
theorem changes_any (ao bo : Option Addr) (n ca m cb : Nat) (A B : List Int) (w : World) (hA : RdI w ao A) (hB : RdI w bo B) (hn : A.length = n) (hm : B.length = m) (hnm : n ≤ m) (h6 : m ≤ 1000) (hcA : ∀ x ∈ A, inB 0 127 x = true) (hcB : ∀ x ∈ B, inB 0 127 x = true) :
    Calls Tryd.prog 43 #[.slice ao n ca, .slice bo m cb] w fun e w' => e = .returned (.int .i64 (chP A B n)) ∧ w = w' := by
  have HN := Lib.hid hn
  have HM := Lib.hid hm
  have HA := Lib.hid hcA
  have HB := Lib.hid hcB
  clear hcA hcB hn hm
  go_enter Tryd.func43, Tryd.ntmps43
  go_wp2
  go_loop [5, 10] (fun s i => ∃ k : Nat, k ≤ n ∧ i = .int .i64 k ∧ s = .int .i64 (chP A B k)) (fun _ i => n - (intOf i).toNat)
  case atStart => exact ⟨0, by omega, rfl, rfl⟩
  case round =>
    obtain ⟨k, hk, rfl, rfl⟩ := hrel
    have hlp := chP_le A B k
    by_cases hlt : k < n
    · rcases hA with h | ⟨b1, o1, rfl, hb1, hc1⟩
      · have := HN.out; rw [h] at this; simp at this; omega
      rcases hB with h | ⟨b2, o2, rfl, hb2, hc2⟩
      · have := HM.out; rw [h] at this; simp at this; omega
      have hx := hc1 k (by rw [HN.out]; omega)
      have hy := hc2 k (by rw [HM.out]; omega)
      obtain ⟨c, hc, hcl⟩ := cellNat (HA.out _ (memGetD (by rw [HN.out]; omega : k < A.length)))
      obtain ⟨d, hd, hdl⟩ := cellNat (HB.out _ (memGetD (by rw [HM.out]; omega : k < B.length)))
      have hsucc : chP A B (k + 1) = chP A B k + cnt ((A.getD k 0).toNat ^^^ (B.getD k 0).toNat) := rfl
      rw [hc, hd, Int.toNat_natCast, Int.toNat_natCast] at hsucc
      rw [hc] at hx
      rw [hd] at hy
      have hxx := xor64 c d (by omega) (by omega)
      have hxl := xor_lt c d hcl hdl
      have HC := Lib.hid (fun W => count_any (c ^^^ d) hxl W)
      have hcnt := cnt_le (c ^^^ d)
      generalize cnt (c ^^^ d) = y at hsucc hcnt HC
      generalize c ^^^ d = z at hxx hxl HC
      generalize chP A B k = S at hsucc hlp ⊢
      have HS := Lib.hid hsucc
      clear hsucc hc1 hc2 hc hd
      go_wp2_with (first | (go_at_call 62; refine (HC.out _).mono ?_; rintro e w' ⟨rfl, rfl⟩))
      go_round
      case rel => exact ⟨k + 1, by omega, by go_num, by rw [HS.out]; go_num⟩
      case measure => simp [intOf]; omega
    · have hkn : k = n := by omega
      subst hkn
      go_wp2
      go_ret
      exact ⟨rfl, rfl⟩
set_option maxHeartbeats 800000 in
theorem l4Changes_any (ao bo : Option Addr) (n ca m cb : Nat) (A B : List Int) (w : World) (hA : RdI w ao A) (hB : RdI w bo B) (hn : A.length = n) (hm : B.length = m) (hnm : n ≤ m) (h6 : m ≤ 1000) (hcA : ∀ x ∈ A, inB 0 127 x = true) (hcB : ∀ x ∈ B, inB 0 127 x = true) :
    Calls Tryd.prog 44 #[.slice ao n ca, .slice bo m cb] w fun e w' => e = .returned (.int .i64 (chP A B n)) ∧ Below w.heap.size w w' := by
  have HN := Lib.hid hn
  have HM := Lib.hid hm
  have HA := Lib.hid hcA
  have HB := Lib.hid hcB
  clear hcA hcB hn hm
  go_enter Tryd.func44, Tryd.ntmps44
  go_wp2
  go_loopw [5, 6] (fun s i wr => ∃ k : Nat, k ≤ n ∧ i = .int .i64 k ∧ s = .int .i64 (chP A B k) ∧ Below w.heap.size w wr) (fun _ i _ => n - (intOf i).toNat)
  case atStart => exact ⟨0, by omega, rfl, rfl, Below.refl _ _⟩
  case round =>
    obtain ⟨k, hk, rfl, rfl, hbw⟩ := hrel
    have hlp := chP_le A B k
    by_cases hlt : k < n
    · rcases RdI_below hA hbw with h | ⟨b1, o1, rfl, hb1, hc1⟩
      · have := HN.out; rw [h] at this; simp at this; omega
      rcases RdI_below hB hbw with h | ⟨b2, o2, rfl, hb2, hc2⟩
      · have := HM.out; rw [h] at this; simp at this; omega
      have hx := hc1 k (by rw [HN.out]; omega)
      have hy := hc2 k (by rw [HM.out]; omega)
      obtain ⟨c, hc, hcl⟩ := cellNat (HA.out _ (memGetD (by rw [HN.out]; omega : k < A.length)))
      obtain ⟨d, hd, hdl⟩ := cellNat (HB.out _ (memGetD (by rw [HM.out]; omega : k < B.length)))
      have hsucc : chP A B (k + 1) = chP A B k + cnt ((A.getD k 0).toNat ^^^ (B.getD k 0).toNat) := rfl
      rw [hc, hd, Int.toNat_natCast, Int.toNat_natCast] at hsucc
      rw [hc] at hx
      rw [hd] at hy
      have HC := Lib.hid (fun W => l2Far_any c d hcl hdl W)
      have hcnt := cnt_le (c ^^^ d)
      generalize cnt (c ^^^ d) = y at hsucc hcnt HC
      generalize chP A B k = S at hsucc hlp ⊢
      have HS := Lib.hid hsucc
      have hki : (k : Int) < (n : Int) := by omega
      have hkm : (k : Int) < (m : Int) := by omega
      clear hsucc hc1 hc2 hc hd
      go_wp2_with fail
      go_quiet ((go_at_call 49; exact quietL (HC.out _)))
      go_wp2
      go_roundw
      case rel => exact ⟨k + 1, by omega, by go_num, by rw [HS.out]; go_num, hbw.trans (Go.Joins.below_draws _ _ _)⟩
      case measure => simp [intOf]; omega
    · have hkn : k = n := by omega
      subst hkn
      go_wp2
      go_ret
      exact ⟨rfl, hbw⟩
def lenV : Value → Nat
  | .slice _ n _ => n
  | _ => 0
/-- The changes between two words. -/
def wchB (a b : ByteArray) : Bool := wordB a 6 && wordB b 6
def wchZ (a b : ByteArray) : Int := if wchB a b = true then ((chP (rowW a) (rowW b) 6 : Nat) : Int) else 0
theorem zerosMem {L : List Int} {m : Nat} (h : ∀ x ∈ L, inB 0 127 x = true) : ∀ x ∈ L ++ List.replicate m 0, inB 0 127 x = true := by
  intro x hx
  rw [List.mem_append] at hx
  rcases hx with hx | hx
  · exact h x hx
  · rw [List.eq_of_mem_replicate hx]; decide
end Go.Proofs.YtfdmcnnjifggnaaDoor

namespace Go.Proofs.YtfdmcnnjifggnaaDoor
open Go.RowKit

/-- What is read of rows of one length, whichever blocks they lie in. -/
def RdSS (w : World) (G m K : Nat) (gs : Nat → Nat) (R : Nat → List Int) : Prop :=
  G < w.heap.size ∧ ∀ i, i < m → w.cell? ⟨G, i, none⟩ = some (.slice (some ⟨gs i, 0, none⟩) K K) ∧ RdI w (some ⟨gs i, 0, none⟩) (R i) ∧ (R i).length = K
theorem RdSS_below {w w' : World} {G m K : Nat} {gs : Nat → Nat} {R : Nat → List Int} (h : RdSS w G m K gs R) (hb : Below w.heap.size w w') : RdSS w' G m K gs R :=
  ⟨Nat.lt_of_lt_of_le h.1 hb.size, fun i hi => by
    obtain ⟨h1, h2, h3⟩ := h.2 i hi
    exact ⟨(hb.cell (p := ⟨G, i, none⟩) h.1).trans h1, RdI_below h2 hb, h3⟩⟩
/-- The row behind the last one is dark. -/
def rowsZ (R : Nat → List Int) (M K i : Nat) : List Int := if i < M then R i else List.replicate K 0
/-- The row that is shown ahead of row i. -/
def prevZ (R : Nat → List Int) (K : Nat) : Nat → List Int
  | 0 => List.replicate K 0
  | i + 1 => R i
def sumZ (R : Nat → List Int) (K : Nat) : Nat → Nat
  | 0 => 0
  | j + 1 => sumZ R K j + chP (prevZ R K j) (R j) K
theorem sumZ_le (R : Nat → List Int) (K j : Nat) : sumZ R K j ≤ 7 * K * j := by
  induction j with
  | zero => exact Nat.le_refl _
  | succ j ih =>
    have := chP_le (prevZ R K j) (R j) K
    have h2 : 7 * K * (j + 1) = 7 * K * j + 7 * K := Nat.mul_succ _ _
    unfold sumZ
    omega
theorem madeRow (K : Nat) (hK : K ≤ 1000) (w : World) : (Instr.makeSlice 24 (.int .i64 (K : Int)) (.int .i64 (K : Int))).run Tryd.prog w = .ok (.slice (some ⟨w.heap.size, 0, none⟩) K K) (w.alloc (.cells (madeCells #[.int .i64 0] K) 3)) :=
  run_make_row' 24 3 (.int .i64 0) 8 Tryd.underlying24 infoInt rfl .i64 .i64 K (by omega) (by omega) w
theorem RdI_made (K : Nat) (w : World) : RdI (w.alloc (.cells (madeCells #[.int .i64 0] K) 3)) (some ⟨w.heap.size, 0, none⟩) (List.replicate K 0) := by
  refine .inr ⟨w.heap.size, 0, rfl, by simp, fun j hj => ?_⟩
  rw [List.length_replicate] at hj
  have h2 : (madeCells #[Value.int .i64 0] K)[j]? = some (.int .i64 0) := by
    rw [← Array.getElem?_toList, toList_madeCells_one]
    simp [hj]
  rw [Nat.zero_add, World.cell?_alloc_at _ _ _ _ rfl, h2]
  simp [hj]
set_option maxHeartbeats 1000000 in
set_option maxRecDepth 100000 in
theorem ScrollChangesS_any (s : ByteArray) (k : Int) (hs : s.size ≤ maxLen) (K M : Nat) (R : Nat → List Int) (hK : (K : Int) = k) (h1K : 1 ≤ K) (hK6 : K ≤ 6) (w : World)
   (HScr : Hid (∀ W, Calls Tryd.prog 42 #[.string s, .int .i64 K] W (RetScr M K R W))) (HW : Hid (∀ W, Calls Tryd.prog 41 #[.string s, .int .i64 12] W fun e w' => e = .returned (.bool true) ∧ W = w')) (H2 : Hid (inB 1 6 (K : Int) = true)) (hM17 : M ≤ 17) (hR : ∀ i, (R i).length = K ∧ ∀ x ∈ R i, inB 0 127 x = true) :
    Calls Tryd.prog 17 #[.string s, .int .i64 K] w fun e w' => e = .returned (.tuple #[.int .i64 (sumZ (rowsZ R M K) K (M + 1)), .bool true]) ∧ Below w.heap.size w w' := by
  have hmk := madeRow K (by omega)
  have RdI_zeros := fun (K' : Nat) (W : World) => RdI_made K W
  have hcg : ∀ i, i < M → R i = rowsZ R M K i := fun i hi => by unfold rowsZ; rw [if_pos hi]
  have hzm : ∀ x ∈ List.replicate K (0 : Int), inB 0 127 x = true := fun x hx => by rw [List.mem_replicate] at hx; rw [hx.2]; rfl
  have Hin : Hid (∀ j, j ≤ M → ∀ x ∈ rowsZ R M K j, inB 0 127 x = true) := Lib.hid fun j hj => by unfold rowsZ; split; exact (hR j).2; exact hzm
  have Hpl : Hid (∀ j, j ≤ M → (prevZ (rowsZ R M K) K j).length = K) := Lib.hid fun j hj => by
    cases j with
    | zero => simp [prevZ]
    | succ j => show (rowsZ R M K j).length = K; unfold rowsZ; split; exact (hR j).1; simp
  have Hpi : Hid (∀ j, j ≤ M → ∀ x ∈ prevZ (rowsZ R M K) K j, inB 0 127 x = true) := Lib.hid fun j hj => by
    cases j with
    | zero => exact hzm
    | succ j => show ∀ x ∈ rowsZ R M K j, inB 0 127 x = true; unfold rowsZ; split; exact (hR j).2; exact hzm
  have HM : Hid (rowsZ R M K M = List.replicate K 0) := Lib.hid (by unfold rowsZ; rw [if_neg (Nat.lt_irrefl _)])
  generalize madeCells #[Value.int .i64 0] K = Mk at hmk RdI_zeros
  clear hzm
  clear hK
  have hA1 := @cellAlloc; have hA2 := @frozenAlloc; have hA3 := @setCellAlloc; go_enter Tryd.func17, Tryd.ntmps17
  go_wp2_with (first | (go_at_call 41; refine (HW.out _).mono ?_; rintro e w' ⟨rfl, rfl⟩) | (go_at_call 36; refine (l1In_any _ _ _ _).mono ?_; rw [H2.out]; rintro e w' ⟨rfl, rfl⟩))
  go_region_law (go_simp; go_at_call 42; refine (HScr.out _).mono ?_; rintro e w1 ⟨ao, cap, gs, rfl, hsc, hb1⟩)
  · have hz : RdI (w1) (some ⟨w.heap.size, 0, none⟩) (List.replicate K 0) := RdI_below (RdI_below (RdI_zeros K w) (by (repeat (first | assumption | exact Below.refl _ _ | refine belowThen ?_ (Go.Joins.below_alloc1 _ _) | apply Below.drew | refine belowThen ?_ (by assumption) | refine belowThen ?_ (Go.Joins.below_draws _ _ _) | refine Below.setCell ?_ (by first | exact Nat.le_refl _ | (simp; done) | (simp; omega)) _)))) hb1
    have hbW : Below w.heap.size w (w1) := belowThen (by (repeat (first | assumption | exact Below.refl _ _ | refine belowThen ?_ (Go.Joins.below_alloc1 _ _) | apply Below.drew | refine belowThen ?_ (by assumption) | refine belowThen ?_ (Go.Joins.below_draws _ _ _) | refine Below.setCell ?_ (by first | exact Nat.le_refl _ | (simp; done) | (simp; omega)) _))) hb1
    have hscW := scr_below (C := 0) (scr_congr hsc hcg) (Below.refl _ _) (Nat.zero_le _)
    clear hsc
    generalize hR' : rowsZ R M K = R' at *
    have HR' := Lib.hid hR'
    clear hR'
    go_wp2
    clear hb1
    go_loopw [6, 7, 9] (fun sm lv i wr => ∃ (j : Nat) (lo : Option Addr), j ≤ M ∧ i = .int .i64 j ∧ sm = .int .i64 ((sumZ R' K j : Nat) : Int) ∧ lv = .slice lo K K ∧ RdI wr lo (prevZ R' K j) ∧ scr wr 0 (.slice ao M cap) M K gs R' ∧ Below w.heap.size w wr) (fun _ _ i _ => M - (intOf i).toNat)
    case atStart => exact ⟨0, _, by omega, rfl, rfl, rfl, by first | exact hz | exact RdI_below hz (by (repeat (first | assumption | exact Below.refl _ _ | refine belowThen ?_ (Go.Joins.below_alloc1 _ _) | apply Below.drew | refine belowThen ?_ (by assumption) | refine belowThen ?_ (Go.Joins.below_draws _ _ _) | refine Below.setCell ?_ (by first | exact Nat.le_refl _ | (simp; done) | (simp; omega)) _))), by first | exact hscW | exact scr_below hscW (by (repeat (first | assumption | exact Below.refl _ _ | refine belowThen ?_ (Go.Joins.below_alloc1 _ _) | apply Below.drew | refine belowThen ?_ (by assumption) | refine belowThen ?_ (Go.Joins.below_draws _ _ _) | refine Below.setCell ?_ (by first | exact Nat.le_refl _ | (simp; done) | (simp; omega)) _))) (Nat.le_refl _), by first | exact hbW | exact belowThen hbW (by (repeat (first | assumption | exact Below.refl _ _ | refine belowThen ?_ (Go.Joins.below_alloc1 _ _) | apply Below.drew | refine belowThen ?_ (by assumption) | refine belowThen ?_ (Go.Joins.below_draws _ _ _) | refine Below.setCell ?_ (by first | exact Nat.le_refl _ | (simp; done) | (simp; omega)) _)))⟩
    case round =>
      obtain ⟨j, lo, hj, rfl, rfl, rfl, hlo, hsr, hbw⟩ := hrel
      have HO := Lib.hid hsr
      have hsum := sumZ_le R' K j
      have hsl : 7 * K * j ≤ 7 * 6 * 17 := Nat.mul_le_mul (by omega) (by omega)
      have hpl := Hpl.out j hj
      have hpi := Hpi.out j hj
      clear hz hbW hscW
      by_cases hlt : j < M
      · obtain ⟨ao', cap', he, h0 | ⟨g, rfl, hBg, hg, hcells⟩⟩ := scr_read hsr
        · omega
        simp only [Value.slice.injEq] at he
        obtain ⟨rfl, -, -⟩ := he
        obtain ⟨hx, hrd, hl⟩ := hcells j hlt
        have HC := Lib.hid (l4Changes_any lo (some ⟨gs j, 0, none⟩) K K K K (prevZ R' K j) (R' j) wr hlo hrd hpl hl (Nat.le_refl _) (by omega) hpi (Hin.out j hj))
        have hsuc : sumZ R' K (j + 1) = sumZ R' K j + chP (prevZ R' K j) (R' j) K := rfl
        have hcl := chP_le (prevZ R' K j) (R' j) K
        generalize chP (prevZ R' K j) (R' j) K = y at HC hsuc hcl
        generalize sumZ R' K j = S at hsum hsuc ⊢
        have HS := Lib.hid hsuc
        clear hsuc hcells hsr hpl hpi hlo hl
        have hji : (j : Int) < (M : Int) := by omega
        go_wp2_with (first | (go_at_call 44; refine HC.out.mono ?_; rintro e w2 ⟨rfl, hb2⟩; have hx2 := (hb2.cell (p := ⟨g, j, none⟩) hg).trans hx))
        go_roundw
        case rel => exact ⟨j + 1, some ⟨gs j, 0, none⟩, by omega, by go_num, by rw [HS.out]; go_num, rfl, RdI_below hrd hb2, scr_below HO.out hb2 (Nat.le_refl _), belowThen hbw hb2⟩
        case measure => simp [intOf]; omega
      · have hjn : j = M := by omega
        subst hjn
        have HC := Lib.hid (fun (W : World) (h1 : RdI W lo (prevZ R' K j)) (a : Option Addr) (h2 : RdI W a (List.replicate K 0)) => l4Changes_any lo a K K K K (prevZ R' K j) (List.replicate K 0) W h1 h2 hpl (by simp) (Nat.le_refl _) (by omega) hpi (fun x hx => by rw [List.mem_replicate] at hx; rw [hx.2]; rfl))
        have hsuc : sumZ R' K (j + 1) = sumZ R' K j + chP (prevZ R' K j) (R' j) K := rfl
        rw [HM.out] at hsuc
        have hcl := chP_le (prevZ R' K j) (List.replicate K 0) K
        generalize chP (prevZ R' K j) (List.replicate K 0) K = y at HC hcl hsuc
        generalize sumZ R' K j = S at hsum hsuc ⊢
        have HSuc := Lib.hid hsuc
        have hlz := RdI_below hlo (Go.Joins.below_alloc1 wr (.cells Mk 3))
        have hzz := RdI_zeros K wr
        clear hsuc hsr hpl hpi hlo
        go_wp2_with (first | (go_at_call 44; refine (HC.out _ hlz _ hzz).mono ?_; rintro e w2 ⟨rfl, hb2⟩))
        go_ret2
        exact ⟨by rw [HR'.out, HSuc.out]; simp, belowThen (belowThen hbw (Go.Joins.below_alloc1 _ _)) hb2⟩
  · have hz : RdI (w1.alloc (.cells Mk 3)) (some ⟨w1.heap.size, 0, none⟩) (List.replicate K 0) := RdI_zeros K w1
    have hbW : Below w.heap.size w (w1.alloc (.cells Mk 3)) := belowThen (belowThen (by (repeat (first | assumption | exact Below.refl _ _ | refine belowThen ?_ (Go.Joins.below_alloc1 _ _) | apply Below.drew | refine belowThen ?_ (by assumption) | refine belowThen ?_ (Go.Joins.below_draws _ _ _) | refine Below.setCell ?_ (by first | exact Nat.le_refl _ | (simp; done) | (simp; omega)) _))) hb1) (Go.Joins.below_alloc1 _ _)
    have hscW := scr_below (C := 0) (scr_congr hsc hcg) (Go.Joins.below_alloc1 _ (.cells Mk 3)) (Nat.zero_le _)
    clear hsc
    generalize hR' : rowsZ R M K = R' at *
    have HR' := Lib.hid hR'
    clear hR'
    go_wp2
    clear hb1
    go_loopw [6, 7, 9] (fun sm lv i wr => ∃ (j : Nat) (lo : Option Addr), j ≤ M ∧ i = .int .i64 j ∧ sm = .int .i64 ((sumZ R' K j : Nat) : Int) ∧ lv = .slice lo K K ∧ RdI wr lo (prevZ R' K j) ∧ scr wr 0 (.slice ao M cap) M K gs R' ∧ Below w.heap.size w wr) (fun _ _ i _ => M - (intOf i).toNat)
    case atStart => exact ⟨0, _, by omega, rfl, rfl, rfl, by first | exact hz | exact RdI_below hz (by (repeat (first | assumption | exact Below.refl _ _ | refine belowThen ?_ (Go.Joins.below_alloc1 _ _) | apply Below.drew | refine belowThen ?_ (by assumption) | refine belowThen ?_ (Go.Joins.below_draws _ _ _) | refine Below.setCell ?_ (by first | exact Nat.le_refl _ | (simp; done) | (simp; omega)) _))), by first | exact hscW | exact scr_below hscW (by (repeat (first | assumption | exact Below.refl _ _ | refine belowThen ?_ (Go.Joins.below_alloc1 _ _) | apply Below.drew | refine belowThen ?_ (by assumption) | refine belowThen ?_ (Go.Joins.below_draws _ _ _) | refine Below.setCell ?_ (by first | exact Nat.le_refl _ | (simp; done) | (simp; omega)) _))) (Nat.le_refl _), by first | exact hbW | exact belowThen hbW (by (repeat (first | assumption | exact Below.refl _ _ | refine belowThen ?_ (Go.Joins.below_alloc1 _ _) | apply Below.drew | refine belowThen ?_ (by assumption) | refine belowThen ?_ (Go.Joins.below_draws _ _ _) | refine Below.setCell ?_ (by first | exact Nat.le_refl _ | (simp; done) | (simp; omega)) _)))⟩
    case round =>
      obtain ⟨j, lo, hj, rfl, rfl, rfl, hlo, hsr, hbw⟩ := hrel
      have HO := Lib.hid hsr
      have hsum := sumZ_le R' K j
      have hsl : 7 * K * j ≤ 7 * 6 * 17 := Nat.mul_le_mul (by omega) (by omega)
      have hpl := Hpl.out j hj
      have hpi := Hpi.out j hj
      clear hz hbW hscW
      by_cases hlt : j < M
      · obtain ⟨ao', cap', he, h0 | ⟨g, rfl, hBg, hg, hcells⟩⟩ := scr_read hsr
        · omega
        simp only [Value.slice.injEq] at he
        obtain ⟨rfl, -, -⟩ := he
        obtain ⟨hx, hrd, hl⟩ := hcells j hlt
        have HC := Lib.hid (l4Changes_any lo (some ⟨gs j, 0, none⟩) K K K K (prevZ R' K j) (R' j) wr hlo hrd hpl hl (Nat.le_refl _) (by omega) hpi (Hin.out j hj))
        have hsuc : sumZ R' K (j + 1) = sumZ R' K j + chP (prevZ R' K j) (R' j) K := rfl
        have hcl := chP_le (prevZ R' K j) (R' j) K
        generalize chP (prevZ R' K j) (R' j) K = y at HC hsuc hcl
        generalize sumZ R' K j = S at hsum hsuc ⊢
        have HS := Lib.hid hsuc
        clear hsuc hcells hsr hpl hpi hlo hl
        have hji : (j : Int) < (M : Int) := by omega
        go_wp2_with (first | (go_at_call 44; refine HC.out.mono ?_; rintro e w2 ⟨rfl, hb2⟩; have hx2 := (hb2.cell (p := ⟨g, j, none⟩) hg).trans hx))
        go_roundw
        case rel => exact ⟨j + 1, some ⟨gs j, 0, none⟩, by omega, by go_num, by rw [HS.out]; go_num, rfl, RdI_below hrd hb2, scr_below HO.out hb2 (Nat.le_refl _), belowThen hbw hb2⟩
        case measure => simp [intOf]; omega
      · have hjn : j = M := by omega
        subst hjn
        have HC := Lib.hid (fun (W : World) (h1 : RdI W lo (prevZ R' K j)) (a : Option Addr) (h2 : RdI W a (List.replicate K 0)) => l4Changes_any lo a K K K K (prevZ R' K j) (List.replicate K 0) W h1 h2 hpl (by simp) (Nat.le_refl _) (by omega) hpi (fun x hx => by rw [List.mem_replicate] at hx; rw [hx.2]; rfl))
        have hsuc : sumZ R' K (j + 1) = sumZ R' K j + chP (prevZ R' K j) (R' j) K := rfl
        rw [HM.out] at hsuc
        have hcl := chP_le (prevZ R' K j) (List.replicate K 0) K
        generalize chP (prevZ R' K j) (List.replicate K 0) K = y at HC hcl hsuc
        generalize sumZ R' K j = S at hsum hsuc ⊢
        have HSuc := Lib.hid hsuc
        have hlz := RdI_below hlo (Go.Joins.below_alloc1 wr (.cells Mk 3))
        have hzz := RdI_zeros K wr
        clear hsuc hsr hpl hpi hlo
        go_wp2_with (first | (go_at_call 44; refine (HC.out _ hlz _ hzz).mono ?_; rintro e w2 ⟨rfl, hb2⟩))
        go_ret2
        exact ⟨by rw [HR'.out, HSuc.out]; simp, belowThen (belowThen hbw (Go.Joins.below_alloc1 _ _)) hb2⟩
theorem runAppendRd (w : World) (ty : TypeId) (B : Nat) (v : Value) (m K : Nat) (gs : Nat → Nat) (R : Nat → List Int) (hsc : scr w B v m K gs R) (hv : m = 0 → v = .slice none 0 0) (g : Nat) (Z : List Int) (hz : ownsInts w B (.slice (some ⟨g, 0, none⟩) K K) Z) (hZ : Z.length = K)
    (ad : Addr) (hc : w.cell? (ad.add 0) = some (.slice (some ⟨g, 0, none⟩) K K)) (hm : m ≤ 1000) (hB : B ≤ w.heap.size) :
    ∃ G cap w', (Builtin.append_ #[35, 35] ty #[v, .slice (some ad) 1 1]).run Tryd.prog w = .ok (.slice (some ⟨G, 0, none⟩) (m + 1) cap) w' ∧ RdSS w' G (m + 1) K (fun i => if i < m then gs i else g) (fun i => if i < m then R i else Z) ∧ Below B w w' := by
  obtain ⟨i0, hi, hz0, hz1, hz2⟩ := info_parts infoInts
  have hown : w.ownsRow B 24 1 v m ((List.range m).map fun i => Value.slice (some ⟨gs i, 0, none⟩) K K) := by
    rcases hsc.1 with h | ⟨h0, h1, a, h2⟩
    · exact h
    · rw [hv h0] at h2; cases h2
  obtain ⟨G, cap, w', hr, h2, h3, h4, h5⟩ := run_append_lies w 35 ty B 24 i0 (.slice none 0 0) 1 24 Tryd.underlying35 hi hz0 hz1 hz2 rfl (by decide) v m _ hown ad 1 1 [.slice (some ⟨g, 0, none⟩) K K] rfl
    (fun j u hu => by
      have h0 : j = 0 := by have := (List.getElem?_eq_some_iff.1 hu).1; simpa using this
      subst h0
      simp at hu
      rw [hc, hu]) (by simp [Value.oneCell']) (by decide) (by unfold maxLen; omega) (by omega) hB _ rfl
  have hk : ∀ k, k < w.heap.size → (v.ownBlock = some k → ∀ cur, w.heap[k]? ≠ some (.cells cur 24 (0, 0))) → w'.heap[k]? = w.heap[k]? := by
    intro k hk hne
    refine h3.block k hk ?_
    intro hcc
    rcases hown.2 with ⟨rfl, _⟩ | ⟨g9, _, cur, rfl, _, hgg, _⟩
    · simp [Value.ownBlock] at hcc
    · simp only [Value.ownBlock, Option.some.injEq] at hcc
      subst hcc
      exact hne rfl cur hgg
  have hbel : Below B w w' := (Below.refl B w).grown h3 hB (fun k hk => (World.ownsRow.lt hown k hk).1)
  refine ⟨G, cap, w', hr, ⟨h5, fun i hi => ?_⟩, hbel⟩
  have hcell : ∀ i, i < m + 1 → w'.cell? ⟨G, i, none⟩ = (((List.range m).map fun i => Value.slice (some ⟨gs i, 0, none⟩) K K) ++ [.slice (some ⟨g, 0, none⟩) K K])[i]? := fun i hi => World.ownsRow.cellAt h2 i (by omega)
  rw [hcell i hi]
  dsimp only
  by_cases hlt : i < m
  · rw [if_pos hlt, if_pos hlt]
    obtain ⟨a1, a2, a3, a4⟩ := hsc.2.1 i hlt
    refine ⟨?_, ?_, a3⟩
    · rw [List.getElem?_append_left (by simpa using hlt)]
      simp [hlt]
    · subst a3
      exact RdI_owns (ownsInts_apart (by decide) a4 hk)
  · rw [if_neg hlt, if_neg hlt]
    have him : i = m := by omega
    subst him
    refine ⟨?_, ?_, hZ⟩
    · rw [List.getElem?_append_right (by simp)]
      simp
    · subst hZ
      exact RdI_owns (ownsInts_apart (by decide) hz hk)
theorem stepAppendRd {ops : Array Oper} {o : Oper} {a : Act} {w : World} {K' : Act → World → Prop} {Q : Exit → Act → World → Prop} {E : Prop} (hgd : o.guard = none) (s x : Operand)
    (ho : o.op = .call { callee := .builtin .append, args := #[s, x], argTypes := #[35, 35] })
    (B : Nat) (v : Value) (m K : Nat) (gs : Nat → Nat) (R : Nat → List Int) (hs : a.eval s = v) (ad : Addr) (hx : a.eval x = .slice (some ad) 1 1) (hsc : scr w B v m K gs R) (hv : m = 0 → v = .slice none 0 0) (g : Nat) (Z : List Int) (hz : ownsInts w B (.slice (some ⟨g, 0, none⟩) K K) Z) (hZ : Z.length = K)
    (hc : w.cell? (ad.add 0) = some (.slice (some ⟨g, 0, none⟩) K K)) (hm : m ≤ 1000) (hB : B ≤ w.heap.size)
    (h : ∀ G cap w', RdSS w' G (m + 1) K (fun i => if i < m then gs i else g) (fun i => if i < m then R i else Z) → Below B w w' → K' (a.put o.dst (.slice (some ⟨G, 0, none⟩) (m + 1) cap)) w') :
    if Region.wanted o (yielded ops a.tmps) = true then Oper.wp Tryd.prog o a w K' Q else E := by
  have hw : Region.wanted o (yielded ops a.tmps) = true := by simp [Region.wanted, hgd]
  rw [if_pos hw]
  obtain ⟨G, cap, w', hr, h2, h3⟩ := runAppendRd w o.type B v m K gs R hsc hv g Z hz hZ ad hc hm hB
  unfold Oper.wp execOp
  simp only [ho, resolve, invoke, builtin, Sem.run_bind, Sem.run_pure, Result.andThen_ok, List.map_toArray, List.map_cons, List.map_nil, hs, hx, hr]
  exact h G cap w' h2 h3
end Go.Proofs.YtfdmcnnjifggnaaDoor

namespace Go.Proofs.YtfdmcnnjifggnaaDoor
open Go.RowKit

theorem madeOwn (K : Nat) (hK : K ≤ 1000) (W : World) (B : Nat) (hB : B ≤ W.heap.size) : ownsInts (W.alloc (.cells (madeCells #[.int .i64 0] K) 3)) B (.slice (some ⟨W.heap.size, 0, none⟩) K K) (List.replicate K 0) := by
  have e1 : (madeCells #[Value.int .i64 0] K).toList = (List.replicate K (0 : Int)).map (Value.int .i64) := (toList_madeCells_one _ _).trans (by simp)
  have h := World.ownsRow_lit (base := B) (e := 3) (size := 1) W (madeCells #[Value.int .i64 0] K) K hB (by unfold maxLen; omega) (by rw [← Array.length_toList, e1]; simp)
  rw [e1] at h
  refine .inl ?_
  simpa using h
theorem RdI_low {w w' : World} {b B : Nat} {L : List Int} (h : RdI w (some ⟨b, 0, none⟩) L) (hlt : b < B) (hb : Below B w w') : RdI w' (some ⟨b, 0, none⟩) L := by
  rcases h with h | ⟨b2, o2, he, hb2, hc⟩
  · exact .inl h
  · simp only [Option.some.injEq, Addr.mk.injEq] at he
    obtain ⟨rfl, rfl, -⟩ := he
    exact .inr ⟨b, 0, rfl, Nat.lt_of_lt_of_le hb2 hb.size, fun j hj => (World.cell?_of_block (w := w) (hb.block _ hlt)).trans (hc j hj)⟩
set_option maxHeartbeats 2000000 in
set_option maxRecDepth 100000 in
theorem ScrollChangesI_any (s : ByteArray) (K M : Nat) (R : Nat → List Int) (h1K : 1 ≤ K) (hK6 : K ≤ 6) (w : World)
   (HScr : Hid (∀ W, Calls Tryd.prog 40 #[.string s, .int .i64 K] W fun e w' => ∃ ao cap gs, e = .returned (.slice ao M cap) ∧ scr w' W.heap.size (.slice ao M cap) M K gs R ∧ (M = 0 → Value.slice ao M cap = .slice none 0 0) ∧ Below W.heap.size W w')) (HW : Hid (∀ W, Calls Tryd.prog 39 #[.string s, .int .i64 K] W fun e w' => e = .returned (.bool true) ∧ Below W.heap.size W w')) (hM17 : M ≤ 17) (hR : ∀ i, (R i).length = K ∧ ∀ x ∈ R i, inB 0 127 x = true) :
    Calls Tryd.prog 16 #[.string s, .int .i64 K] w fun e w' => e = .returned (.tuple #[.int .i64 (sumZ (rowsZ R M K) K (M + 1)), .bool true]) ∧ Below w.heap.size w w' := by
  have hmk := madeRow K (by omega)
  have RdI_zeros := fun (W : World) => RdI_made K W
  have HOwn := Lib.hid (fun W B hB => madeOwn K (by omega) W B hB)
  have hzm : ∀ x ∈ List.replicate K (0 : Int), inB 0 127 x = true := fun x hx => by rw [List.mem_replicate] at hx; rw [hx.2]; rfl
  have Hin : Hid (∀ j, j ≤ M → ∀ x ∈ rowsZ R M K j, inB 0 127 x = true) := Lib.hid fun j hj => by unfold rowsZ; split; exact (hR j).2; exact hzm
  have Hpl : Hid (∀ j, j ≤ M + 1 → (prevZ (rowsZ R M K) K j).length = K) := Lib.hid fun j hj => by
    cases j with
    | zero => simp [prevZ]
    | succ j => show (rowsZ R M K j).length = K; unfold rowsZ; split; exact (hR j).1; simp
  have Hpi : Hid (∀ j, j ≤ M + 1 → ∀ x ∈ prevZ (rowsZ R M K) K j, inB 0 127 x = true) := Lib.hid fun j hj => by
    cases j with
    | zero => exact hzm
    | succ j => show ∀ x ∈ rowsZ R M K j, inB 0 127 x = true; unfold rowsZ; split; exact (hR j).2; exact hzm
  clear hzm
  generalize madeCells #[Value.int .i64 0] K = Mk at hmk RdI_zeros HOwn
  have hA1 := @cellAlloc; have hA2 := @frozenAlloc; have hA3 := @setCellAlloc; go_enter Tryd.func16, Tryd.ntmps16
  go_wp2_with (first | (go_at_call 39; refine (HW.out _).mono ?_; rintro e w1 ⟨rfl, hb1⟩))
  go_region
  go_wp2_with fail
  have h2 : ownsInts ((w1.alloc (.cells Mk 3)).alloc (.cells Mk 3)) (w1.heap.size + 1) (.slice (some ⟨w1.heap.size + 1, 0, none⟩) K K) (List.replicate K 0) := by
    have := HOwn.out (w1.alloc (.cells Mk 3)) (w1.heap.size + 1) (by simp)
    simpa using this
  go_region_law (first
    | (go_simp; go_at_call 40; with_reducible refine (HScr.out (((w1.alloc (.cells Mk 3)).alloc (.cells Mk 3)).alloc (.cells #[.slice (some ⟨w1.heap.size + 1, 0, none⟩) K K] 24)).drew.drew).mono ?_; rintro e w4 ⟨ao, cap, gs, rfl, hsc, hnil, hb4⟩
       have hz7 := RdI_below (RdI_below (RdI_zeros w1) (by (repeat (first | assumption | exact Below.refl _ _ | refine belowThen ?_ (Go.Joins.below_alloc1 _ _) | apply Below.drew | refine belowThen ?_ (by assumption) | refine belowThen ?_ (Go.Joins.below_draws _ _ _) | refine Below.setCell ?_ (by first | exact Nat.le_refl _ | (simp; done) | (simp; omega)) _)))) hb4
       have hs4 : w1.heap.size + 1 ≤ w4.heap.size := by have := hb4.size; simp at this; omega
       replace hsc := scr_below (C := w1.heap.size + 1) hsc (Below.refl _ _) (by simp <;> omega)
       have hc3 := (hb4.cell (p := ⟨w1.heap.size + 1 + 1, 0, none⟩) (by simp)).trans (show _ = some (Value.slice (some ⟨w1.heap.size + 1, 0, none⟩) K K) by go_simp)
       have hr3 := ownsInts_below (ownsInts_below h2 (by (repeat (first | assumption | exact Below.refl _ _ | refine belowThen ?_ (Go.Joins.below_alloc1 _ _) | apply Below.drew | refine belowThen ?_ (by assumption) | refine belowThen ?_ (Go.Joins.below_draws _ _ _) | refine Below.setCell ?_ (by first | exact Nat.le_refl _ | (simp; done) | (simp; omega)) _))) (Nat.le_refl _)) hb4 (Nat.le_refl _))
    | (go_simp; go_at_call 40; with_reducible refine (HScr.out ((w1.alloc (.cells Mk 3)).alloc (.cells Mk 3)).drew.drew).mono ?_; rintro e w4 ⟨ao, cap, gs, rfl, hsc, hnil, hb4⟩
       have hz7 := RdI_below (RdI_below (RdI_zeros w1) (by (repeat (first | assumption | exact Below.refl _ _ | refine belowThen ?_ (Go.Joins.below_alloc1 _ _) | apply Below.drew | refine belowThen ?_ (by assumption) | refine belowThen ?_ (Go.Joins.below_draws _ _ _) | refine Below.setCell ?_ (by first | exact Nat.le_refl _ | (simp; done) | (simp; omega)) _)))) hb4
       have hs4 : w1.heap.size + 1 ≤ w4.heap.size := by have := hb4.size; simp at this; omega
       replace hsc := scr_below (C := w1.heap.size + 1) hsc (Below.refl _ _) (by simp <;> omega)
       have hr2 := ownsInts_below (ownsInts_below h2 (by (repeat (first | assumption | exact Below.refl _ _ | refine belowThen ?_ (Go.Joins.below_alloc1 _ _) | apply Below.drew | refine belowThen ?_ (by assumption) | refine belowThen ?_ (Go.Joins.below_draws _ _ _) | refine Below.setCell ?_ (by first | exact Nat.le_refl _ | (simp; done) | (simp; omega)) _))) (Nat.le_refl _)) hb4 (Nat.le_refl _))
    | (go_simp; go_at_call 40; refine (HScr.out _).mono ?_; rintro e w4 ⟨ao, cap, gs, rfl, hsc, hnil, hb4⟩
       have hz7 := RdI_below (RdI_below (RdI_zeros w1) (by (repeat (first | assumption | exact Below.refl _ _ | refine belowThen ?_ (Go.Joins.below_alloc1 _ _) | apply Below.drew | refine belowThen ?_ (by assumption) | refine belowThen ?_ (Go.Joins.below_draws _ _ _) | refine Below.setCell ?_ (by first | exact Nat.le_refl _ | (simp; done) | (simp; omega)) _)))) hb4
       have hs4 : w1.heap.size + 1 ≤ w4.heap.size := by have := hb4.size; simp at this; omega
       replace hsc := scr_below (C := w1.heap.size + 1) hsc (Below.refl _ _) (by simp <;> omega))
    | (refine stepAppendRd (by rfl) _ _ (by rfl) (w1.heap.size + 1) _ M K gs R (by rfl) ⟨w4.heap.size + 1, 0, none⟩ (by rfl) (scr_below hsc (by (repeat (first | assumption | exact Below.refl _ _ | refine belowThen ?_ (Go.Joins.below_alloc1 _ _) | apply Below.drew | refine belowThen ?_ (by assumption) | refine belowThen ?_ (Go.Joins.below_draws _ _ _) | refine Below.setCell ?_ (by first | exact Nat.le_refl _ | (simp; done) | (simp; omega)) _))) (Nat.le_refl _)) hnil w4.heap.size (List.replicate K 0) (ownsInts_below (HOwn.out w4 _ hs4) (by (repeat (first | assumption | exact Below.refl _ _ | refine belowThen ?_ (Go.Joins.below_alloc1 _ _) | apply Below.drew | refine belowThen ?_ (by assumption) | refine belowThen ?_ (Go.Joins.below_draws _ _ _) | refine Below.setCell ?_ (by first | exact Nat.le_refl _ | (simp; done) | (simp; omega)) _))) (Nat.le_refl _)) (by simp) (by rw [Addr.add_lit]; go_simp) (by omega) (by simp; omega) ?_
       intro G cap2 w5 hrd5 hb5
       replace hb5 := (Go.Joins.below_alloc2 w4 (.cells Mk 3) _ |>.mono hs4).trans hb5)
    | (refine stepAppendRd (by rfl) _ _ (by rfl) (w1.heap.size + 1) _ M K gs R (by rfl) ⟨w4.heap.size, 0, none⟩ (by rfl) (scr_below hsc (by (repeat (first | assumption | exact Below.refl _ _ | refine belowThen ?_ (Go.Joins.below_alloc1 _ _) | apply Below.drew | refine belowThen ?_ (by assumption) | refine belowThen ?_ (Go.Joins.below_draws _ _ _) | refine Below.setCell ?_ (by first | exact Nat.le_refl _ | (simp; done) | (simp; omega)) _))) (Nat.le_refl _)) hnil (w1.heap.size + 1) (List.replicate K 0) (ownsInts_below hr2 (by (repeat (first | assumption | exact Below.refl _ _ | refine belowThen ?_ (Go.Joins.below_alloc1 _ _) | apply Below.drew | refine belowThen ?_ (by assumption) | refine belowThen ?_ (Go.Joins.below_draws _ _ _) | refine Below.setCell ?_ (by first | exact Nat.le_refl _ | (simp; done) | (simp; omega)) _))) (Nat.le_refl _)) (by simp) (by rw [Addr.add_lit]; go_simp) (by omega) (by simp; omega) ?_
       intro G cap2 w5 hrd5 hb5
       replace hb5 := (Go.Joins.below_alloc1 w4 _ |>.mono hs4).trans hb5)
    | (refine stepAppendRd (by rfl) _ _ (by rfl) (w1.heap.size + 1) _ M K gs R (by rfl) ⟨w1.heap.size + 1 + 1, 0, none⟩ (by rfl) hsc hnil (w1.heap.size + 1) (List.replicate K 0) hr3 (by simp) (by rw [Addr.add_lit]; exact hc3) (by omega) hs4 ?_
       intro G cap2 w5 hrd5 hb5)
    | (trace_state; fail))
  all_goals
    have hz5 := RdI_low hz7 (Nat.lt_succ_self _) hb5
    have hbw4 : Below w.heap.size w w4 := belowThen (by (repeat (first | assumption | exact Below.refl _ _ | refine belowThen ?_ (Go.Joins.below_alloc1 _ _) | apply Below.drew | refine belowThen ?_ (by assumption) | refine belowThen ?_ (Go.Joins.below_draws _ _ _) | refine Below.setCell ?_ (by first | exact Nat.le_refl _ | (simp; done) | (simp; omega)) _))) hb4
    have hbw5 : Below w.heap.size w w5 := hbw4.trans (hb5.mono (by have := hb1.size; omega))
    have hrd : RdSS w5 G (M + 1) K _ (rowsZ R M K) := hrd5
    clear hrd5 hz7 hsc hnil hb4 hb5 hs4 hbw4 h2
    generalize hR' : rowsZ R M K = R' at *
    have HR' := Lib.hid hR'
    clear hR'
    generalize (fun i => if i < M then gs i else _) = gs' at hrd
    simp only [List.getElem_toArray, List.getElem_cons_succ, List.getElem_cons_zero, Act.put, List.setIfInBounds_toArray, List.set_cons_succ, List.set_cons_zero]
    go_wp2
    go_loop [6, 7, 24] (fun sm lv i => ∃ (j : Nat) (lo : Option Addr), j ≤ M + 1 ∧ i = .int .i64 j ∧ sm = .int .i64 ((sumZ R' K j : Nat) : Int) ∧ lv = .slice lo K K ∧ RdI w5 lo (prevZ R' K j)) (fun _ _ i => M + 1 - (intOf i).toNat)
    case atStart => exact ⟨0, _, by omega, rfl, rfl, rfl, hz5⟩
    case round =>
      obtain ⟨j, lo, hj, rfl, rfl, rfl, hlo⟩ := hrel
      have hsum := sumZ_le R' K j
      have hsl : 7 * K * j ≤ 7 * 6 * 18 := Nat.mul_le_mul (by omega) (by omega)
      have hpl := Hpl.out j hj
      have hpi := Hpi.out j hj
      clear hz5
      by_cases hlt : j < M + 1
      · obtain ⟨hx, hrd2, hl⟩ := hrd.2 j hlt
        have HC := Lib.hid (changes_any lo (some ⟨gs' j, 0, none⟩) K K K K (prevZ R' K j) (R' j) w5 hlo hrd2 hpl hl (Nat.le_refl _) (by omega) hpi (Hin.out j (by omega)))
        have hsuc : sumZ R' K (j + 1) = sumZ R' K j + chP (prevZ R' K j) (R' j) K := rfl
        have hcl := chP_le (prevZ R' K j) (R' j) K
        generalize chP (prevZ R' K j) (R' j) K = y at HC hsuc hcl
        generalize sumZ R' K j = S at hsum hsuc ⊢
        have HS := Lib.hid hsuc
        clear hsuc hpl hpi hlo hl hrd
        have hji : (j : Int) < (M : Int) + 1 := by omega
        go_wp2_with (first | (go_at_call 43; refine HC.out.mono ?_; rintro e w' ⟨rfl, rfl⟩))
        go_round
        case rel => exact ⟨j + 1, some ⟨gs' j, 0, none⟩, by omega, by go_num, by rw [HS.out]; go_num, rfl, hrd2⟩
        case measure => simp [intOf]; omega
      · have hjn : j = M + 1 := by omega
        subst hjn
        generalize hSM : sumZ R' K (M + 1) = S at hsum ⊢
        have HSM := Lib.hid hSM
        clear hSM hpl hpi hlo
        go_wp2
        go_ret2
        exact ⟨by rw [HR'.out, HSM.out]; simp, hbw5⟩
end Go.Proofs.YtfdmcnnjifggnaaDoor
