/- Contracts of the program's making of a bench out of a row, and of the law's comparing of benches. -/
import Derived.Test.YtfjgleimdaailaaBench
import Derived.Deep.MidRow
import Derived.Deep.QuietTactic
import Derived.BigQuiet
namespace Go.Proofs.Ytfjgleimdaailaa
open Go.RowKit

/-- Six cells. -/
def c6 (f : Nat → Int) : List Value := [.int .i64 (f 0), .int .i64 (f 1), .int .i64 (f 2), .int .i64 (f 3), .int .i64 (f 4), .int .i64 (f 5)]
theorem c6_get (f : Nat → Int) (i : Nat) (h : i < 6) : (c6 f)[i]? = some (.int .i64 (f i)) := by
  match i, h with
  | 0, _ => rfl
  | 1, _ => rfl
  | 2, _ => rfl
  | 3, _ => rfl
  | 4, _ => rfl
  | 5, _ => rfl
  | n + 6, h => omega
set_option maxHeartbeats 800000 in
theorem eqIntA6_same (f : Nat → Int) (w : World) : Calls Try.prog 60 #[.agg (c6 f).toArray, .agg (c6 f).toArray] w fun e w' => e = .returned (.bool true) ∧ Below w.heap.size w w' := by
  have hsz : (c6 f).toArray.size = 6 := rfl
  have hget : ∀ i, i < 6 → (c6 f).toArray[i]? = some (.int .i64 (f i)) := fun i h => by simpa using c6_get f i h
  generalize (c6 f).toArray = A at hsz hget ⊢
  have hrow0 : ((w.alloc (.cells A 37)).alloc (.cells A 37)).rowIs w.heap.size 37 6 (fun j => .int .i64 (f j)) :=
    ⟨A, by rw [Below.heap_alloc _ _ _ (by simp)]; exact heap_alloc_new _ _, hsz, hget⟩
  have hrow1 : ((w.alloc (.cells A 37)).alloc (.cells A 37)).rowIs (w.heap.size + 1) 37 6 (fun j => .int .i64 (f j)) :=
    ⟨A, by have h := heap_alloc_new (w.alloc (.cells A 37)) (.cells A 37); rw [heapAlloc] at h; exact h, hsz, hget⟩
  have hb0 := Go.Joins.below_alloc2 w (.cells A 37) (.cells A 37)
  obtain ⟨W, hW⟩ : ∃ W, (w.alloc (.cells A 37)).alloc (.cells A 37) = W := ⟨_, rfl⟩
  rw [hW] at hrow0 hrow1 hb0
  clear hsz hget
  have hA1 := @cellAlloc; have hA2 := @frozenAlloc; have hA3 := @setCellAlloc; go_enter Try.func60, Try.ntmps60
  go_wp2
  clear hW
  go_loopw [5] (fun i wr => ∃ k : Nat, k ≤ 6 ∧ i = .int .i64 k ∧ wr.rowIs w.heap.size 37 6 (fun j => .int .i64 (f j)) ∧ wr.rowIs (w.heap.size + 1) 37 6 (fun j => .int .i64 (f j)) ∧ Below w.heap.size w wr) (fun i _ => 6 - (intOf i).toNat)
  case atStart => exact ⟨0, by omega, rfl, hrow0, hrow1, hb0⟩
  case round =>
    obtain ⟨k, hk, rfl, h0, h1, hbw⟩ := hrel
    clear hrow0 hrow1 hb0
    by_cases hlt : k < 6
    · have e0 := h0.cell hlt
      have e1 := h1.cell hlt
      have hc2 : (k : Int) < 6 := by omega
      go_wp2_with fail
      go_quiet (fail)
      go_wp2
      go_roundw
      case rel => exact ⟨k + 1, by omega, by go_num, h0.of_block rfl, h1.of_block rfl, belowThen hbw (Go.Joins.below_draws _ _ _)⟩
      case measure => simp [intOf]; omega
    · have hk6 : k = 6 := by omega
      subst hk6
      go_wp2
      go_ret
      exact ⟨rfl, hbw⟩
theorem benA_range (r : Nat → Int) (w : World) (b : Nat) (t : TypeId) (h : w.heap[b]? = some (.cells (benA r) t (0, 0))) :
    w.rangeAt b 0 (c6 r) ∧ w.rangeAt b 6 (c6 fun _ => 0) ∧ w.rangeAt b 12 (c6 fun _ => 0) ∧ w.cell? ⟨b, 18, none⟩ = some (.int .i64 0) := by
  refine ⟨fun j v hj => ?_, fun j v hj => ?_, fun j v hj => ?_, ?_⟩
  · rw [cell_of_row w b _ _ t _ h]
    have h6 : j < 6 := (List.getElem?_eq_some_iff.1 hj).1
    rw [c6_get _ _ h6] at hj
    rw [benA_get _ _ (by omega), ← hj, Nat.zero_add, if_pos h6]
  · rw [cell_of_row w b _ _ t _ h]
    have h6 : j < 6 := (List.getElem?_eq_some_iff.1 hj).1
    rw [c6_get _ _ h6] at hj
    rw [benA_get _ _ (by omega), ← hj, if_neg (by omega)]
  · rw [cell_of_row w b _ _ t _ h]
    have h6 : j < 6 := (List.getElem?_eq_some_iff.1 hj).1
    rw [c6_get _ _ h6] at hj
    rw [benA_get _ _ (by omega), ← hj, if_neg (by omega)]
  · rw [cell_of_row w b _ _ t _ h]
    rfl
theorem rangeAt_below {B b o : Nat} {cs : List Value} {w w' : World} (h : w.rangeAt b o cs) (hb : Below B w w') (hlt : b < B) : w'.rangeAt b o cs := fun j v hj => by
  rw [World.cell?_of_block (w := w) (hb.block _ hlt)]; exact h j v hj
set_option maxHeartbeats 1600000 in
set_option maxRecDepth 100000 in
theorem eqBench_same (r : Nat → Int) (w : World) : Calls Try.prog 26 #[.agg (benA r), .agg (benA r)] w fun e w' => e = .returned (.bool true) ∧ Below w.heap.size w w' := by
  have k1 : ((w.alloc (.cells (benA r) 41)).alloc (.cells (benA r) 41)).heap[w.heap.size + 1]? = some (.cells (benA r) 41 (0, 0)) := by
    have h := heap_alloc_new (w.alloc (.cells (benA r) 41)) (.cells (benA r) 41)
    rw [heapAlloc] at h
    exact h
  have k0 : ((w.alloc (.cells (benA r) 41)).alloc (.cells (benA r) 41)).heap[w.heap.size]? = some (.cells (benA r) 41 (0, 0)) := by
    rw [Below.heap_alloc _ _ _ (by simp)]
    exact heap_alloc_new _ _
  have hb0 := Go.Joins.below_alloc2 w (.cells (benA r) 41) (.cells (benA r) 41)
  have hs0 : ((w.alloc (.cells (benA r) 41)).alloc (.cells (benA r) 41)).heap.size = w.heap.size + 2 := by simp
  obtain ⟨p0, p6, p12, p18⟩ := benA_range r _ _ _ k0
  obtain ⟨q0, q6, q12, q18⟩ := benA_range r _ _ _ k1
  clear k0 k1
  obtain ⟨W, hW⟩ : ∃ W, (w.alloc (.cells (benA r) 41)).alloc (.cells (benA r) 41) = W := ⟨_, rfl⟩
  rw [hW] at p0 p6 p12 p18 q0 q6 q12 q18 hb0 hs0
  have E1 := Lib.hid (fun W => eqIntA6_same r W)
  have E2 := Lib.hid (fun W => eqIntA6_same (fun _ => 0) W)
  have hl1 : (c6 r).length = 6 := rfl
  have hl2 : (c6 fun _ => 0).length = 6 := rfl
  generalize c6 r = X at p0 q0 E1 hl1
  generalize (c6 fun _ => 0) = Z at p6 q6 p12 q12 E2 hl2
  generalize benA r = A at hW ⊢
  have HW := Lib.hid hW
  clear hW
  have t0 : True := trivial
  have t1 : True := trivial
  have t2 : True := trivial
  have hA1 := @cellAlloc; have hA2 := @frozenAlloc; have hA3 := @setCellAlloc; go_enter Try.func26, Try.ntmps26
  go_wp2_with (first
    | (rw [HW.out]; clear HW)
    | (refine wpList_load_mid (by rfl) 37 _ (by rfl) w.heap.size 0 (by rfl) X _ p0 Try.underlying37 rfl (by rw [hl1]; kernel_rfl) ?_)
    | (refine wpList_load_mid (by rfl) 37 _ (by rfl) (w.heap.size + 1) 0 (by rfl) X _ q0 Try.underlying37 rfl (by rw [hl1]; kernel_rfl) ?_)
    | (go_at_call 60; clear t0; refine (E1.out W).mono ?_; rintro e w1 ⟨rfl, hb1⟩
       replace p6 := rangeAt_below p6 hb1 (by omega)
       replace q6 := rangeAt_below q6 hb1 (by omega)
       replace p12 := rangeAt_below p12 hb1 (by omega)
       replace q12 := rangeAt_below q12 hb1 (by omega)
       replace p18 := (World.cell?_of_block (w := W) (a := ⟨w.heap.size, 18, none⟩) (hb1.block _ (by show w.heap.size < _; omega))).trans p18
       replace q18 := (World.cell?_of_block (w := W) (a := ⟨w.heap.size + 1, 18, none⟩) (hb1.block _ (by show w.heap.size + 1 < _; omega))).trans q18
       have hs1 := hb1.size
       replace hb1 := hb0.trans (hb1.mono (by omega)))
    | (refine wpList_load_mid (by rfl) 37 _ (by rfl) w.heap.size 6 (by rfl) Z _ p6 Try.underlying37 rfl (by rw [hl2]; kernel_rfl) ?_)
    | (refine wpList_load_mid (by rfl) 37 _ (by rfl) (w.heap.size + 1) 6 (by rfl) Z _ q6 Try.underlying37 rfl (by rw [hl2]; kernel_rfl) ?_)
    | (go_at_call 60; clear t1; refine (E2.out _).mono ?_; rintro e w2 ⟨rfl, hb2⟩
       replace p12 := rangeAt_below p12 hb2 (by omega)
       replace q12 := rangeAt_below q12 hb2 (by omega)
       replace p18 := (World.cell?_of_block (a := ⟨w.heap.size, 18, none⟩) (hb2.block _ (by show w.heap.size < _; omega))).trans p18
       replace q18 := (World.cell?_of_block (a := ⟨w.heap.size + 1, 18, none⟩) (hb2.block _ (by show w.heap.size + 1 < _; omega))).trans q18
       have hs2 := hb2.size
       replace hb2 := hb1.trans (hb2.mono (by omega)))
    | (refine wpList_load_mid (by rfl) 37 _ (by rfl) w.heap.size 12 (by rfl) Z _ p12 Try.underlying37 rfl (by rw [hl2]; kernel_rfl) ?_)
    | (refine wpList_load_mid (by rfl) 37 _ (by rfl) (w.heap.size + 1) 12 (by rfl) Z _ q12 Try.underlying37 rfl (by rw [hl2]; kernel_rfl) ?_)
    | (go_at_call 60; clear t2; refine (E2.out _).mono ?_; rintro e w3 ⟨rfl, hb3⟩
       replace p18 := (World.cell?_of_block (a := ⟨w.heap.size, 18, none⟩) (hb3.block _ (by show w.heap.size < _; omega))).trans p18
       replace q18 := (World.cell?_of_block (a := ⟨w.heap.size + 1, 18, none⟩) (hb3.block _ (by show w.heap.size + 1 < _; omega))).trans q18
       replace hb3 := hb2.trans (hb3.mono (by omega))))
  go_ret
  exact ⟨rfl, hb3⟩
/-- The row copied into a new bench. -/
theorem splice_bench (R : List Int) (hq : rowB R = true) : (splice zer19.toList 0 (R.map (Value.int .i64))).toArray = benA (newZ R) := by
  have hlen := rowB_len hq
  apply Array.ext_getElem?
  intro j
  by_cases hj : j < 19
  · rw [benA_get _ _ hj]
    have hz : zer19.toList[j]? = some (.int .i64 0) := by
      have h := benA_get (fun _ => 0) j hj
      rw [benA_zero] at h
      have h6 : (if j < 6 then (0 : Int) else 0) = 0 := by split <;> rfl
      rw [h6] at h
      simpa using h
    unfold splice newZ
    rw [if_pos hq]
    simp only [List.take_zero, List.nil_append, List.length_map, Nat.zero_add, List.getElem?_toArray]
    by_cases h1 : j < R.length
    · rw [List.getElem?_append_left (by simpa using h1), if_pos (by omega)]
      simp [h1]
    · rw [List.getElem?_append_right (by simp; omega), List.getElem?_drop, List.length_map, show R.length + (j - R.length) = j by omega, hz]
      have h0 : R.getD j 0 = 0 := by rw [List.getD_eq_getElem?_getD, List.getElem?_eq_none (by omega)]; rfl
      rw [h0]
      split <;> rfl
  · have h1 : (splice zer19.toList 0 (R.map (Value.int .i64))).length = 19 := by
      rw [length_splice _ _ _ (by simp [zer19]; omega)]; rfl
    rw [Array.getElem?_eq_none (by simpa using (by omega : _ ≤ j)), Array.getElem?_eq_none (by rw [benA_size]; omega)]
set_option maxHeartbeats 1600000 in
set_option maxRecDepth 100000 in
theorem NewBenchI_any (ao : Option Addr) (n cap : Nat) (R : List Int) (w : World) (hr : RdI w ao R) (hn : R.length = n) (hm : n ≤ maxLen) :
    Calls Try.prog 25 #[.slice ao n cap] w fun e w' => e = .returned (.tuple #[.agg (benA (newZ R)), .bool (rowB R)]) ∧ Below w.heap.size w w' := by
  have hz := (zero_of_info (P := Try.prog) (t := 41) (v := .agg zer19) (n := 19) (by kernel_rfl)).1
  have HR := Lib.hid (fun W h => IsRow_any ao n cap R W h hn hm)
  have hlen := rowB_len (L := R)
  rw [hn] at hlen
  have hzz : rowB R = false → benA (newZ R) = zer19 := fun h => by rw [← benA_zero]; congr 1; funext j; unfold newZ; rw [h]; rfl
  have hspl := splice_bench R
  have hsz := benA_size (newZ R)
  have hone := benA_one (newZ R)
  have HN := Lib.hid hn
  have hone0 : zer19.all (·.oneCell') = true := benA_one (fun _ => 0)
  generalize benA (newZ R) = A at hzz hsz hone hspl ⊢
  generalize rowB R = q at HR hlen hzz hspl ⊢
  have k0 : (w.alloc (.cells zer19 41)).heap[w.heap.size]? = some (.cells zer19 41 (0, 0)) := heap_alloc_new _ _
  obtain ⟨W, hW⟩ : ∃ W, w.alloc (.cells zer19 41) = W := ⟨_, rfl⟩
  have hbW : Below w.heap.size w W := by rw [← hW]; exact Go.Joins.below_alloc1 _ _
  have hsW : W.heap.size = w.heap.size + 1 := by rw [← hW]; simp
  rw [hW] at k0
  have HW := Lib.hid hW
  clear hW
  rcases q with _ | _
  · have hA := hzz rfl
    subst hA
    clear hlen hzz hspl
    have hA1 := @cellAlloc; have hA2 := @frozenAlloc; have hA3 := @setCellAlloc; go_enter Try.func25, Try.ntmps25
    go_wp2_with (first | (rw [HW.out]; clear HW) | (go_at_call 55; refine (HR.out _ (RdI_below hr hbW)).mono ?_; rintro e w1 ⟨rfl, hb1⟩; replace k0 := (hb1.block w.heap.size (by omega)).trans k0; replace hb1 := hbW.trans (hb1.mono (by omega))) | (refine wpList_store_row (by rfl) 41 _ _ (by rfl) w.heap.size zer19 (by rfl) (by rfl) 41 zer19 k0 (by kernel_rfl) rfl hone ?_))
    refine bodyPost_ret (v := .tuple #[.agg zer19, .bool false]) (results_cell_tmp_str (p := 2) (u := 3) (ty := 41) (by rfl) _ _ w.heap.size 41 zer19 (0, 0) _ (by rfl) (heapRowSame _ _ _ _ _ k0) Try.underlying41 (by kernel_rfl) _ (by rfl)) rfl ⟨rfl, ?_⟩
    exact setRow_below hb1 (Nat.le_refl _) _
  · have hn6 := hlen rfl
    have HS := Lib.hid (hspl rfl)
    clear hlen hzz hspl
    have hcsn : (R.map (Value.int .i64)).length = n := by rw [List.length_map, hn]
    have hA1 := @cellAlloc; have hA2 := @frozenAlloc; have hA3 := @setCellAlloc; go_enter Try.func25, Try.ntmps25
    go_wp2_with (first
      | (rw [HW.out]; clear HW)
      | (go_at_call 55; refine (HR.out _ (RdI_below hr hbW)).mono ?_; rintro e w1 ⟨rfl, hb1⟩; have hs1 := hb1.size; replace k0 := (hb1.block w.heap.size (by omega)).trans k0; replace hb1 := hbW.trans (hb1.mono (by omega)))
      | (refine wpList_copy_splice (by rfl) _ _ _ _ (by rfl) 3 Try.underlying44 (by kernel_rfl) (some ⟨w1.heap.size, 0, none⟩) ao 6 6 n cap (by rfl) (by rfl) w1.heap.size 0 zer19.toList 41 (heap_alloc_new _ _) (R.map (Value.int .i64)) (by rw [hcsn]; exact (Nat.min_eq_left hn6).symm)
          (by
            intro h0
            rcases RdI_below hr (belowThen hb1 (Go.Joins.below_alloc1 w1 _)) with h | ⟨b, o, he, hlt, hc⟩
            · rw [h] at h0; simp at h0
            · refine ⟨rfl, ⟨b, o, none⟩, he, fun j v hj => ?_⟩
              rw [Addr.add_mid]
              have hjl : j < R.length := by have := (List.getElem?_eq_some_iff.1 hj).1; simpa using this
              rw [hc j hjl]
              simp only [List.getElem?_map, List.getElem?_eq_getElem hjl, Option.map_some, Option.some.injEq] at hj
              rw [← hj, List.getD_eq_getElem?_getD, List.getElem?_eq_getElem hjl]; rfl)
          (by rw [hcsn]; show 0 + n ≤ 19; omega) (by intro v hv; obtain ⟨x, -, rfl⟩ := List.mem_map.1 hv; rfl) (w.heap.size + 1) w1 (by exact Go.Joins.below_alloc1 w1 _ |>.mono (by have := hb1.size; omega)) (by have := hs1; omega) ?_
         rw [HS.out]
         intro w2 hG hb2
         replace k0 := (hb2.block w.heap.size (by omega)).trans k0
         replace hb2 := hb1.trans (hb2.mono (by omega)))
      | (refine wpList_load_row (by rfl) 41 _ (by rfl) w1.heap.size (by rfl) 41 _ (0, 0) _ hG.out Try.underlying41 (by rfl) (by rw [hsz]; kernel_rfl) ?_)
      | (refine wpList_store_row (by rfl) 41 _ _ (by rfl) w.heap.size A (by rfl) (by rfl) 41 zer19 k0 (by rw [hsz]; kernel_rfl) (by rw [hsz]; rfl) hone ?_))
    refine bodyPost_ret (v := .tuple #[.agg A, .bool true]) (results_cell_tmp_str (p := 2) (u := 3) (ty := 41) (by rfl) _ _ w.heap.size 41 A (0, 0) _ (by rfl) (heapRowSame _ _ _ _ _ k0) Try.underlying41 (by rw [hsz]; kernel_rfl) _ (by rfl)) rfl ⟨rfl, ?_⟩
    exact setRow_below hb2 (Nat.le_refl _) _
end Go.Proofs.Ytfjgleimdaailaa
