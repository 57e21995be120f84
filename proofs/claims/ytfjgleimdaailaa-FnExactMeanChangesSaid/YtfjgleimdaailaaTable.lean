/- The contract of the function that gives the changes from each digit to each other one. -/
import Derived.Test.YtfjgleimdaailaaCount
import Derived.Test.YtfjgleimdaailaaDigit
import Derived.Test.YtfjgleimdaailaaIdx
import Derived.Deep.OwnRows
import Derived.Deep.RegionWith
import Derived.Deep.WholeRow
namespace Go.Proofs.Ytfjgleimdaailaa
open Go.RowKit

/-- The bars that change between two digits. -/
def chg (a b : Nat) : Nat := cnt (digC a ^^^ digC b)
/-- The changes, row by row. -/
def tab (j : Nat) : Nat := chg (j / 10) (j % 10)
def tabA : Array Value := ((List.range 100).map fun j => Value.int .i64 (tab j : Int)).toArray
def zeros100 : Array Value := (List.replicate 100 (Value.int .i64 0)).toArray
/-- The table of which the first m places are filled. -/
def tabF (m j : Nat) : Value := .int .i64 (if j < m then (tab j : Int) else 0)
theorem zeros_get (i : Nat) (h : i < 100) : zeros100[i]? = some (.int .i64 0) := by
  unfold zeros100
  rw [List.getElem?_toArray, List.getElem?_replicate, if_pos h]
theorem tabA_get (i : Nat) (h : i < 100) : tabA[i]? = some (.int .i64 (tab i : Int)) := by
  unfold tabA
  rw [List.getElem?_toArray, List.getElem?_map, List.getElem?_range h]; rfl
theorem tabA_size : tabA.size = 100 := by simp [tabA]
theorem heapRowSame (w : World) (g : Nat) (c c' : Array Value) (t : TypeId) (h : w.heap[g]? = some (.cells c t (0, 0))) : (w.setRow g c').heap[g]? = some (.cells c' t (0, 0)) := by
  simp [World.setRow, Array.getElem?_modify, h]
theorem grownTrans {a b c : World} {r : Option Nat} (h : a.grownBy b r) (k : b.grownBy c r) : a.grownBy c r :=
  ⟨k.os.trans h.os, k.tape.trans h.tape, k.output.trans h.output, Nat.le_trans h.size k.size, fun i hi hr => (k.block i (Nat.lt_of_lt_of_le hi h.size) hr).trans (h.block i hi hr)⟩
theorem grownDrew {a b : World} {r : Option Nat} (h : a.grownBy b r) : a.grownBy b.drew r := grownTrans h ⟨rfl, rfl, rfl, Nat.le_refl _, fun _ _ _ => rfl⟩
set_option maxHeartbeats 1000000 in
set_option maxRecDepth 100000 in
theorem ChangeTable_any (w : World) : Calls Try.prog 70 #[] w fun e w' => e = .returned (.agg tabA) ∧ Below w.heap.size w w' := by
  have hz := (zero_of_info (P := Try.prog) (t := 86) (v := .agg zeros100) (n := 100) (by kernel_rfl)).1
  have hA1 := @cellAlloc; have hA2 := @frozenAlloc; have hA3 := @setCellAlloc; go_enter Try.func70, Try.ntmps70
  go_wp2_with (first | (go_at_call 77; refine (digitCells_any _).mono ?_; rintro e w1 ⟨rfl, hb1⟩; have hs1 := hb1.size; (try simp only [heapAlloc, heapSet] at hs1); have hc1 := cellRule hb1; have hf1 := frozenRule hb1))
  have hB : w.heap.size + 2 ≤ w1.heap.size := by have := hb1.size; simp at this; omega
  have k0 : w1.heap[w.heap.size]? = some (.cells zeros100 86 (0, 0)) := by
    rw [hb1.block _ (by simp; omega), Below.heap_alloc _ _ _ (by simp)]; exact heap_alloc_new _ _
  have k1 : w1.heap[w.heap.size + 1]? = some (.cells zeros100 86 (0, 0)) := by
    rw [hb1.block _ (by simp)]
    have := heap_alloc_new (w.alloc (.cells zeros100 86)) (.cells zeros100 86)
    simpa using this
  have hbW : Below w.heap.size w (w1.alloc (.cells #[.int .i64 63, .int .i64 6, .int .i64 91, .int .i64 79, .int .i64 102, .int .i64 109, .int .i64 125, .int .i64 7, .int .i64 127, .int .i64 111] 85)) := by (repeat (first | assumption | exact Below.refl _ _ | refine belowThen ?_ (Go.Joins.below_alloc1 _ _) | apply Below.drew | refine belowThen ?_ (by assumption) | refine belowThen ?_ (Go.Joins.below_draws _ _ _) | refine Below.setCell ?_ (by first | exact Nat.le_refl _ | (simp; done) | (simp; omega)) _))
  have j0 : (w1.alloc (.cells #[.int .i64 63, .int .i64 6, .int .i64 91, .int .i64 79, .int .i64 102, .int .i64 109, .int .i64 125, .int .i64 7, .int .i64 127, .int .i64 111] 85)).heap[w.heap.size]? = some (.cells zeros100 86 (0, 0)) := by rw [Below.heap_alloc _ _ _ (by omega)]; exact k0
  have j1 : (w1.alloc (.cells #[.int .i64 63, .int .i64 6, .int .i64 91, .int .i64 79, .int .i64 102, .int .i64 109, .int .i64 125, .int .i64 7, .int .i64 127, .int .i64 111] 85)).heap[w.heap.size + 1]? = some (.cells zeros100 86 (0, 0)) := by rw [Below.heap_alloc _ _ _ (by omega)]; exact k1
  have j2 : (w1.alloc (.cells #[.int .i64 63, .int .i64 6, .int .i64 91, .int .i64 79, .int .i64 102, .int .i64 109, .int .i64 125, .int .i64 7, .int .i64 127, .int .i64 111] 85)).heap[w1.heap.size]? = some (.cells #[.int .i64 63, .int .i64 6, .int .i64 91, .int .i64 79, .int .i64 102, .int .i64 109, .int .i64 125, .int .i64 7, .int .i64 127, .int .i64 111] 85 (0, 0)) := heap_alloc_new _ _
  have j3 : w1.heap.size < (w1.alloc (.cells #[.int .i64 63, .int .i64 6, .int .i64 91, .int .i64 79, .int .i64 102, .int .i64 109, .int .i64 125, .int .i64 7, .int .i64 127, .int .i64 111] 85)).heap.size := by simp
  generalize w1.alloc (.cells #[.int .i64 63, .int .i64 6, .int .i64 91, .int .i64 79, .int .i64 102, .int .i64 109, .int .i64 125, .int .i64 7, .int .i64 127, .int .i64 111] 85) = W2 at hbW j0 j1 j2 j3 ⊢
  generalize w1.heap.size = B2 at hB j2 j3 ⊢
  clear hs1 hc1 hf1 hb1 k0 k1 hz
  have hrow : W2.rowIs (w.heap.size + 1) 86 100 (tabF 0) := ⟨zeros100, j1, by simp [zeros100], fun i hi => by rw [zeros_get i hi]; rfl⟩
  have hmono : w.heap.size ≤ W2.heap.size := hbW.size
  go_loopw [9] (fun u wr => ∃ i : Nat, i ≤ 10 ∧ u = .int .i64 i ∧ wr.rowIs (w.heap.size + 1) 86 100 (tabF (10 * i)) ∧ W2.grownBy wr (some (w.heap.size + 1))) (fun u _ => 10 - (intOf u).toNat)
  case atStart => exact ⟨0, by omega, rfl, hrow, World.grownBy.refl _ _⟩
  case round =>
    obtain ⟨i, hi, rfl, hri, hgi⟩ := hrel
    by_cases hlt : i < 10
    · have hd : decide ((i : Int) < 10) = true := by simp; omega
      have hdg := digAgg i hlt
      have hlow : wr.heap[B2]? = some (.cells #[.int .i64 63, .int .i64 6, .int .i64 91, .int .i64 79, .int .i64 102, .int .i64 109, .int .i64 125, .int .i64 7, .int .i64 127, .int .i64 111] 85 (0, 0)) := (hgi.block B2 j3 (by simp; omega)).trans j2
      go_wp2_with (refine wpList_load_row (by rfl) 85 _ (by rfl) B2 (by rfl) 85 _ (0, 0) _ hlow Try.underlying85 (by rfl) (by kernel_rfl) ?_)
      obtain ⟨wo, hwo⟩ : ∃ wo : World, wo = wr := ⟨_, rfl⟩
      subst hwo
      go_loopw [14] (fun u wi => ∃ k : Nat, k ≤ 10 ∧ u = .int .i64 k ∧ wi.rowIs (w.heap.size + 1) 86 100 (tabF (10 * i + k)) ∧ W2.grownBy wi (some (w.heap.size + 1))) (fun u _ => 10 - (intOf u).toNat)
      case atStart => exact ⟨0, by omega, rfl, hri, hgi⟩
      case round =>
        obtain ⟨k, hk, rfl, hrk, hgk⟩ := hrel
        by_cases hlk : k < 10
        · have hdk := digAgg k hlk
          have hx := xor64 (digC i) (digC k) (by have := digC_lt i; omega) (by have := digC_lt k; omega)
          have hcell := hrk.cell (i := i * 10 + k) (by omega)
          have hfr := hrk.frozen (i * 10 + k)
          have hset : (wr.setCell ⟨w.heap.size + 1, i * 10 + k, none⟩ (.int .i64 (cnt (digC i ^^^ digC k)))).rowIs (w.heap.size + 1) 86 100 (tabF (10 * i + (k + 1))) := by
            refine (hrk.set (i * 10 + k) _).congr fun j hj => ?_
            unfold tabF
            split
            · rename_i hj2
              rw [if_pos (by omega)]
              subst hj2
              have e1 : (i * 10 + k) / 10 = i := by omega
              have e2 : (i * 10 + k) % 10 = k := by omega
              simp only [tab, chg, e1, e2]
            · by_cases hjm : j < 10 * i + k
              · rw [if_pos hjm, if_pos (by omega)]
              · rw [if_neg hjm, if_neg (by omega)]
          have hgs : W2.grownBy (wr.setCell ⟨w.heap.size + 1, i * 10 + k, none⟩ (.int .i64 (cnt (digC i ^^^ digC k)))) (some (w.heap.size + 1)) :=
            grownTrans hgk ⟨rfl, rfl, rfl, by simp [World.setCell], fun b hb hne => Below.heap_setCell _ _ _ _ (by simpa using hne)⟩
          go_wp2_with fail
          go_region_with ((go_at_call 80; refine (count_any (digC i ^^^ digC k) (Nat.xor_lt_two_pow (n := 7) (digC_lt i) (digC_lt k)) _).mono ?_; rintro e w' ⟨rfl, rfl⟩))
          all_goals
            go_wp2
            go_roundw
            case rel => exact ⟨k + 1, by omega, by go_num, hset, grownDrew hgs⟩
            case measure => simp [intOf]; omega
        · have hk10 : k = 10 := by omega
          subst hk10
          go_wp2
          go_roundw
          case rel => exact ⟨i + 1, by omega, by go_num, hrk, hgk⟩
          case measure => simp [intOf]; omega
    · have hi10 : i = 10 := by omega
      subst hi10
      obtain ⟨C, hC, hCs, hCi⟩ := hri
      obtain rfl : C = tabA := by
        apply Array.ext_getElem?
        intro j
        by_cases hj : j < 100
        · rw [hCi j hj, tabA_get j hj]; unfold tabF; rw [if_pos hj]
        · rw [Array.getElem?_eq_none (by omega), Array.getElem?_eq_none (by rw [tabA_size]; omega)]
      have h0 : wr.heap[w.heap.size]? = some (.cells zeros100 86 (0, 0)) := (hgi.block _ (by have := World.rowIs.lt hrow; omega) (by simp)).trans j0
      go_wp2_with (first | (refine wpList_load_row (by rfl) 86 _ (by rfl) (w.heap.size + 1) (by rfl) 86 _ (0, 0) _ hC Try.underlying86 (by rfl) (by rw [tabA_size]; kernel_rfl) ?_) | (refine wpList_store_row (by rfl) 86 _ _ (by rfl) w.heap.size tabA (by rfl) (by rfl) 86 zeros100 h0 (by rw [tabA_size]; kernel_rfl) (by rw [tabA_size]; rfl) (by simp [tabA, Value.oneCell']) ?_))
      refine bodyPost_ret (v := .agg tabA) (results_cell_row (p := 0) (ty := 86) (by rfl) _ _ w.heap.size 86 tabA (0, 0) _ (by rfl) (heapRowSame _ _ _ _ _ h0) Try.underlying86 (by rfl) (by rw [tabA_size]; kernel_rfl)) rfl ⟨rfl, ?_⟩
      exact (hbW.grown hgi hmono (fun k hk => by simp at hk; omega)).trans ⟨rfl, rfl, rfl, by simp [World.setRow], fun k hk => by simp only [World.setRow, Array.getElem?_modify]; rw [if_neg (by omega)]⟩
end Go.Proofs.Ytfjgleimdaailaa
