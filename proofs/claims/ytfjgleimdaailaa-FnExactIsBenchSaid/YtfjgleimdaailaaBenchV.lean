/- Contracts of the functions on a whole bench. -/
import Derived.Test.YtfjgleimdaailaaBenchI
import Derived.Test.YtfjgleimdaailaaFaults
import Derived.BigRegion
namespace Go.Proofs.Ytfjgleimdaailaa
open Go.RowKit

/-- The cells of a bench, all given by one function. -/
def benT (F : Nat → Int) : Array Value := #[.int .i64 (F 0), .int .i64 (F 1), .int .i64 (F 2), .int .i64 (F 3), .int .i64 (F 4), .int .i64 (F 5), .int .i64 (F 6), .int .i64 (F 7), .int .i64 (F 8), .int .i64 (F 9), .int .i64 (F 10), .int .i64 (F 11), .int .i64 (F 12), .int .i64 (F 13), .int .i64 (F 14), .int .i64 (F 15), .int .i64 (F 16), .int .i64 (F 17), .int .i64 (F 18)]
theorem benT_size (F : Nat → Int) : (benT F).size = 19 := rfl
theorem benT_get (F : Nat → Int) (i : Nat) (h : i < 19) : (benT F)[i]? = some (.int .i64 (F i)) := by
  match i, h with
  | 0, _ => rfl
  | 1, _ => rfl
  | 2, _ => rfl
  | 3, _ => rfl
  | 4, _ => rfl
  | 5, _ => rfl
  | 6, _ => rfl
  | 7, _ => rfl
  | 8, _ => rfl
  | 9, _ => rfl
  | 10, _ => rfl
  | 11, _ => rfl
  | 12, _ => rfl
  | 13, _ => rfl
  | 14, _ => rfl
  | 15, _ => rfl
  | 16, _ => rfl
  | 17, _ => rfl
  | 18, _ => rfl
  | n + 19, h => omega
theorem benT_one (F : Nat → Int) : (benT F).all (·.oneCell') = true := by simp [benT, Value.oneCell']
theorem boxRow (F : Nat → Int) (w : World) (t : TypeId) : (w.alloc (.cells (benT F) t)).rowIs w.heap.size t 19 (fun j => .int .i64 (F j)) := ⟨benT F, heap_alloc_new _ _, rfl, fun i hi => benT_get F i hi⟩

set_option maxHeartbeats 800000 in
theorem l12Fault_any (F : Nat → Int) (k : Nat) (hk : k < 6) (w : World) : Calls Try.prog 72 #[.agg (benT F), .int .i64 k] w fun e w' => e = .returned (.agg #[.int .i64 (F (6 + k)), .int .i64 (F (12 + k))]) ∧ Below w.heap.size w w' := by
  have hr := boxRow F w 41
  have hr2 := hr.alloc (.cells #[.int .i64 0, .int .i64 0] 26)
  have e6 := hr2.cell (i := 6 + k) (by omega)
  have e12 := hr2.cell (i := 12 + k) (by omega)
  have hb := Go.Joins.below_alloc2 w (.cells (benT F) 41) (.cells #[.int .i64 0, .int .i64 0] 26)
  clear hr hr2
  generalize F (6 + k) = d at e6 ⊢
  generalize F (12 + k) = l at e12 ⊢
  generalize benT F = A at *
  have hc2 : (k : Int) < 6 := by omega
  go_enter Try.func72, Try.ntmps72
  go_wp2_with fail
  go_region
  go_wp2
  exact bodyPost_ret (v := .agg #[.int .i64 d, .int .i64 l]) (by simp [results, Try.results72, go_sem]) rfl ⟨rfl, by (repeat (first | assumption | exact Below.refl _ _ | refine belowThen ?_ (Go.Joins.below_alloc1 _ _) | apply Below.drew | refine belowThen ?_ (by assumption) | refine belowThen ?_ (Go.Joins.below_draws _ _ _) | refine Below.setCell ?_ (by first | exact Nat.le_refl _ | (simp; done) | (simp; omega)) _))⟩
set_option maxHeartbeats 800000 in
theorem fault_any (F : Nat → Int) (k : Nat) (hk : k < 6) (w : World) : Calls Try.prog 76 #[.agg (benT F), .int .i64 k] w fun e w' => e = .returned (.agg #[.int .i64 (F (6 + k)), .int .i64 (F (12 + k))]) ∧ Below w.heap.size w w' := by
  have hr := boxRow F w 41
  have hr2 := hr.alloc (.cells #[.int .i64 0, .int .i64 0] 26)
  have e6 := hr2.cell (i := 6 + k) (by omega)
  have e12 := hr2.cell (i := 12 + k) (by omega)
  have hb := Go.Joins.below_alloc2 w (.cells (benT F) 41) (.cells #[.int .i64 0, .int .i64 0] 26)
  clear hr hr2
  generalize F (6 + k) = d at e6 ⊢
  generalize F (12 + k) = l at e12 ⊢
  generalize benT F = A at *
  have hc2 : (k : Int) < 6 := by omega
  go_enter Try.func76, Try.ntmps76
  go_wp2_with fail
  go_region
  go_wp2
  exact bodyPost_ret (v := .agg #[.int .i64 d, .int .i64 l]) (by simp [results, Try.results76, go_sem]) rfl ⟨rfl, by (repeat (first | assumption | exact Below.refl _ _ | refine belowThen ?_ (Go.Joins.below_alloc1 _ _) | apply Below.drew | refine belowThen ?_ (by assumption) | refine belowThen ?_ (Go.Joins.below_draws _ _ _) | refine Below.setCell ?_ (by first | exact Nat.le_refl _ | (simp; done) | (simp; omega)) _))⟩
theorem results_cell_one {fn : Func} {p : Tmp} {ty : TypeId} (h : fn.results = #[.cell p ty]) (tmps : Array Value) (w : World) (g : Nat) (t : TypeId) (cs : Array Value) (fr : Nat × Nat) (d : TypeDesc)
    (hp : tmps.getD p undef = .pointer (some ⟨g, 0, none⟩)) (hg : w.heap[g]? = some (.cells cs t fr)) (hu : Try.prog.underlying ty = some d) (hd : d.isRow = true)
    (hi : (Try.prog.info? ty).map (·.size) = some cs.size) : (results fn tmps).run Try.prog w = .ok (.agg cs) w := by
  have hr : w.rangeAt g 0 cs.toList := fun j v hj => by rw [cell_of_row w g _ _ t fr hg]; simpa using hj
  have h1 := run_loadVar_mid w g 0 ty cs.toList d hr hu hd (by rw [hi]; simp)
  have hp' : tmps[p]?.getD undef = .pointer (some ⟨g, 0, none⟩) := by simpa using hp
  simp only [results, h]
  simp [Sem.run_bind, Result.andThen, hp', asAddr, h1]
def zer6 : Array Value := #[.int .i64 0, .int .i64 0, .int .i64 0, .int .i64 0, .int .i64 0, .int .i64 0]
theorem zer6_get (i : Nat) (h : i < 6) : zer6[i]? = some (.int .i64 0) := by
  have := c6_get (fun _ => 0) i h
  simpa [zer6, c6] using this
set_option maxHeartbeats 1000000 in
theorem toIntA6_any (f : Nat → Int) (w : World) : Calls Try.prog 54 #[.agg (c6 f).toArray] w fun e w' => e = .returned (.agg (c6 f).toArray) ∧ Below w.heap.size w w' := by
  have hz := (zero_of_info (P := Try.prog) (t := 37) (v := .agg zer6) (n := 6) (by kernel_rfl)).1
  have hsz : (c6 f).toArray.size = 6 := rfl
  have hget : ∀ i, i < 6 → (c6 f).toArray[i]? = some (.int .i64 (f i)) := fun i h => by simpa using c6_get f i h
  have hone : (c6 f).toArray.all (·.oneCell') = true := by simp [c6, Value.oneCell']
  have hzs : zer6.size = 6 := rfl
  generalize (c6 f).toArray = A at hsz hget hone ⊢
  have hrow0 : (((w.alloc (.cells A 37)).alloc (.cells zer6 37)).alloc (.cells zer6 37)).rowIs w.heap.size 37 6 (fun j => .int .i64 (f j)) :=
    World.rowIs.alloc (World.rowIs.alloc ⟨A, heap_alloc_new _ _, hsz, hget⟩ _) _
  have hr1 : (((w.alloc (.cells A 37)).alloc (.cells zer6 37)).alloc (.cells zer6 37)).heap[w.heap.size + 1]? = some (.cells zer6 37 (0, 0)) := by
    rw [Below.heap_alloc _ _ _ (by simp)]
    have h := heap_alloc_new (w.alloc (.cells A 37)) (.cells zer6 37); rw [heapAlloc] at h; exact h
  have hrow2 : (((w.alloc (.cells A 37)).alloc (.cells zer6 37)).alloc (.cells zer6 37)).rowIs (w.heap.size + 2) 37 6 (fun j => .int .i64 (if j < 0 then f j else 0)) :=
    ⟨zer6, by have h := heap_alloc_new ((w.alloc (.cells A 37)).alloc (.cells zer6 37)) (.cells zer6 37); rw [heapAlloc, heapAlloc] at h; exact h, rfl, fun i hi => by rw [zer6_get i hi]; simp⟩
  have hb0 : Below w.heap.size w (((w.alloc (.cells A 37)).alloc (.cells zer6 37)).alloc (.cells zer6 37)) := by (repeat (first | assumption | exact Below.refl _ _ | refine belowThen ?_ (Go.Joins.below_alloc1 _ _) | apply Below.drew | refine belowThen ?_ (by assumption) | refine belowThen ?_ (Go.Joins.below_draws _ _ _) | refine Below.setCell ?_ (by first | exact Nat.le_refl _ | (simp; done) | (simp; omega)) _))
  obtain ⟨W, hW⟩ : ∃ W, ((w.alloc (.cells A 37)).alloc (.cells zer6 37)).alloc (.cells zer6 37) = W := ⟨_, rfl⟩
  rw [hW] at hrow0 hrow2 hb0 hr1
  have HGet := Lib.hid hget
  clear hget
  have hA1 := @cellAlloc; have hA2 := @frozenAlloc; have hA3 := @setCellAlloc; go_enter Try.func54, Try.ntmps54
  go_wp2
  clear hW
  go_loopw [4] (fun i wr => ∃ k : Nat, k ≤ 6 ∧ i = .int .i64 k ∧ wr.rowIs w.heap.size 37 6 (fun j => .int .i64 (f j)) ∧ wr.heap[w.heap.size + 1]? = some (.cells zer6 37 (0, 0)) ∧ wr.rowIs (w.heap.size + 2) 37 6 (fun j => .int .i64 (if j < k then f j else 0)) ∧ Below w.heap.size w wr) (fun i _ => 6 - (intOf i).toNat)
  case atStart => exact ⟨0, by omega, rfl, hrow0, hr1, hrow2, hb0⟩
  case round =>
    obtain ⟨k, hk, rfl, h0, h1, h2, hbw⟩ := hrel
    clear hrow0 hrow2 hb0 hr1
    by_cases hlt : k < 6
    · have e0 := h0.cell hlt
      have hset : (wr.setCell ⟨w.heap.size + 2, k, none⟩ (.int .i64 (f k))).rowIs (w.heap.size + 2) 37 6 (fun j => .int .i64 (if j < k + 1 then f j else 0)) := by
        refine (h2.set k _).congr fun j hj => ?_
        by_cases h1 : j = k
        · subst h1; rw [if_pos rfl, if_pos (by omega)]
        · rw [if_neg h1]
          by_cases h2 : j < k
          · rw [if_pos h2, if_pos (by omega)]
          · rw [if_neg h2, if_neg (by omega)]
      have hcell := h2.cell hlt
      have hfr := h2.frozen k
      have k0 : (wr.setCell ⟨w.heap.size + 2, k, none⟩ (.int .i64 (f k))).rowIs w.heap.size 37 6 (fun j => .int .i64 (f j)) := h0.setOther (by show w.heap.size ≠ w.heap.size + 2; omega) _
      have k1 : (wr.setCell ⟨w.heap.size + 2, k, none⟩ (.int .i64 (f k))).heap[w.heap.size + 1]? = some (.cells zer6 37 (0, 0)) := by rw [Below.heap_setCell _ _ _ _ (by first | omega | (simp; omega) | simp)]; exact h1
      have hbs : Below w.heap.size w (wr.setCell ⟨w.heap.size + 2, k, none⟩ (.int .i64 (f k))) := hbw.setCell (by show w.heap.size ≤ w.heap.size + 2; omega) _
      generalize f k = y at *
      generalize (if k < k then y else 0) = v0 at hcell
      have hk6 : (k : Int) < 6 := by omega
      clear h0 h1 h2
      go_wp2
      go_roundw
      case rel => exact ⟨k + 1, by omega, by go_num, k0, k1, hset, hbs⟩
      case measure => simp [intOf]; omega
    · have hk6 : k = 6 := by omega
      subst hk6
      obtain ⟨C, hC, hCs, hCi⟩ := h2
      obtain rfl : C = A := by
        apply Array.ext_getElem?
        intro j
        by_cases hj : j < 6
        · rw [hCi j hj, HGet.out j hj]; simp [hj]
        · rw [Array.getElem?_eq_none (by omega), Array.getElem?_eq_none (by omega)]
      clear hCi
      go_wp2_with (first | (refine wpList_load_row (by rfl) 37 _ (by rfl) (w.heap.size + 2) (by rfl) 37 _ (0, 0) _ hC Try.underlying37 (by rfl) (by rw [hsz]; kernel_rfl) ?_) | (refine wpList_store_row (by rfl) 37 _ _ (by rfl) (w.heap.size + 1) C (by rfl) (by rfl) 37 zer6 h1 (by rw [hsz]; kernel_rfl) (by rw [hsz, hzs]) hone ?_))
      refine bodyPost_ret (v := .agg C) (results_cell_one (p := 2) (ty := 37) (by rfl) _ _ (w.heap.size + 1) 37 C (0, 0) _ (by rfl) (heapRowSame _ _ _ _ _ h1) Try.underlying37 rfl (by rw [hsz]; kernel_rfl)) rfl ⟨rfl, ?_⟩
      exact setRow_below hbw (by omega) _
end Go.Proofs.Ytfjgleimdaailaa
