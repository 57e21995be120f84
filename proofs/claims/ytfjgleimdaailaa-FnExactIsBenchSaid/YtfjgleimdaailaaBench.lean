/- Contracts of the functions that make a bench out of a row. -/
import Derived.Test.YtfjgleimdaailaaRow
import Derived.Lib.Hide
import Derived.Deep.OwnRows
import Derived.Deep.WholeRow
import Derived.Laws.ResultCell
import Derived.Laws.CopyOwn
namespace Go.Proofs.Ytfjgleimdaailaa
open Go.RowKit

/-- The cells of a bench with the cells r 0 .. r 5, with no Fault and no count. -/
def benA (r : Nat → Int) : Array Value := #[.int .i64 (r 0), .int .i64 (r 1), .int .i64 (r 2), .int .i64 (r 3), .int .i64 (r 4), .int .i64 (r 5), .int .i64 0, .int .i64 0, .int .i64 0, .int .i64 0, .int .i64 0, .int .i64 0, .int .i64 0, .int .i64 0, .int .i64 0, .int .i64 0, .int .i64 0, .int .i64 0, .int .i64 0]
def zer19 : Array Value := #[.int .i64 0, .int .i64 0, .int .i64 0, .int .i64 0, .int .i64 0, .int .i64 0, .int .i64 0, .int .i64 0, .int .i64 0, .int .i64 0, .int .i64 0, .int .i64 0, .int .i64 0, .int .i64 0, .int .i64 0, .int .i64 0, .int .i64 0, .int .i64 0, .int .i64 0]
theorem benA_zero : benA (fun _ => 0) = zer19 := rfl
theorem benA_size (r : Nat → Int) : (benA r).size = 19 := rfl
theorem benA_get (r : Nat → Int) (i : Nat) (h : i < 19) : (benA r)[i]? = some (.int .i64 (if i < 6 then r i else 0)) := by
  match i, h with
  | 0, _ => rfl
  | 1, _ => rfl
  | 2, _ => rfl
  | 3, _ => rfl
  | 4, _ => rfl
  | 5, _ => rfl
  | 6, _ => rfl
  | 7, _ => rfl
  | 8, _ => rfl
  | 9, _ => rfl
  | 10, _ => rfl
  | 11, _ => rfl
  | 12, _ => rfl
  | 13, _ => rfl
  | 14, _ => rfl
  | 15, _ => rfl
  | 16, _ => rfl
  | 17, _ => rfl
  | 18, _ => rfl
  | n + 19, h => omega
theorem benA_one (r : Nat → Int) : (benA r).all (·.oneCell') = true := by simp [benA, Value.oneCell']
theorem heapRowSame (w : World) (g : Nat) (c c' : Array Value) (t : TypeId) (h : w.heap[g]? = some (.cells c t (0, 0))) : (w.setRow g c').heap[g]? = some (.cells c' t (0, 0)) := by
  simp [World.setRow, Array.getElem?_modify, h]
theorem results_cell_tmp_str {fn : Func} {p u : Tmp} {ty : TypeId} (h : fn.results = #[.cell p ty, .tmp u]) (tmps : Array Value) (w : World) (g : Nat) (t : TypeId) (cs : Array Value) (fr : Nat × Nat) (fs : Array Field)
    (hp : tmps.getD p undef = .pointer (some ⟨g, 0, none⟩)) (hg : w.heap[g]? = some (.cells cs t fr)) (hu : Try.prog.underlying ty = some (.struct fs))
    (hi : (Try.prog.info? ty).map (·.size) = some cs.size) (v : Value) (hv : tmps.getD u undef = v) : (results fn tmps).run Try.prog w = .ok (.tuple #[.agg cs, v]) w := by
  rw [results_cell_tmp h, hp, hv]
  simp [asAddr, run_loadVar_row w g t ty cs fr _ hg hu rfl hi, Result.andThen]
/-- The cells of the row, and zeros behind it. -/
def newZ (R : List Int) (j : Nat) : Int := if rowB R = true then R.getD j 0 else 0
/-- The first k cells of the row are laid. -/
def newF (R : List Int) (k j : Nat) : Value := .int .i64 (if j < k then R.getD j 0 else 0)
theorem setRow_below {B g : Nat} {w0 w : World} (hb : Below B w0 w) (hBg : B ≤ g) (cs : Array Value) : Below B w0 (w.setRow g cs) :=
  hb.trans ⟨rfl, rfl, rfl, by simp [World.setRow], fun k hk => by simp only [World.setRow, Array.getElem?_modify]; rw [if_neg (by omega)]⟩
set_option maxHeartbeats 1600000 in
set_option maxRecDepth 100000 in
theorem NewBenchS_any (ao : Option Addr) (n cap : Nat) (R : List Int) (w : World) (hr : RdI w ao R) (hn : R.length = n) (hm : n ≤ maxLen) :
    Calls Try.prog 23 #[.slice ao n cap] w fun e w' => e = .returned (.tuple #[.agg (benA (newZ R)), .bool (rowB R)]) ∧ Below w.heap.size w w' := by
  have hz := (zero_of_info (P := Try.prog) (t := 41) (v := .agg zer19) (n := 19) (by kernel_rfl)).1
  have HR := Lib.hid (fun W h => l2Row_any ao n cap R W h hn hm)
  have hlen := rowB_len (L := R)
  rw [hn] at hlen
  have hzz : rowB R = false → benA (newZ R) = zer19 := fun h => by rw [← benA_zero]; congr 1; funext j; unfold newZ; rw [h]; rfl
  have hpos : rowB R = true → ∀ j, newZ R j = R.getD j 0 := fun h j => by unfold newZ; rw [if_pos h]
  have hsz := benA_size (newZ R)
  have hone := benA_one (newZ R)
  have HGet := Lib.hid (fun i h => benA_get (newZ R) i h)
  have HN := Lib.hid hn
  have hone0 : zer19.all (·.oneCell') = true := benA_one (fun _ => 0)
  generalize benA (newZ R) = A at hzz hsz hone HGet ⊢
  generalize rowB R = q at HR hlen hzz hpos ⊢
  have k1 : ((w.alloc (.cells zer19 41)).alloc (.cells zer19 41)).heap[w.heap.size + 1]? = some (.cells zer19 41 (0, 0)) := by
    have h := heap_alloc_new (w.alloc (.cells zer19 41)) (.cells zer19 41)
    rw [heapAlloc] at h
    exact h
  have k0 : ((w.alloc (.cells zer19 41)).alloc (.cells zer19 41)).heap[w.heap.size]? = some (.cells zer19 41 (0, 0)) := by
    rw [Below.heap_alloc _ _ _ (by simp)]
    exact heap_alloc_new _ _
  obtain ⟨W2, hW2, hb2, j0, j1⟩ : ∃ W2 : World, ((w.alloc (.cells zer19 41)).alloc (.cells zer19 41)).setRow (w.heap.size + 1) zer19 = W2 ∧ Below w.heap.size w W2 ∧ W2.heap[w.heap.size]? = some (.cells zer19 41 (0, 0)) ∧ W2.heap[w.heap.size + 1]? = some (.cells zer19 41 (0, 0)) :=
    ⟨_, rfl, setRow_below (Go.Joins.below_alloc2 w _ _) (by omega) _, by rw [setRow_other _ _ _ _ (by omega)]; exact k0, heapRowSame _ _ _ _ _ k1⟩
  rcases q with _ | _
  · have hA := hzz rfl
    subst hA
    clear hlen hzz hpos HGet
    have hA1 := @cellAlloc; have hA2 := @frozenAlloc; have hA3 := @setCellAlloc; go_enter Try.func23, Try.ntmps23
    go_wp2_with (first | (refine wpList_store_row (by rfl) 41 _ _ (by rfl) (w.heap.size + 1) zer19 (by rfl) (by rfl) 41 zer19 k1 (by kernel_rfl) rfl hone ?_; rw [hW2]) | (go_at_call 59; refine (HR.out _ (RdI_below hr hb2)).mono ?_; rintro e w' ⟨rfl, rfl⟩) | (refine wpList_load_row (by rfl) 41 _ (by rfl) (w.heap.size + 1) (by rfl) 41 _ (0, 0) _ j1 Try.underlying41 (by rfl) (by kernel_rfl) ?_) | (refine wpList_store_row (by rfl) 41 _ _ (by rfl) w.heap.size zer19 (by rfl) (by rfl) 41 zer19 j0 (by kernel_rfl) rfl hone ?_))
    refine bodyPost_ret (v := .tuple #[.agg zer19, .bool false]) (results_cell_tmp_str (p := 2) (u := 3) (ty := 41) (by rfl) _ _ w.heap.size 41 zer19 (0, 0) _ (by rfl) (heapRowSame _ _ _ _ _ j0) Try.underlying41 (by kernel_rfl) _ (by rfl)) rfl ⟨rfl, ?_⟩
    exact setRow_below hb2 (Nat.le_refl _) _
  · have hn6 := hlen rfl
    have hpos := hpos rfl
    have HPos := Lib.hid hpos
    clear hlen hzz hpos
    have hrow : W2.rowIs (w.heap.size + 1) 41 19 (newF R 0) := ⟨zer19, j1, rfl, fun i hi => by
      have h := benA_get (fun _ => 0) i hi
      rw [benA_zero] at h
      rw [h]
      unfold newF
      have h6 : (if i < 6 then (0 : Int) else 0) = 0 := by split <;> rfl
      rw [h6, if_neg (Nat.not_lt_zero i)]⟩
    have hA1 := @cellAlloc; have hA2 := @frozenAlloc; have hA3 := @setCellAlloc; go_enter Try.func23, Try.ntmps23
    go_wp2_with (first | (refine wpList_store_row (by rfl) 41 _ _ (by rfl) (w.heap.size + 1) zer19 (by rfl) (by rfl) 41 zer19 k1 (by kernel_rfl) rfl hone0 ?_; rw [hW2]) | (go_at_call 59; refine (HR.out _ (RdI_below hr hb2)).mono ?_; rintro e w' ⟨rfl, rfl⟩))
    go_loopw [5] (fun i wr => ∃ k : Nat, k ≤ n ∧ i = .int .i64 k ∧ wr.rowIs (w.heap.size + 1) 41 19 (newF R k) ∧ wr.heap[w.heap.size]? = some (.cells zer19 41 (0, 0)) ∧ Below w.heap.size w wr) (fun i _ => n - (intOf i).toNat)
    case atStart => exact ⟨0, by omega, rfl, hrow, j0, hb2⟩
    case round =>
      obtain ⟨k, hk, rfl, hrk, hj0, hbw⟩ := hrel
      clear hrow
      by_cases hlt : k < n
      · rcases RdI_below hr hbw with h | ⟨b1, o1, rfl, hb1, hc1⟩
        · have := HN.out; rw [h] at this; simp at this; omega
        have hx := hc1 k (by rw [HN.out]; omega)
        have hset : (wr.setCell ⟨w.heap.size + 1, k, none⟩ (.int .i64 (R.getD k 0))).rowIs (w.heap.size + 1) 41 19 (newF R (k + 1)) := by
          refine (hrk.set k _).congr fun j hj => ?_
          unfold newF
          by_cases h1 : j = k
          · subst h1; rw [if_pos rfl, if_pos (by omega)]
          · rw [if_neg h1]
            by_cases h2 : j < k
            · rw [if_pos h2, if_pos (by omega)]
            · rw [if_neg h2, if_neg (by omega)]
        have hcell := hrk.cell (i := k) (by omega)
        have hfr := hrk.frozen k
        have hbs : Below w.heap.size w (wr.setCell ⟨w.heap.size + 1, k, none⟩ (.int .i64 (R.getD k 0))) := hbw.setCell (by show w.heap.size ≤ w.heap.size + 1; omega) _
        have hj0' : (wr.setCell ⟨w.heap.size + 1, k, none⟩ (.int .i64 (R.getD k 0))).heap[w.heap.size]? = some (.cells zer19 41 (0, 0)) := by rw [Below.heap_setCell _ _ _ _ (by first | omega | (simp; omega) | simp)]; exact hj0
        generalize R.getD k 0 = y at *
        generalize newF R k k = v0 at hcell
        have hk6 : (k : Int) < 6 := by omega
        have hk5 : k < 6 := by omega
        clear hc1
        go_wp2
        go_roundw
        case rel => exact ⟨k + 1, by omega, by go_num, hset, hj0', hbs⟩
        case measure => simp [intOf]; omega
      · have hkn : k = n := by omega
        subst hkn
        obtain ⟨C, hC, hCs, hCi⟩ := hrk
        obtain rfl : C = A := by
          apply Array.ext_getElem?
          intro j
          by_cases hj : j < 19
          · rw [hCi j hj, HGet.out j hj, HPos.out j]
            unfold newF
            by_cases h1 : j < k
            · have h6 : j < 6 := by omega
              simp only [h1, h6, if_true]
            · have h0 : (if j < 6 then R.getD j 0 else 0) = 0 := by
                split
                · rw [List.getD_eq_getElem?_getD, List.getElem?_eq_none (by rw [HN.out]; omega)]; rfl
                · rfl
              rw [h0, if_neg h1]
          · rw [Array.getElem?_eq_none (by omega), Array.getElem?_eq_none (by omega)]
        clear hCi
        go_wp2_with (first | (refine wpList_load_row (by rfl) 41 _ (by rfl) (w.heap.size + 1) (by rfl) 41 _ (0, 0) _ hC Try.underlying41 (by rfl) (by rw [hsz]; kernel_rfl) ?_) | (refine wpList_store_row (by rfl) 41 _ _ (by rfl) w.heap.size C (by rfl) (by rfl) 41 zer19 hj0 (by rw [hsz]; kernel_rfl) (by rw [hsz]; rfl) hone ?_))
        refine bodyPost_ret (v := .tuple #[.agg C, .bool true]) (results_cell_tmp_str (p := 2) (u := 3) (ty := 41) (by rfl) _ _ w.heap.size 41 C (0, 0) _ (by rfl) (heapRowSame _ _ _ _ _ hj0) Try.underlying41 (by rw [hsz]; kernel_rfl) _ (by rfl)) rfl ⟨rfl, ?_⟩
        exact setRow_below hbw (Nat.le_refl _) _
end Go.Proofs.Ytfjgleimdaailaa
