/- Contracts of the library's trimming of a text by the letters that can be shown. -/
import Derived.Test.YtfdmcnnjifggnabGreatDoorBase
import Derived.Lib.Hide
import Derived.Lib.Bytealg
import Derived.Deep.OwnRows
import Derived.Deep.WholeRow
import Derived.Laws.ResultCell
import Derived.Deep.QuietTactic
import Derived.BigQuiet
namespace Go.Proofs.YtfdmcnnjifggnabGreatDoor
open Go.RowKit

def abcB : ByteArray := ⟨#[97, 98, 99, 100, 101, 102, 104, 106, 108, 110, 111, 112, 114, 116, 117, 121]⟩
def abcN : List Nat := [97, 98, 99, 100, 101, 102, 104, 106, 108, 110, 111, 112, 114, 116, 117, 121]
/-- The byte is a letter. -/
def isL (b : Nat) : Bool := abcN.contains b
def isP (i b : Nat) : Bool := (abcN.take i).contains b
def setArr : Array Value := ((List.range 256).map fun j => Value.bool (isL j)).toArray
def falses : Array Value := (List.replicate 256 (Value.bool false)).toArray
theorem setArr_get (i : Nat) (h : i < 256) : setArr[i]? = some (.bool (isL i)) := by
  unfold setArr
  rw [List.getElem?_toArray, List.getElem?_map, List.getElem?_range h]; rfl
theorem setArr_size : setArr.size = 256 := by simp [setArr]
theorem falses_get (i : Nat) (h : i < 256) : falses[i]? = some (.bool false) := by
  unfold falses
  rw [List.getElem?_toArray, List.getElem?_replicate, if_pos h]
theorem isP_succ (i b : Nat) (hi : i < 16) : isP (i + 1) b = (isP i b || b == abcN.getD i 0) := by
  unfold isP
  rw [List.take_add_one, List.getElem?_eq_getElem (by show i < 16; exact hi), List.getD_eq_getElem?_getD, List.getElem?_eq_getElem (by show i < 16; exact hi)]
  rw [List.contains_append]
  congr 1
  show List.contains [_] b = _
  rw [List.contains_cons, List.contains_nil, Bool.or_false]
  rfl
theorem heapRowSame (w : World) (g : Nat) (c c' : Array Value) (t : TypeId) (h : w.heap[g]? = some (.cells c t (0, 0))) : (w.setRow g c').heap[g]? = some (.cells c' t (0, 0)) := by
  simp [World.setRow, Array.getElem?_modify, h]
theorem results_cell_tmp_row {fn : Func} {p u : Tmp} {ty : TypeId} (h : fn.results = #[.cell p ty, .tmp u]) (tmps : Array Value) (w : World) (g : Nat) (t : TypeId) (cs : Array Value) (fr : Nat × Nat) (n : Nat) (e : TypeId)
    (hp : tmps.getD p undef = .pointer (some ⟨g, 0, none⟩)) (hg : w.heap[g]? = some (.cells cs t fr)) (hu : Tryz.prog.underlying ty = some (.array n e))
    (hi : (Tryz.prog.info? ty).map (·.size) = some cs.size) (v : Value) (hv : tmps.getD u undef = v) : (results fn tmps).run Tryz.prog w = .ok (.tuple #[.agg cs, v]) w := by
  rw [results_cell_tmp h, hp, hv]
  simp [asAddr, run_loadVar_row w g t ty cs fr _ hg hu rfl hi, Result.andThen]
theorem abc_at (k : Nat) (hk : k < 16) : (∀ h : k < abcB.size, (abcB[k]'h).toNat = abcN.getD k 0) ∧ abcN.getD k 0 < 128 := by
  match k, hk with
  | 0, _ => exact ⟨fun _ => rfl, by decide⟩
  | 1, _ => exact ⟨fun _ => rfl, by decide⟩
  | 2, _ => exact ⟨fun _ => rfl, by decide⟩
  | 3, _ => exact ⟨fun _ => rfl, by decide⟩
  | 4, _ => exact ⟨fun _ => rfl, by decide⟩
  | 5, _ => exact ⟨fun _ => rfl, by decide⟩
  | 6, _ => exact ⟨fun _ => rfl, by decide⟩
  | 7, _ => exact ⟨fun _ => rfl, by decide⟩
  | 8, _ => exact ⟨fun _ => rfl, by decide⟩
  | 9, _ => exact ⟨fun _ => rfl, by decide⟩
  | 10, _ => exact ⟨fun _ => rfl, by decide⟩
  | 11, _ => exact ⟨fun _ => rfl, by decide⟩
  | 12, _ => exact ⟨fun _ => rfl, by decide⟩
  | 13, _ => exact ⟨fun _ => rfl, by decide⟩
  | 14, _ => exact ⟨fun _ => rfl, by decide⟩
  | 15, _ => exact ⟨fun _ => rfl, by decide⟩
  | n + 16, h => omega
set_option maxHeartbeats 1000000 in
set_option maxRecDepth 100000 in
theorem makeASCIISet_any (w : World) : Calls Tryz.prog 93 #[.string abcB] w fun e w' => e = .returned (.tuple #[.agg setArr, .bool true]) ∧ Below w.heap.size w w' := by
  have hz := (zero_of_info (P := Tryz.prog) (t := 77) (v := .agg falses) (n := 256) (by kernel_rfl)).1
  have hsz : abcB.size = 16 := rfl
  have hat := abc_at
  have HAt := Lib.hid hat
  clear hat
  generalize habc : abcB = S at hsz HAt ⊢
  clear habc
  have hA := setArr_size
  have hone : setArr.all (·.oneCell') = true := by simp [setArr, Value.oneCell']
  have HGet := Lib.hid (fun i h => setArr_get i h)
  generalize setArr = A at hA hone HGet ⊢
  have hA1 := @cellAlloc; have hA2 := @frozenAlloc; have hA3 := @setCellAlloc; go_enter Tryz.func93, Tryz.ntmps93
  go_wp2
  have hrow : (w.alloc (.cells falses 77)).rowIs w.heap.size 77 256 (fun j => .bool (isP 0 j)) := ⟨falses, heap_alloc_new _ _, by simp [falses], fun i hi => by rw [falses_get i hi]; rfl⟩
  have hb0 : Below w.heap.size w (w.alloc (.cells falses 77)) := Go.Joins.below_alloc1 _ _
  generalize w.alloc (.cells falses 77) = W at hrow hb0 ⊢
  go_loopw [4] (fun i wr => ∃ k : Nat, k ≤ 16 ∧ i = .int .i64 k ∧ wr.rowIs w.heap.size 77 256 (fun j => .bool (isP k j)) ∧ Below w.heap.size w wr) (fun i _ => 16 - (intOf i).toNat)
  case atStart => exact ⟨0, by omega, rfl, hrow, hb0⟩
  case round =>
    obtain ⟨k, hk, rfl, hri, hbw⟩ := hrel
    clear hrow hb0
    by_cases hlt : k < 16
    · obtain ⟨hch, hlow⟩ := HAt.out k hlt
      have hset : (wr.setCell ⟨w.heap.size, abcN.getD k 0, none⟩ (.bool true)).rowIs w.heap.size 77 256 (fun j => .bool (isP (k + 1) j)) := by
        refine (hri.set (abcN.getD k 0) _).congr fun j hj => ?_
        rw [isP_succ k j hlt]
        split
        · rename_i h; subst h; simp
        · rename_i h
          have : (j == abcN.getD k 0) = false := by simpa using h
          rw [this, Bool.or_false]
      have hcell := hri.cell (i := abcN.getD k 0) (by omega)
      have hfr := hri.frozen (abcN.getD k 0)
      generalize abcN.getD k 0 = c at *
      generalize isP k c = q at hcell
      have hbs : Below w.heap.size w (wr.setCell ⟨w.heap.size, c, none⟩ (.bool true)) := hbw.setCell (Nat.le_refl _) _
      have hc2 : (c : Int) < 256 := by omega
      go_wp2
      go_roundw
      case rel => exact ⟨k + 1, by omega, by go_num, hset, hbs⟩
      case measure => simp [intOf]; omega
    · have hk16 : k = 16 := by omega
      subst hk16
      obtain ⟨C, hC, hCs, hCi⟩ := hri
      obtain rfl : C = A := by
        apply Array.ext_getElem?
        intro j
        by_cases hj : j < 256
        · rw [hCi j hj, HGet.out j hj]; rfl
        · rw [Array.getElem?_eq_none (by omega), Array.getElem?_eq_none (by omega)]
      clear hCi
      go_wp2_with (first | (refine wpList_load_row (by rfl) 77 _ (by rfl) w.heap.size (by rfl) 77 _ (0, 0) _ hC Tryz.underlying77 (by rfl) (by rw [hA]; kernel_rfl) ?_) | (refine wpList_store_row (by rfl) 77 _ _ (by rfl) w.heap.size C (by rfl) (by rfl) 77 _ hC (by rw [hA]; kernel_rfl) (by rfl) hone ?_))
      refine bodyPost_ret (v := .tuple #[.agg C, .bool true]) (results_cell_tmp_row (p := 2) (u := 3) (ty := 77) (by rfl) _ _ w.heap.size 77 C (0, 0) _ _ (by rfl) (heapRowSame _ _ _ _ _ hC) Tryz.underlying77 (by rw [hA]; kernel_rfl) _ (by rfl)) rfl ⟨rfl, ?_⟩
      exact hbw.trans ⟨rfl, rfl, rfl, by simp [World.setRow], fun k hk => by simp only [World.setRow, Array.getElem?_modify]; rw [if_neg (by omega)]⟩
end Go.Proofs.YtfdmcnnjifggnabGreatDoor
