/- Contracts of the functions that read a number off a row. -/
import Derived.Test.YtfdmcnnjifggnabGreatDoorFind
import Derived.Test.YtfdmcnnjifggnabGreatDoorDigit
import Derived.Test.YtfdmcnnjifggnabGreatDoorRow
import Derived.Test.YtfdmcnnjifggnabGreatDoorMarks
import Derived.Lib.Hide
import Derived.Deep.WholeRow
import Derived.Deep.QuietTactic
import Derived.BigQuiet
namespace Go.Proofs.YtfdmcnnjifggnabGreatDoor
open Go.RowKit

def digs : List Int := [63, 6, 91, 79, 102, 109, 125, 7, 127, 111]
/-- The digit of a cell, or -1. -/
def dofI (c : Int) : Int := idxFrom digs c 0
theorem digs_at (d : Nat) (h : d < 10) : digs.getD d 0 = ((digC d : Nat) : Int) := by
  match d, h with
  | 0, _ => rfl
  | 1, _ => rfl
  | 2, _ => rfl
  | 3, _ => rfl
  | 4, _ => rfl
  | 5, _ => rfl
  | 6, _ => rfl
  | 7, _ => rfl
  | 8, _ => rfl
  | 9, _ => rfl
  | n + 10, h => omega
theorem idxFrom_bound (x : Int) : ∀ (L : List Int) (n : Nat), idxFrom L x n = -1 ∨ ((n : Int) ≤ idxFrom L x n ∧ idxFrom L x n < n + L.length)
  | [], n => .inl rfl
  | y :: ys, n => by
    unfold idxFrom
    split
    · right; simp; omega
    · rcases idxFrom_bound x ys (n + 1) with h | h
      · exact .inl h
      · right; simp; omega
theorem dofI_bound (c : Int) : -1 ≤ dofI c ∧ dofI c ≤ 9 := by
  have := idxFrom_bound c digs 0
  have h10 : digs.length = 10 := rfl
  unfold dofI
  omega
set_option maxHeartbeats 800000 in
set_option maxRecDepth 100000 in
theorem l2DigitOf_any (c : Int) (w : World) : Calls Tryz.prog 87 #[.int .i64 c] w fun e w' => e = .returned (.int .i64 (dofI c)) ∧ Below w.heap.size w w' := by
  have HD := Lib.hid (fun d hd W => l2Digit_any d hd W)
  have hat := digs_at
  have h10 : digs.length = 10 := rfl
  obtain ⟨R, hR⟩ : ∃ R, dofI c = R := ⟨_, rfl⟩
  rw [hR]
  unfold dofI at hR
  generalize digs = L at hat h10 hR
  have HAt := Lib.hid hat
  clear hat
  have hA1 := @cellAlloc; have hA2 := @frozenAlloc; have hA3 := @setCellAlloc; go_enter Tryz.func87, Tryz.ntmps87
  go_wp2
  go_loopw [3] (fun i wr => ∃ k : Nat, k ≤ 10 ∧ i = .int .i64 k ∧ idxFrom (L.drop k) c k = R ∧ Below w.heap.size w wr) (fun i _ => 10 - (intOf i).toNat)
  case atStart => exact ⟨0, by omega, rfl, by simpa using hR, Below.refl _ _⟩
  case round =>
    obtain ⟨k, hle, rfl, hd, hbw⟩ := hrel
    by_cases hlt : k < 10
    · rw [drop_cons L k (by omega), HAt.out k hlt] at hd
      unfold idxFrom at hd
      have HC := Lib.hid (fun W => HD.out k hlt W)
      generalize ((digC k : Nat) : Int) = y at hd HC
      clear hR h10
      have hki : (k : Int) < 10 := by omega
      by_cases hy : y = c
      · rw [if_pos hy] at hd
        subst hd
        subst hy
        go_wp2_with (first | (go_at_call 85; refine (HC.out _).mono ?_; rintro e w1 ⟨rfl, hb1⟩))
        go_ret
        exact ⟨rfl, belowThen hbw hb1⟩
      · rw [if_neg hy] at hd
        have hz : (y == c) = false := by simpa using hy
        have HDD := Lib.hid hd
        clear hd hy
        go_wp2_with (first | (go_at_call 85; refine (HC.out _).mono ?_; rintro e w1 ⟨rfl, hb1⟩))
        go_roundw
        case rel => exact ⟨k + 1, by omega, by go_num, HDD.out, belowThen hbw hb1⟩
        case measure => simp [intOf]; omega
    · have hkn : k = 10 := by omega
      subst hkn
      rw [List.drop_eq_nil_of_le (by omega)] at hd
      unfold idxFrom at hd
      subst hd
      clear hR h10
      go_wp2
      go_ret
      exact ⟨rfl, hbw⟩
def digA : Array Value := #[.int .i64 63, .int .i64 6, .int .i64 91, .int .i64 79, .int .i64 102, .int .i64 109, .int .i64 125, .int .i64 7, .int .i64 127, .int .i64 111]
def zer10 : Array Value := #[.int .i64 0, .int .i64 0, .int .i64 0, .int .i64 0, .int .i64 0, .int .i64 0, .int .i64 0, .int .i64 0, .int .i64 0, .int .i64 0]
theorem digA_get (j : Nat) (h : j < 10) : digA[j]? = some (.int .i64 (digs.getD j 0)) := by
  match j, h with
  | 0, _ => rfl
  | 1, _ => rfl
  | 2, _ => rfl
  | 3, _ => rfl
  | 4, _ => rfl
  | 5, _ => rfl
  | 6, _ => rfl
  | 7, _ => rfl
  | 8, _ => rfl
  | 9, _ => rfl
  | n + 10, h => omega
set_option maxHeartbeats 800000 in
set_option maxRecDepth 100000 in
theorem digitOf_any (c : Int) (w : World) : Calls Tryz.prog 86 #[.int .i64 c] w fun e w' => e = .returned (.int .i64 (dofI c)) ∧ Below w.heap.size w w' := by
  have hz := (zero_of_info (P := Tryz.prog) (t := 69) (v := .agg zer10) (n := 10) (by kernel_rfl)).1
  have HDC : Hid (∀ W, Calls Tryz.prog 82 #[] W fun e w' => e = .returned (.agg digA) ∧ Below W.heap.size W w') := Lib.hid fun W => digitCells_any W
  have hsz : digA.size = 10 := rfl
  have hone : digA.all (·.oneCell') = true := by simp [digA, Value.oneCell']
  have hzs : zer10.size = 10 := rfl
  have HIdx : Hid (∀ (b : Nat) (W : World), W.heap[b]? = some (.cells digA 69 (0, 0)) → Calls Tryz.prog 64 #[.slice (some ⟨b, 0, none⟩) 10 10, .int .i64 c] W fun e w' => e = .returned (.int .i64 (dofI c)) ∧ W = w') := Lib.hid fun b W hW =>
    sliceIndex_any (some ⟨b, 0, none⟩) 10 10 digs c W (.inr ⟨b, 0, rfl, (Array.getElem?_eq_some_iff.1 hW).1, fun j hj => by
      have h10 : j < 10 := hj
      rw [cell_of_row W b _ _ _ _ hW, Nat.zero_add, digA_get j h10]⟩) rfl (by unfold maxLen; omega)
  generalize dofI c = R at HIdx ⊢
  generalize digA = A at *
  have hA1 := @cellAlloc; have hA2 := @frozenAlloc; have hA3 := @setCellAlloc; go_enter Tryz.func86, Tryz.ntmps86
  go_wp2_with (first
    | (go_at_call 82; refine (HDC.out _).mono ?_; rintro e w1 ⟨rfl, hb1⟩)
    | (refine wpList_store_row (by rfl) 69 _ _ (by rfl) w1.heap.size A (by rfl) (by rfl) 69 zer10 (heap_alloc_new _ _) (by rw [hsz]; kernel_rfl) (by rw [hsz, hzs]) hone ?_
       rw [World.setRow_alloc_new]
       have k1 := heap_alloc_new w1 (.cells A 69))
    | (go_at_call 64; refine (HIdx.out _ _ k1).mono ?_; rintro e w' ⟨rfl, rfl⟩))
  go_ret
  exact ⟨rfl, belowThen hb1 (Go.Joins.below_alloc1 _ _)⟩
/-- The first k cells are those of digits; the number that they show. -/
def numOk (L : List Int) (k : Nat) : Prop := ∀ j, j < k → 0 ≤ dofI (L.getD j 0)
def numK (L : List Int) : Nat → Int
  | 0 => 0
  | k + 1 => 10 * numK L k + dofI (L.getD k 0)
theorem numK_bound (L : List Int) (k : Nat) (h : numOk L k) : 0 ≤ numK L k ∧ numK L k < 10 ^ k := by
  induction k with
  | zero => simp [numK]
  | succ k ih =>
    have h1 := ih (fun j hj => h j (by omega))
    have h2 := h k (by omega)
    have h3 := (dofI_bound (L.getD k 0)).2
    have h4 : (10 : Int) ^ (k + 1) = 10 ^ k * 10 := Int.pow_succ 10 k
    unfold numK
    omega
def numAll (L : List Int) : Bool := L.all fun c => decide (0 ≤ dofI c)
def numB (L : List Int) : Bool := numAll L && decide (0 < L.length)
def numZ (L : List Int) : Int := if numAll L = true then numK L L.length else 0
theorem numAll_of {L : List Int} (h : numOk L L.length) : numAll L = true := by
  unfold numAll
  rw [List.all_eq_true]
  intro x hx
  obtain ⟨j, hj, rfl⟩ := List.mem_iff_getElem.1 hx
  have := h j hj
  rw [List.getD_eq_getElem?_getD, List.getElem?_eq_getElem hj] at this
  simpa using this
theorem numAll_bad {L : List Int} {j : Nat} (hj : j < L.length) (h : dofI (L.getD j 0) < 0) : numAll L = false := by
  unfold numAll
  rw [List.all_eq_false]
  refine ⟨L[j], List.getElem_mem _, ?_⟩
  rw [List.getD_eq_getElem?_getD, List.getElem?_eq_getElem hj] at h
  simp at h ⊢
  omega
set_option maxHeartbeats 800000 in
set_option maxRecDepth 100000 in
theorem l2NumberOf_any (ao : Option Addr) (n cap : Nat) (L : List Int) (w : World) (hr : RdI w ao L) (hn : L.length = n) (hm : n ≤ 6) :
    Calls Tryz.prog 57 #[.slice ao n cap] w fun e w' => e = .returned (.tuple #[.int .i64 (numZ L), .bool (numB L)]) ∧ Below w.heap.size w w' := by
  have HN := Lib.hid hn
  have HDof := Lib.hid (fun c W => l2DigitOf_any c W)
  obtain ⟨Z, hZ⟩ : ∃ Z, numZ L = Z := ⟨_, rfl⟩
  obtain ⟨B, hB⟩ : ∃ B, numB L = B := ⟨_, rfl⟩
  rw [hZ, hB]
  have HZ := Lib.hid hZ
  have HB := Lib.hid hB
  clear hn hZ hB
  have hA1 := @cellAlloc; have hA2 := @frozenAlloc; have hA3 := @setCellAlloc; go_enter Tryz.func57, Tryz.ntmps57
  go_wp2
  go_loopw [4, 5] (fun z i wr => ∃ k : Nat, k ≤ n ∧ i = .int .i64 k ∧ numOk L k ∧ z = .int .i64 (numK L k) ∧ Below w.heap.size w wr) (fun _ i _ => n - (intOf i).toNat)
  case atStart => exact ⟨0, by omega, rfl, fun j hj => by omega, rfl, Below.refl _ _⟩
  case round =>
    obtain ⟨k, hle, rfl, hok, rfl, hbw⟩ := hrel
    have hbd := numK_bound L k hok
    have HOk := Lib.hid hok
    have hp6 : (10 : Int) ^ k ≤ 1000000 := by
      rcases (by omega : k = 0 ∨ k = 1 ∨ k = 2 ∨ k = 3 ∨ k = 4 ∨ k = 5 ∨ k = 6) with rfl | rfl | rfl | rfl | rfl | rfl | rfl <;> decide
    clear hok
    by_cases hlt : k < n
    · rcases RdI_below hr hbw with h | ⟨b1, o1, rfl, hb1, hc1⟩
      · have := HN.out; rw [h] at this; simp at this; omega
      have hx := hc1 k (by rw [HN.out]; omega)
      have hsuc : numK L (k + 1) = 10 * numK L k + dofI (L.getD k 0) := rfl
      have hdb := dofI_bound (L.getD k 0)
      have HC := Lib.hid (fun W => HDof.out (L.getD k 0) W)
      obtain ⟨d, hd⟩ : ∃ d, dofI (L.getD k 0) = d := ⟨_, rfl⟩
      rw [hd] at hsuc hdb HC
      have HSuc := Lib.hid hsuc
      have hallN := Lib.hid (fun (h : d < 0) => numAll_bad (L := L) (j := k) (by rw [HN.out]; omega) (by rw [hd]; exact h))
      have hokS : Hid (¬ d < 0 → numOk L (k + 1)) := Lib.hid fun h j hj => by
        by_cases h2 : j < k
        · exact HOk.out j h2
        · have : j = k := by omega
          subst this
          rw [hd]
          omega
      clear hc1 hsuc hd
      generalize numK L k = z at *
      generalize L.getD k 0 = c at hx HC
      have hki : (k : Int) < (n : Int) := by omega
      by_cases hneg : d < 0
      · have hall := Lib.hid (hallN.out hneg)
        go_wp2_with (first | (go_at_call 87; refine (HC.out _).mono ?_; rintro e w1 ⟨rfl, hb1'⟩))
        go_ret2
        exact ⟨by rw [← HZ.out, ← HB.out]; unfold numZ numB; rw [hall.out]; rfl, belowThen hbw hb1'⟩
      · go_wp2_with (first | (go_at_call 87; refine (HC.out _).mono ?_; rintro e w1 ⟨rfl, hb1'⟩))
        go_roundw
        case rel => exact ⟨k + 1, by omega, by go_num, hokS.out hneg, by rw [HSuc.out], belowThen hbw hb1'⟩
        case measure => simp [intOf]; omega
    · have hkn : k = n := by omega
      subst hkn
      have hall := Lib.hid (numAll_of (L := L) (by rw [HN.out]; exact HOk.out))
      generalize hz : numK L k = z at *
      have HZ2 := Lib.hid hz
      clear hz
      go_wp2
      go_ret2
      have e1 : Z = z := by rw [← HZ.out, ← HZ2.out]; unfold numZ; rw [if_pos hall.out, HN.out]
      have e2 : B = decide (0 < k) := by rw [← HB.out]; unfold numB; rw [hall.out, HN.out, Bool.true_and]
      exact ⟨by rw [e1, e2]; rfl, hbw⟩
set_option maxHeartbeats 800000 in
set_option maxRecDepth 100000 in
theorem NumberOf_any (ao : Option Addr) (n cap : Nat) (L : List Int) (w : World) (hr : RdI w ao L) (hn : L.length = n) (hm : n ≤ 6) (hL : rowB L = true) :
    Calls Tryz.prog 55 #[.slice ao n cap] w fun e w' => e = .returned (.tuple #[.int .i64 (numZ L), .bool (numB L)]) ∧ Below w.heap.size w w' := by
  have HN := Lib.hid hn
  have HDof := Lib.hid (fun c W => digitOf_any c W)
  have HRow := Lib.hid (IsRow_any ao n cap L w hr hn (by unfold maxLen; omega))
  rw [hL] at HRow
  obtain ⟨Z, hZ⟩ : ∃ Z, numZ L = Z := ⟨_, rfl⟩
  obtain ⟨B, hB⟩ : ∃ B, numB L = B := ⟨_, rfl⟩
  rw [hZ, hB]
  have HZ := Lib.hid hZ
  have HB := Lib.hid hB
  clear hn hZ hB hL
  by_cases hn0 : n = 0
  · subst hn0
    have e0 : L = [] := List.eq_nil_of_length_eq_zero HN.out
    have e1 : Z = 0 := by rw [← HZ.out, e0]; rfl
    have e2 : B = false := by rw [← HB.out, e0]; rfl
    subst e1 e2
    clear e0
    have hA1 := @cellAlloc; have hA2 := @frozenAlloc; have hA3 := @setCellAlloc; go_enter Tryz.func55, Tryz.ntmps55
    go_wp2_with (first | (go_at_call 41; refine HRow.out.mono ?_; rintro e w1 ⟨rfl, hb1⟩))
    go_ret2
    exact ⟨rfl, hb1⟩
  have hni : ((n : Int) == 0) = false := by simp; omega
  have hA1 := @cellAlloc; have hA2 := @frozenAlloc; have hA3 := @setCellAlloc; go_enter Tryz.func55, Tryz.ntmps55
  go_wp2_with (first | (go_at_call 41; refine HRow.out.mono ?_; rintro e w1 ⟨rfl, hb1⟩))
  go_loopw [4, 18] (fun z i wr => ∃ k : Nat, k ≤ n ∧ i = .int .i64 k ∧ numOk L k ∧ z = .int .i64 (numK L k) ∧ Below w.heap.size w wr) (fun _ i _ => n - (intOf i).toNat)
  case atStart => exact ⟨0, by omega, rfl, fun j hj => by omega, rfl, hb1⟩
  case round =>
    obtain ⟨k, hle, rfl, hok, rfl, hbw⟩ := hrel
    have hbd := numK_bound L k hok
    have HOk := Lib.hid hok
    have hp6 : (10 : Int) ^ k ≤ 1000000 := by
      rcases (by omega : k = 0 ∨ k = 1 ∨ k = 2 ∨ k = 3 ∨ k = 4 ∨ k = 5 ∨ k = 6) with rfl | rfl | rfl | rfl | rfl | rfl | rfl <;> decide
    clear hok
    by_cases hlt : k < n
    · rcases RdI_below hr hbw with h | ⟨b1, o1, rfl, hb1', hc1⟩
      · have := HN.out; rw [h] at this; simp at this; omega
      have hx := hc1 k (by rw [HN.out]; omega)
      have hsuc : numK L (k + 1) = 10 * numK L k + dofI (L.getD k 0) := rfl
      have hdb := dofI_bound (L.getD k 0)
      have HC := Lib.hid (fun W => HDof.out (L.getD k 0) W)
      obtain ⟨d, hd⟩ : ∃ d, dofI (L.getD k 0) = d := ⟨_, rfl⟩
      rw [hd] at hsuc hdb HC
      have HSuc := Lib.hid hsuc
      have hallN := Lib.hid (fun (h : d < 0) => numAll_bad (L := L) (j := k) (by rw [HN.out]; omega) (by rw [hd]; exact h))
      have hokS : Hid (¬ d < 0 → numOk L (k + 1)) := Lib.hid fun h j hj => by
        by_cases h2 : j < k
        · exact HOk.out j h2
        · have : j = k := by omega
          subst this
          rw [hd]
          omega
      clear hc1 hsuc hd
      generalize numK L k = z at *
      generalize L.getD k 0 = c at hx HC
      have hki : (k : Int) < (n : Int) := by omega
      by_cases hneg : d < 0
      · have hall := Lib.hid (hallN.out hneg)
        go_wp2_with (first | (go_at_call 86; refine (HC.out _).mono ?_; rintro e w2 ⟨rfl, hb2⟩))
        go_ret2
        exact ⟨by rw [← HZ.out, ← HB.out]; unfold numZ numB; rw [hall.out]; rfl, belowThen hbw hb2⟩
      · go_wp2_with (first | (go_at_call 86; refine (HC.out _).mono ?_; rintro e w2 ⟨rfl, hb2⟩))
        go_roundw
        case rel => exact ⟨k + 1, by omega, by go_num, hokS.out hneg, by rw [HSuc.out], belowThen hbw hb2⟩
        case measure => simp [intOf]; omega
    · have hkn : k = n := by omega
      subst hkn
      have hall := Lib.hid (numAll_of (L := L) (by rw [HN.out]; exact HOk.out))
      generalize hz : numK L k = z at *
      have HZ2 := Lib.hid hz
      clear hz
      go_wp2
      go_ret2
      have e1 : Z = z := by rw [← HZ.out, ← HZ2.out]; unfold numZ; rw [if_pos hall.out, HN.out]
      have e2 : B = true := by rw [← HB.out]; unfold numB; rw [hall.out, HN.out, Bool.true_and]; simp; omega
      exact ⟨by rw [e1, e2]; rfl, hbw⟩
theorem list_eq_of {A B : List Int} (hl : A.length = B.length) (h : ∀ j, j < A.length → A.getD j 0 = B.getD j 0) : A = B := by
  apply List.ext_getElem hl
  intro i h1 h2
  have := h i h1
  rw [List.getD_eq_getElem?_getD, List.getD_eq_getElem?_getD, List.getElem?_eq_getElem h1, List.getElem?_eq_getElem h2] at this
  simpa using this
set_option maxHeartbeats 800000 in
set_option maxRecDepth 100000 in
theorem l1Same_any (ao bo : Option Addr) (n m ca cb : Nat) (A B : List Int) (w : World) (ha : RdI w ao A) (hb : RdI w bo B) (hn : A.length = n) (hm : B.length = m) (h6 : n ≤ 1000) (h7 : m ≤ 1000) :
    Calls Tryz.prog 58 #[.slice ao n ca, .slice bo m cb] w fun e w' => e = .returned (.bool (decide (A = B))) ∧ Below w.heap.size w w' := by
  have HN := Lib.hid hn
  have HM := Lib.hid hm
  obtain ⟨R, hR⟩ : ∃ R, decide (A = B) = R := ⟨_, rfl⟩
  rw [hR]
  have HR := Lib.hid hR
  clear hn hm hR
  by_cases hnm : n = m
  rotate_left
  · have hR : R = false := by rw [← HR.out]; simp; intro h; apply hnm; rw [← HN.out, ← HM.out, h]
    subst hR
    have hni : ((n : Int) != (m : Int)) = true := by simp; omega
    have hA1 := @cellAlloc; have hA2 := @frozenAlloc; have hA3 := @setCellAlloc; go_enter Tryz.func58, Tryz.ntmps58
    go_wp2
    go_ret
    exact ⟨rfl, Below.refl _ _⟩
  subst hnm
  have hA1 := @cellAlloc; have hA2 := @frozenAlloc; have hA3 := @setCellAlloc; go_enter Tryz.func58, Tryz.ntmps58
  go_wp2
  go_loopw [5] (fun i wr => ∃ k : Nat, k ≤ n ∧ i = .int .i64 k ∧ (∀ j, j < k → A.getD j 0 = B.getD j 0) ∧ Below w.heap.size w wr) (fun i _ => n - (intOf i).toNat)
  case atStart => exact ⟨0, by omega, rfl, fun j hj => by omega, Below.refl _ _⟩
  case round =>
    obtain ⟨k, hk, rfl, hsame, hbw⟩ := hrel
    have HS := Lib.hid hsame
    clear hsame
    by_cases hlt : k < n
    · rcases RdI_below ha hbw with h | ⟨b1, o1, rfl, hb1, hc1⟩
      · have := HN.out; rw [h] at this; simp at this; omega
      rcases RdI_below hb hbw with h | ⟨b2, o2, rfl, hb2, hc2⟩
      · have := HM.out; rw [h] at this; simp at this; omega
      have hx := hc1 k (by rw [HN.out]; omega)
      have hy := hc2 k (by rw [HM.out]; omega)
      have hki : (k : Int) < (n : Int) := by omega
      by_cases hxy : A.getD k 0 = B.getD k 0
      · have HS2 : Hid (∀ j, j < k + 1 → A.getD j 0 = B.getD j 0) := Lib.hid fun j hj => by
          by_cases h : j < k
          · exact HS.out j h
          · have : j = k := by omega
            subst this; exact hxy
        rw [← hxy] at hy
        generalize A.getD k 0 = x at hx hy
        clear hc1 hc2 hxy
        go_wp2_with fail
        go_quiet (fail)
        go_wp2
        go_roundw
        case rel => exact ⟨k + 1, by omega, by go_num, HS2.out, belowThen hbw (Go.Joins.below_draws _ _ _)⟩
        case measure => simp [intOf]; omega
      · have hR : R = false := by rw [← HR.out]; simp; intro h; apply hxy; rw [h]
        subst hR
        generalize A.getD k 0 = x at hx hxy
        generalize B.getD k 0 = y at hy hxy
        have hne : (x != y) = true := by simpa using hxy
        clear hc1 hc2 hxy
        go_wp2_with fail
        go_quiet (fail)
        go_wp2
        go_ret
        exact ⟨rfl, belowThen hbw (Go.Joins.below_draws _ _ _)⟩
    · have hkn : k = n := by omega
      subst hkn
      have hR : R = true := by rw [← HR.out]; simp; exact list_eq_of (by rw [HN.out, HM.out]) (fun j hj => HS.out j (by rw [HN.out] at hj; exact hj))
      subst hR
      go_wp2
      go_ret
      exact ⟨rfl, hbw⟩
set_option maxHeartbeats 800000 in
set_option maxRecDepth 100000 in
theorem Equal_any (ao bo : Option Addr) (n m ca cb : Nat) (A B : List Int) (w : World) (ha : RdI w ao A) (hb : RdI w bo B) (hn : A.length = n) (hm : B.length = m) (h6 : n ≤ 1000) (h7 : m ≤ 1000) :
    Calls Tryz.prog 56 #[.slice ao n ca, .slice bo m cb] w fun e w' => e = .returned (.bool (decide (A = B))) ∧ Below w.heap.size w w' := by
  have HN := Lib.hid hn
  have HM := Lib.hid hm
  obtain ⟨R, hR⟩ : ∃ R, decide (A = B) = R := ⟨_, rfl⟩
  rw [hR]
  have HR := Lib.hid hR
  clear hn hm hR
  by_cases hnm : n = m
  rotate_left
  · have hR : R = false := by rw [← HR.out]; simp; intro h; apply hnm; rw [← HN.out, ← HM.out, h]
    subst hR
    have hni : ((n : Int) != (m : Int)) = true := by simp; omega
    have hA1 := @cellAlloc; have hA2 := @frozenAlloc; have hA3 := @setCellAlloc; go_enter Tryz.func56, Tryz.ntmps56
    go_wp2
    go_ret
    exact ⟨rfl, Below.refl _ _⟩
  subst hnm
  have hA1 := @cellAlloc; have hA2 := @frozenAlloc; have hA3 := @setCellAlloc; go_enter Tryz.func56, Tryz.ntmps56
  go_wp2
  go_loopw [13] (fun i wr => ∃ k : Nat, k ≤ n ∧ i = .int .i64 k ∧ (∀ j, j < k → A.getD j 0 = B.getD j 0) ∧ Below w.heap.size w wr) (fun i _ => n - (intOf i).toNat)
  case atStart => exact ⟨0, by omega, rfl, fun j hj => by omega, Below.refl _ _⟩
  case round =>
    obtain ⟨k, hk, rfl, hsame, hbw⟩ := hrel
    have HS := Lib.hid hsame
    clear hsame
    by_cases hlt : k < n
    · rcases RdI_below ha hbw with h | ⟨b1, o1, rfl, hb1, hc1⟩
      · have := HN.out; rw [h] at this; simp at this; omega
      rcases RdI_below hb hbw with h | ⟨b2, o2, rfl, hb2, hc2⟩
      · have := HM.out; rw [h] at this; simp at this; omega
      have hx := hc1 k (by rw [HN.out]; omega)
      have hy := hc2 k (by rw [HM.out]; omega)
      have hki : (k : Int) < (n : Int) := by omega
      by_cases hxy : A.getD k 0 = B.getD k 0
      · have HS2 : Hid (∀ j, j < k + 1 → A.getD j 0 = B.getD j 0) := Lib.hid fun j hj => by
          by_cases h : j < k
          · exact HS.out j h
          · have : j = k := by omega
            subst this; exact hxy
        rw [← hxy] at hy
        generalize A.getD k 0 = x at hx hy
        clear hc1 hc2 hxy
        go_wp2_with fail
        go_quiet (fail)
        go_wp2
        go_roundw
        case rel => exact ⟨k + 1, by omega, by go_num, HS2.out, belowThen hbw (Go.Joins.below_draws _ _ _)⟩
        case measure => simp [intOf]; omega
      · have hR : R = false := by rw [← HR.out]; simp; intro h; apply hxy; rw [h]
        subst hR
        generalize A.getD k 0 = x at hx hxy
        generalize B.getD k 0 = y at hy hxy
        have hne : (x != y) = true := by simpa using hxy
        clear hc1 hc2 hxy
        go_wp2_with fail
        go_quiet (fail)
        go_wp2
        go_ret
        exact ⟨rfl, belowThen hbw (Go.Joins.below_draws _ _ _)⟩
    · have hkn : k = n := by omega
      subst hkn
      have hR : R = true := by rw [← HR.out]; simp; exact list_eq_of (by rw [HN.out, HM.out]) (fun j hj => HS.out j (by rw [HN.out] at hj; exact hj))
      subst hR
      go_wp2
      go_ret
      exact ⟨rfl, hbw⟩
end Go.Proofs.YtfdmcnnjifggnabGreatDoor
