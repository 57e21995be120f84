/- Contracts of the functions on one Fault. -/
import Derived.Test.YtfjgleimdaailaaCell
import Derived.Lib.Hide
namespace Go.Proofs.Ytfjgleimdaailaa
open Go.RowKit

/-- A Fault is valid. -/
def faultB (d l : Int) : Bool := inB 0 127 d && (inB 0 127 l && (bits .and .i64 d l == 0))
/-- What a cell shows under a Fault. -/
def shownZ (d l c : Int) : Int := bits .or .i64 (bits .andNot .i64 c d) l

theorem andNot_small : ∀ a : Fin 128, ∀ b : Fin 128, (a.val &&& (18446744073709551615 - b.val)) = a.val - (a.val &&& b.val) := by decide +kernel
theorem shown_eq {d c : Int} (hd : inB 0 127 d = true) (hc : inB 0 127 c = true) : wrap64 (c - bits .and .i64 c d) = bits .andNot .i64 c d := by
  rw [inB_iff] at hd hc
  obtain ⟨D, rfl⟩ := Int.eq_ofNat_of_zero_le hd.1
  obtain ⟨C, rfl⟩ := Int.eq_ofNat_of_zero_le hc.1
  have := andNot_small ⟨C, by omega⟩ ⟨D, by omega⟩
  have hle : C &&& D ≤ C := Nat.and_le_left
  simp only at this
  rw [and64 _ _ (by omega) (by omega), andNot64 _ _ (by omega) (by omega), this, IntWalk.wrap64_in _ ⟨by omega, by omega⟩]
  omega

set_option maxHeartbeats 400000 in
theorem l3Fault_any (d l : Int) (w : World) : Calls Try.prog 43 #[.agg #[.int .i64 d, .int .i64 l]] w
    fun e w' => e = .returned (.bool (faultB d l)) ∧ Below w.heap.size w w' := by
  by_cases h1 : inB 0 127 d = true <;> by_cases h2 : inB 0 127 l = true
  all_goals
    try rw [Bool.not_eq_true] at h1
    try rw [Bool.not_eq_true] at h2
    go_enter Try.func43, Try.ntmps43
    go_wp2_with (go_at_call 44; refine (l2Cell_any _ _).mono ?_; rintro e w' ⟨rfl, rfl⟩)
    go_ret
    exact ⟨ret_bool (by simp [faultB, *]), (Below.refl _ _).alloc (Nat.le_refl _) _⟩
theorem IsFault_any (d l : Int) (w : World) : Calls Try.prog 46 #[.agg #[.int .i64 d, .int .i64 l]] w
    fun e w' => e = .returned (.bool (faultB d l)) ∧ Below w.heap.size w w' := by
  by_cases h1 : inB 0 127 d = true <;> by_cases h2 : inB 0 127 l = true
  all_goals
    try rw [Bool.not_eq_true] at h1
    try rw [Bool.not_eq_true] at h2
    go_enter Try.func46, Try.ntmps46
    go_wp2_with (go_at_call 47; refine (IsCell_any _ _).mono ?_; rintro e w' ⟨rfl, rfl⟩)
    go_ret
    exact ⟨ret_bool (by simp [faultB, *]), (Below.refl _ _).alloc (Nat.le_refl _) _⟩
theorem shown_any (d l c : Int) (w : World) : Calls Try.prog 48 #[.agg #[.int .i64 d, .int .i64 l], .int .i64 c] w
    fun e w' => e = .returned (.int .i64 (shownZ d l c)) ∧ Below w.heap.size w w' := by
  go_enter Try.func48, Try.ntmps48
  go_wp2
  go_ret
  exact ⟨rfl, (Below.refl _ _).alloc (Nat.le_refl _) _⟩
theorem l3Shown_any (d l c : Int) (w : World) (hd : inB 0 127 d = true) (hc : inB 0 127 c = true) : Calls Try.prog 45 #[.agg #[.int .i64 d, .int .i64 l], .int .i64 c] w
    fun e w' => e = .returned (.int .i64 (shownZ d l c)) ∧ Below w.heap.size w w' := by
  have hs := shown_eq hd hc
  go_enter Try.func45, Try.ntmps45
  go_wp2
  go_ret
  exact ⟨ret_int (by unfold shownZ; rw [← hs]), (Below.refl _ _).alloc (Nat.le_refl _) _⟩
theorem toFault_any (d l : Int) (w : World) : Calls Try.prog 14 #[.agg #[.int .i64 d, .int .i64 l]] w
    fun e w' => e = .returned (.agg #[.int .i64 d, .int .i64 l]) ∧ Below w.heap.size w w' := by
  go_enter Try.func14, Try.ntmps14
  go_wp2
  refine bodyPost_ret (v := .agg #[.int .i64 d, .int .i64 l]) (by simp [results, Try.results14, go_sem]) rfl ⟨rfl, by (repeat (first | assumption | exact Below.refl _ _ | refine belowThen ?_ (Go.Joins.below_alloc1 _ _) | apply Below.drew | refine belowThen ?_ (by assumption) | refine belowThen ?_ (Go.Joins.below_draws _ _ _) | refine Below.setCell ?_ (by first | exact Nat.le_refl _ | (simp; done) | (simp; omega)) _))⟩

/-- What the function ShownCell gives. -/
def shownCell (d l c : Int) : Value := if (faultB d l && inB 0 127 c) = true then .tuple #[.int .i64 (shownZ d l c), .bool true] else .tuple #[.int .i64 0, .bool false]
theorem faultB_1 {d l : Int} (h : faultB d l = true) : inB 0 127 d = true := by simp [faultB] at h; exact h.1
theorem ShownCellS_any (d l c : Int) (w : World) : Calls Try.prog 13 #[.agg #[.int .i64 d, .int .i64 l], .int .i64 c] w
    fun e w' => e = .returned (shownCell d l c) ∧ Below w.heap.size w w' := by
  by_cases h1 : faultB d l = true <;> by_cases h2 : inB 0 127 c = true
  · have hd := faultB_1 h1
    go_enter Try.func13, Try.ntmps13
    go_wp2_with (first | (go_at_call 43; refine (l3Fault_any _ _ _).mono ?_; rintro e w1 ⟨rfl, hb1⟩; have hs1 := hb1.size; (try simp only [heapAlloc, heapSet] at hs1); have hc1 := cellRule hb1; have hf1 := frozenRule hb1) | (go_at_call 44; refine (l2Cell_any _ _).mono ?_; rintro e w' ⟨rfl, rfl⟩) | (go_at_call 45; refine (l3Shown_any _ _ _ _ hd h2).mono ?_; rintro e w2 ⟨rfl, hb2⟩))
    go_ret2
    exact ⟨by simp [shownCell, h1, h2], by (repeat (first | assumption | exact Below.refl _ _ | refine belowThen ?_ (Go.Joins.below_alloc1 _ _) | apply Below.drew | refine belowThen ?_ (by assumption) | refine belowThen ?_ (Go.Joins.below_draws _ _ _) | refine Below.setCell ?_ (by first | exact Nat.le_refl _ | (simp; done) | (simp; omega)) _))⟩
  all_goals
    try rw [Bool.not_eq_true] at h1
    try rw [Bool.not_eq_true] at h2
    go_enter Try.func13, Try.ntmps13
    go_wp2_with (first | (go_at_call 43; refine (l3Fault_any _ _ _).mono ?_; rintro e w1 ⟨rfl, hb1⟩; have hs1 := hb1.size; (try simp only [heapAlloc, heapSet] at hs1); have hc1 := cellRule hb1; have hf1 := frozenRule hb1) | (go_at_call 44; refine (l2Cell_any _ _).mono ?_; rintro e w' ⟨rfl, rfl⟩))
    go_ret2
    exact ⟨by simp [shownCell, h1, h2], by (repeat (first | assumption | exact Below.refl _ _ | refine belowThen ?_ (Go.Joins.below_alloc1 _ _) | apply Below.drew | refine belowThen ?_ (by assumption) | refine belowThen ?_ (Go.Joins.below_draws _ _ _) | refine Below.setCell ?_ (by first | exact Nat.le_refl _ | (simp; done) | (simp; omega)) _))⟩
theorem ShownCellI_any (d l c : Int) (w : World) : Calls Try.prog 15 #[.agg #[.int .i64 d, .int .i64 l], .int .i64 c] w
    fun e w' => e = .returned (shownCell d l c) ∧ Below w.heap.size w w' := by
  by_cases h1 : faultB d l = true <;> by_cases h2 : inB 0 127 c = true
  · have hd := faultB_1 h1
    go_enter Try.func15, Try.ntmps15
    go_wp2_with (first | (go_at_call 46; refine (IsFault_any _ _ _).mono ?_; rintro e w1 ⟨rfl, hb1⟩; have hs1 := hb1.size; (try simp only [heapAlloc, heapSet] at hs1); have hc1 := cellRule hb1; have hf1 := frozenRule hb1) | (go_at_call 47; refine (IsCell_any _ _).mono ?_; rintro e w' ⟨rfl, rfl⟩) | (go_at_call 48; refine (shown_any _ _ _ _).mono ?_; rintro e w2 ⟨rfl, hb2⟩))
    go_ret2
    exact ⟨by simp [shownCell, h1, h2], by (repeat (first | assumption | exact Below.refl _ _ | refine belowThen ?_ (Go.Joins.below_alloc1 _ _) | apply Below.drew | refine belowThen ?_ (by assumption) | refine belowThen ?_ (Go.Joins.below_draws _ _ _) | refine Below.setCell ?_ (by first | exact Nat.le_refl _ | (simp; done) | (simp; omega)) _))⟩
  all_goals
    try rw [Bool.not_eq_true] at h1
    try rw [Bool.not_eq_true] at h2
    go_enter Try.func15, Try.ntmps15
    go_wp2_with (first | (go_at_call 46; refine (IsFault_any _ _ _).mono ?_; rintro e w1 ⟨rfl, hb1⟩; have hs1 := hb1.size; (try simp only [heapAlloc, heapSet] at hs1); have hc1 := cellRule hb1; have hf1 := frozenRule hb1) | (go_at_call 47; refine (IsCell_any _ _).mono ?_; rintro e w' ⟨rfl, rfl⟩))
    go_ret2
    exact ⟨by simp [shownCell, h1, h2], by (repeat (first | assumption | exact Below.refl _ _ | refine belowThen ?_ (Go.Joins.below_alloc1 _ _) | apply Below.drew | refine belowThen ?_ (by assumption) | refine belowThen ?_ (Go.Joins.below_draws _ _ _) | refine Below.setCell ?_ (by first | exact Nat.le_refl _ | (simp; done) | (simp; omega)) _))⟩
theorem shownCell_shape (d l c : Int) : ∃ n b, shownCell d l c = .tuple #[.int .i64 n, .bool b] := by
  unfold shownCell; split <;> exact ⟨_, _, rfl⟩

end Go.Proofs.Ytfjgleimdaailaa
