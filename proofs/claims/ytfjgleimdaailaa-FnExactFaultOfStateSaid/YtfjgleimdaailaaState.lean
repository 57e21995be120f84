/- Contracts of the functions on one State. -/
import Derived.Test.YtfjgleimdaailaaFault
import Derived.Lib.Hide
namespace Go.Proofs.Ytfjgleimdaailaa
open Go.RowKit

/-- A State is valid. -/
def stateB (b k : Int) : Bool := if k = 0 then b == 0 else inB 1 2 k && inB 0 6 b
/-- The bar of a State as a cell, if it is of a kind. -/
def stateBar (kind b k : Int) : Int := if k = kind then wrap64 (2 ^ b.toNat) else 0

theorem l7State_any (b k : Int) (w : World) : Calls Try.prog 49 #[.agg #[.int .i64 b, .int .i64 k]] w
    fun e w' => e = .returned (.bool (stateB b k)) ∧ Below w.heap.size w w' := by
  by_cases h0 : k = 0
  · subst h0
    go_enter Try.func49, Try.ntmps49
    go_wp2
    go_ret
    exact ⟨ret_bool (by simp [stateB]), by (repeat (first | assumption | exact Below.refl _ _ | refine belowThen ?_ (Go.Joins.below_alloc1 _ _) | apply Below.drew | refine belowThen ?_ (by assumption) | refine belowThen ?_ (Go.Joins.below_draws _ _ _) | refine Below.setCell ?_ (by first | exact Nat.le_refl _ | (simp; done) | (simp; omega)) _))⟩
  · have h1 : (k == 0) = false := by simp [h0]
    by_cases h2 : inB 1 2 k = true
    all_goals
      try rw [Bool.not_eq_true] at h2
      go_enter Try.func49, Try.ntmps49
      go_wp2_with (go_at_call 71; refine (l1In_any _ _ _ _).mono ?_; rintro e w' ⟨rfl, rfl⟩)
      go_ret
      exact ⟨ret_bool (by simp [stateB, h0, h2]), by (repeat (first | assumption | exact Below.refl _ _ | refine belowThen ?_ (Go.Joins.below_alloc1 _ _) | apply Below.drew | refine belowThen ?_ (by assumption) | refine belowThen ?_ (Go.Joins.below_draws _ _ _) | refine Below.setCell ?_ (by first | exact Nat.le_refl _ | (simp; done) | (simp; omega)) _))⟩
theorem IsState_any (b k : Int) (w : World) : Calls Try.prog 51 #[.agg #[.int .i64 b, .int .i64 k]] w
    fun e w' => e = .returned (.bool (stateB b k)) ∧ Below w.heap.size w w' := by
  by_cases h0 : k = 0
  · subst h0
    have h1 : inB 0 2 0 = true := rfl
    by_cases h2 : inB 0 6 b = true
    all_goals
      try rw [Bool.not_eq_true] at h2
      go_enter Try.func51, Try.ntmps51
      go_wp2_with (go_at_call 58; refine (within_any _ _ _ _).mono ?_; rintro e w' ⟨rfl, rfl⟩)
      go_ret
      refine ⟨ret_bool ?_, by (repeat (first | assumption | exact Below.refl _ _ | refine belowThen ?_ (Go.Joins.below_alloc1 _ _) | apply Below.drew | refine belowThen ?_ (by assumption) | refine belowThen ?_ (Go.Joins.below_draws _ _ _) | refine Below.setCell ?_ (by first | exact Nat.le_refl _ | (simp; done) | (simp; omega)) _))⟩
      simp only [inB_iff, inB_not] at h2
      simp [stateB]
      try omega
  · have h3 : (k != 0) = true := by simp [h0]
    have h5 : (k == 0) = false := by simp [h0]
    by_cases h1 : inB 0 2 k = true <;> by_cases h2 : inB 0 6 b = true
    all_goals
      try rw [Bool.not_eq_true] at h1
      try rw [Bool.not_eq_true] at h2
      go_enter Try.func51, Try.ntmps51
      go_wp2_with (go_at_call 58; refine (within_any _ _ _ _).mono ?_; rintro e w' ⟨rfl, rfl⟩)
      go_ret
      refine ⟨ret_bool ?_, by (repeat (first | assumption | exact Below.refl _ _ | refine belowThen ?_ (Go.Joins.below_alloc1 _ _) | apply Below.drew | refine belowThen ?_ (by assumption) | refine belowThen ?_ (Go.Joins.below_draws _ _ _) | refine Below.setCell ?_ (by first | exact Nat.le_refl _ | (simp; done) | (simp; omega)) _))⟩
      simp only [inB_iff, inB_not] at h1 h2
      simp [stateB, h0, inB]
      try omega
theorem state_cases {b k : Int} (h : stateB b k = true) : k = 0 ∨ (k = 1 ∧ 0 ≤ b ∧ b ≤ 6) ∨ (k = 2 ∧ 0 ≤ b ∧ b ≤ 6) := by
  unfold stateB at h; split at h
  · left; assumption
  · simp [inB] at h; omega
theorem l7Fault_any (b k : Int) (w : World) (h : stateB b k = true) : Calls Try.prog 50 #[.agg #[.int .i64 b, .int .i64 k]] w
    fun e w' => e = .returned (.agg #[.int .i64 (stateBar 1 b k), .int .i64 (stateBar 2 b k)]) ∧ Below w.heap.size w w' := by
  rcases state_cases h with rfl | ⟨rfl, hb1, hb2⟩ | ⟨rfl, hb1, hb2⟩
  · go_enter Try.func50, Try.ntmps50
    go_wp2
    exact bodyPost_ret (v := .agg #[.int .i64 0, .int .i64 0]) (by simp [results, Try.results50, go_sem]) rfl ⟨by simp [stateBar], by (repeat (first | assumption | exact Below.refl _ _ | refine belowThen ?_ (Go.Joins.below_alloc1 _ _) | apply Below.drew | refine belowThen ?_ (by assumption) | refine belowThen ?_ (Go.Joins.below_draws _ _ _) | refine Below.setCell ?_ (by first | exact Nat.le_refl _ | (simp; done) | (simp; omega)) _))⟩
  · go_enter Try.func50, Try.ntmps50
    go_wp2
    exact bodyPost_ret (v := .agg #[.int .i64 (wrap64 (2 ^ b.toNat)), .int .i64 0]) (by simp [results, Try.results50, go_sem]) rfl ⟨by simp [stateBar], by (repeat (first | assumption | exact Below.refl _ _ | refine belowThen ?_ (Go.Joins.below_alloc1 _ _) | apply Below.drew | refine belowThen ?_ (by assumption) | refine belowThen ?_ (Go.Joins.below_draws _ _ _) | refine Below.setCell ?_ (by first | exact Nat.le_refl _ | (simp; done) | (simp; omega)) _))⟩
  · go_enter Try.func50, Try.ntmps50
    go_wp2
    exact bodyPost_ret (v := .agg #[.int .i64 0, .int .i64 (wrap64 (2 ^ b.toNat))]) (by simp [results, Try.results50, go_sem]) rfl ⟨by simp [stateBar], by (repeat (first | assumption | exact Below.refl _ _ | refine belowThen ?_ (Go.Joins.below_alloc1 _ _) | apply Below.drew | refine belowThen ?_ (by assumption) | refine belowThen ?_ (Go.Joins.below_draws _ _ _) | refine Below.setCell ?_ (by first | exact Nat.le_refl _ | (simp; done) | (simp; omega)) _))⟩
theorem stFault_any (b k : Int) (w : World) (h : stateB b k = true) : Calls Try.prog 52 #[.agg #[.int .i64 b, .int .i64 k]] w
    fun e w' => e = .returned (.agg #[.int .i64 (stateBar 1 b k), .int .i64 (stateBar 2 b k)]) ∧ Below w.heap.size w w' := by
  rcases state_cases h with rfl | ⟨rfl, hb1, hb2⟩ | ⟨rfl, hb1, hb2⟩
  · go_enter Try.func52, Try.ntmps52
    go_wp2
    exact bodyPost_ret (v := .agg #[.int .i64 0, .int .i64 0]) (by simp [results, Try.results52, go_sem]) rfl ⟨by simp [stateBar], by (repeat (first | assumption | exact Below.refl _ _ | refine belowThen ?_ (Go.Joins.below_alloc1 _ _) | apply Below.drew | refine belowThen ?_ (by assumption) | refine belowThen ?_ (Go.Joins.below_draws _ _ _) | refine Below.setCell ?_ (by first | exact Nat.le_refl _ | (simp; done) | (simp; omega)) _))⟩
  · go_enter Try.func52, Try.ntmps52
    go_wp2
    exact bodyPost_ret (v := .agg #[.int .i64 (wrap64 (2 ^ b.toNat)), .int .i64 0]) (by simp [results, Try.results52, go_sem]) rfl ⟨by simp [stateBar], by (repeat (first | assumption | exact Below.refl _ _ | refine belowThen ?_ (Go.Joins.below_alloc1 _ _) | apply Below.drew | refine belowThen ?_ (by assumption) | refine belowThen ?_ (Go.Joins.below_draws _ _ _) | refine Below.setCell ?_ (by first | exact Nat.le_refl _ | (simp; done) | (simp; omega)) _))⟩
  · go_enter Try.func52, Try.ntmps52
    go_wp2
    exact bodyPost_ret (v := .agg #[.int .i64 0, .int .i64 (wrap64 (2 ^ b.toNat))]) (by simp [results, Try.results52, go_sem]) rfl ⟨by simp [stateBar], by (repeat (first | assumption | exact Below.refl _ _ | refine belowThen ?_ (Go.Joins.below_alloc1 _ _) | apply Below.drew | refine belowThen ?_ (by assumption) | refine belowThen ?_ (Go.Joins.below_draws _ _ _) | refine Below.setCell ?_ (by first | exact Nat.le_refl _ | (simp; done) | (simp; omega)) _))⟩
/-- What FaultOfState gives: the two parts of the Fault. -/
def fosPart (kind b k : Int) : Int := if stateB b k = true then stateBar kind b k else 0
theorem FaultOfStateS_any (b k : Int) (w : World) : Calls Try.prog 16 #[.agg #[.int .i64 b, .int .i64 k]] w
    fun e w' => e = .returned (.tuple #[.agg #[.int .i64 (fosPart 1 b k), .int .i64 (fosPart 2 b k)], .bool (stateB b k)]) ∧ Below w.heap.size w w' := by
  by_cases h : stateB b k = true
  · have e1 : fosPart 1 b k = stateBar 1 b k := by simp [fosPart, h]
    have e2 : fosPart 2 b k = stateBar 2 b k := by simp [fosPart, h]
    rw [e1, e2]
    clear e1 e2
    go_enter Try.func16, Try.ntmps16
    go_wp2_with (first | (go_at_call 49; refine (l7State_any _ _ _).mono ?_; rintro e w1 ⟨rfl, hb1⟩; have hs1 := hb1.size; (try simp only [heapAlloc, heapSet] at hs1); have hc1 := cellRule hb1; have hf1 := frozenRule hb1) | (go_at_call 50; refine (l7Fault_any _ _ _ h).mono ?_; rintro e w2 ⟨rfl, hb2⟩; have hs2 := hb2.size; (try simp only [heapAlloc, heapSet] at hs2); have hc2 := cellRule hb2; have hf2 := frozenRule hb2))
    exact bodyPost_ret (v := .tuple #[.agg #[.int .i64 (stateBar 1 b k), .int .i64 (stateBar 2 b k)], .bool true]) (by simp [results, Try.results16, go_sem, ↓IntWalk.iteOmega, *]) rfl ⟨by simp [h], by (repeat (first | assumption | exact Below.refl _ _ | refine belowThen ?_ (Go.Joins.below_alloc1 _ _) | apply Below.drew | refine belowThen ?_ (by assumption) | refine belowThen ?_ (Go.Joins.below_draws _ _ _) | refine Below.setCell ?_ (by first | exact Nat.le_refl _ | (simp; done) | (simp; omega)) _))⟩
  · rw [Bool.not_eq_true] at h
    have e1 : fosPart 1 b k = 0 := by simp [fosPart, h]
    have e2 : fosPart 2 b k = 0 := by simp [fosPart, h]
    rw [e1, e2]
    clear e1 e2
    go_enter Try.func16, Try.ntmps16
    go_wp2_with (first | (go_at_call 49; refine (l7State_any _ _ _).mono ?_; rintro e w1 ⟨rfl, hb1⟩; have hs1 := hb1.size; (try simp only [heapAlloc, heapSet] at hs1); have hc1 := cellRule hb1; have hf1 := frozenRule hb1))
    exact bodyPost_ret (v := .tuple #[.agg #[.int .i64 0, .int .i64 0], .bool false]) (by simp [results, Try.results16, go_sem, ↓IntWalk.iteOmega, *]) rfl ⟨by simp [h], by (repeat (first | assumption | exact Below.refl _ _ | refine belowThen ?_ (Go.Joins.below_alloc1 _ _) | apply Below.drew | refine belowThen ?_ (by assumption) | refine belowThen ?_ (Go.Joins.below_draws _ _ _) | refine Below.setCell ?_ (by first | exact Nat.le_refl _ | (simp; done) | (simp; omega)) _))⟩
theorem FaultOfStateI_any (b k : Int) (w : World) : Calls Try.prog 18 #[.agg #[.int .i64 b, .int .i64 k]] w
    fun e w' => e = .returned (.tuple #[.agg #[.int .i64 (fosPart 1 b k), .int .i64 (fosPart 2 b k)], .bool (stateB b k)]) ∧ Below w.heap.size w w' := by
  by_cases h : stateB b k = true
  · have e1 : fosPart 1 b k = stateBar 1 b k := by simp [fosPart, h]
    have e2 : fosPart 2 b k = stateBar 2 b k := by simp [fosPart, h]
    rw [e1, e2]
    clear e1 e2
    go_enter Try.func18, Try.ntmps18
    go_wp2_with (first | (go_at_call 51; refine (IsState_any _ _ _).mono ?_; rintro e w1 ⟨rfl, hb1⟩; have hs1 := hb1.size; (try simp only [heapAlloc, heapSet] at hs1); have hc1 := cellRule hb1; have hf1 := frozenRule hb1) | (go_at_call 52; refine (stFault_any _ _ _ h).mono ?_; rintro e w2 ⟨rfl, hb2⟩; have hs2 := hb2.size; (try simp only [heapAlloc, heapSet] at hs2); have hc2 := cellRule hb2; have hf2 := frozenRule hb2))
    exact bodyPost_ret (v := .tuple #[.agg #[.int .i64 (stateBar 1 b k), .int .i64 (stateBar 2 b k)], .bool true]) (by simp [results, Try.results18, go_sem, ↓IntWalk.iteOmega, *]) rfl ⟨by simp [h], by (repeat (first | assumption | exact Below.refl _ _ | refine belowThen ?_ (Go.Joins.below_alloc1 _ _) | apply Below.drew | refine belowThen ?_ (by assumption) | refine belowThen ?_ (Go.Joins.below_draws _ _ _) | refine Below.setCell ?_ (by first | exact Nat.le_refl _ | (simp; done) | (simp; omega)) _))⟩
  · rw [Bool.not_eq_true] at h
    have e1 : fosPart 1 b k = 0 := by simp [fosPart, h]
    have e2 : fosPart 2 b k = 0 := by simp [fosPart, h]
    rw [e1, e2]
    clear e1 e2
    go_enter Try.func18, Try.ntmps18
    go_wp2_with (first | (go_at_call 51; refine (IsState_any _ _ _).mono ?_; rintro e w1 ⟨rfl, hb1⟩; have hs1 := hb1.size; (try simp only [heapAlloc, heapSet] at hs1); have hc1 := cellRule hb1; have hf1 := frozenRule hb1))
    exact bodyPost_ret (v := .tuple #[.agg #[.int .i64 0, .int .i64 0], .bool false]) (by simp [results, Try.results18, go_sem, ↓IntWalk.iteOmega, *]) rfl ⟨by simp [h], by (repeat (first | assumption | exact Below.refl _ _ | refine belowThen ?_ (Go.Joins.below_alloc1 _ _) | apply Below.drew | refine belowThen ?_ (by assumption) | refine belowThen ?_ (Go.Joins.below_draws _ _ _) | refine Below.setCell ?_ (by first | exact Nat.le_refl _ | (simp; done) | (simp; omega)) _))⟩
end Go.Proofs.Ytfjgleimdaailaa
