/- Contracts of the functions on digits and their cells. -/
import Derived.Test.YtfdmcnnjifggnabGreatDoorPlain
import Derived.Test.YtfdmcnnjifggnabGreatDoorCell
namespace Go.Proofs.YtfdmcnnjifggnabGreatDoor
open Go.RowKit

theorem l2Digit_any (d : Nat) (hd : d < 10) (w : World) : Calls Tryz.prog 85 #[.int .i64 d] w
    fun e w' => e = .returned (.int .i64 (digC d)) ∧ Below w.heap.size w w' := by
  have hA1 := @cellAlloc
  have h10 : (d : Int) < 10 := by omega
  have hi : ∀ h, ([Value.int .i64 63, .int .i64 6, .int .i64 91, .int .i64 79, .int .i64 102, .int .i64 109, .int .i64 125, .int .i64 7, .int .i64 127, .int .i64 111] : List Value)[d]'h = .int .i64 (digC d) := by
    match d, hd with
    | 0, _ => exact fun _ => rfl
    | 1, _ => exact fun _ => rfl
    | 2, _ => exact fun _ => rfl
    | 3, _ => exact fun _ => rfl
    | 4, _ => exact fun _ => rfl
    | 5, _ => exact fun _ => rfl
    | 6, _ => exact fun _ => rfl
    | 7, _ => exact fun _ => rfl
    | 8, _ => exact fun _ => rfl
    | 9, _ => exact fun _ => rfl
    | n + 10, h => omega
  go_enter Tryz.func85, Tryz.ntmps85
  go_wp2
  go_ret
  exact ⟨rfl, by (repeat (first | assumption | exact Below.refl _ _ | refine belowThen ?_ (Go.Joins.below_alloc1 _ _) | apply Below.drew | refine belowThen ?_ (by assumption) | refine belowThen ?_ (Go.Joins.below_draws _ _ _) | refine Below.setCell ?_ (by first | exact Nat.le_refl _ | (simp; done) | (simp; omega)) _))⟩
theorem digitCells_any (w : World) : Calls Tryz.prog 82 #[] w
    fun e w' => e = .returned (.agg #[.int .i64 63, .int .i64 6, .int .i64 91, .int .i64 79, .int .i64 102, .int .i64 109, .int .i64 125, .int .i64 7, .int .i64 127, .int .i64 111]) ∧ Below w.heap.size w w' := by
  go_enter Tryz.func82, Tryz.ntmps82
  go_wp2
  exact bodyPost_ret (v := .agg #[.int .i64 63, .int .i64 6, .int .i64 91, .int .i64 79, .int .i64 102, .int .i64 109, .int .i64 125, .int .i64 7, .int .i64 127, .int .i64 111]) (by simp [results, Tryz.results82, go_sem]) rfl ⟨rfl, by (repeat (first | assumption | exact Below.refl _ _ | refine belowThen ?_ (Go.Joins.below_alloc1 _ _) | apply Below.drew | refine belowThen ?_ (by assumption) | refine belowThen ?_ (Go.Joins.below_draws _ _ _) | refine Below.setCell ?_ (by first | exact Nat.le_refl _ | (simp; done) | (simp; omega)) _))⟩

set_option maxRecDepth 100000 in
/-- What the cells of digits are, at each place. -/
theorem digAgg (d : Nat) (hd : d < 10) (w : World) : (Instr.index 69 (.agg #[.int .i64 63, .int .i64 6, .int .i64 91, .int .i64 79, .int .i64 102, .int .i64 109, .int .i64 125, .int .i64 7, .int .i64 127, .int .i64 111]) (.int .i64 (d : Int))).run Tryz.prog w = .ok (.int .i64 (digC d)) w := by
  match d, hd with
  | 0, _ => rfl
  | 1, _ => rfl
  | 2, _ => rfl
  | 3, _ => rfl
  | 4, _ => rfl
  | 5, _ => rfl
  | 6, _ => rfl
  | 7, _ => rfl
  | 8, _ => rfl
  | 9, _ => rfl
  | n + 10, h => omega
end Go.Proofs.YtfdmcnnjifggnabGreatDoor
