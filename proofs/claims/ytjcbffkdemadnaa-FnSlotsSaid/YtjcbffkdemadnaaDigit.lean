/- Contracts of the functions on digits and their cells. -/
import Derived.Test.YtjcbffkdemadnaaPlain
import Derived.Test.YtjcbffkdemadnaaCell
namespace Go.Proofs.Ytjcbffkdemadnaa
open Go.RowKit

theorem l2Digit_any (d : Nat) (hd : d < 10) (w : World) : Calls Try.prog 86 #[.int .i64 d] w
    fun e w' => e = .returned (.int .i64 (digC d)) ∧ Below w.heap.size w w' := by
  have hA1 := @cellAlloc
  have h10 : (d : Int) < 10 := by omega
  have hi : ∀ h, ([Value.int .i64 63, .int .i64 6, .int .i64 91, .int .i64 79, .int .i64 102, .int .i64 109, .int .i64 125, .int .i64 7, .int .i64 127, .int .i64 111] : List Value)[d]'h = .int .i64 (digC d) := by
    match d, hd with
    | 0, _ => exact fun _ => rfl
    | 1, _ => exact fun _ => rfl
    | 2, _ => exact fun _ => rfl
    | 3, _ => exact fun _ => rfl
    | 4, _ => exact fun _ => rfl
    | 5, _ => exact fun _ => rfl
    | 6, _ => exact fun _ => rfl
    | 7, _ => exact fun _ => rfl
    | 8, _ => exact fun _ => rfl
    | 9, _ => exact fun _ => rfl
    | n + 10, h => omega
  go_enter Try.func86, Try.ntmps86
  go_wp2
  go_ret
  exact ⟨rfl, by (repeat (first | assumption | exact Below.refl _ _ | refine belowThen ?_ (Go.Joins.below_alloc1 _ _) | apply Below.drew | refine belowThen ?_ (by assumption) | refine belowThen ?_ (Go.Joins.below_draws _ _ _) | refine Below.setCell ?_ (by first | exact Nat.le_refl _ | (simp; done) | (simp; omega)) _))⟩
end Go.Proofs.Ytjcbffkdemadnaa
