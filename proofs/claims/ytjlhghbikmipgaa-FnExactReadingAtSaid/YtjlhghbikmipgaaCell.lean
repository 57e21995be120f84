/- Contracts of the functions that only look at one number. -/
import Derived.Test.YtjlhghbikmipgaaBase
namespace Go.Proofs.Ytjlhghbikmipgaa
open Go.RowKit

theorem l1In_any (x a b : Int) (w : World) : Calls Try.prog 31 #[.int .i64 x, .int .i64 a, .int .i64 b] w
    fun e w' => e = .returned (.bool (inB a b x)) ∧ w = w' := by
  go_enter Try.func31, Try.ntmps31
  go_wp2
  all_goals go_ret
  all_goals refine ⟨ret_bool ?_, rfl⟩
  all_goals simp [inB]
  all_goals omega
theorem within_any (x a b : Int) (w : World) : Calls Try.prog 33 #[.int .i64 x, .int .i64 a, .int .i64 b] w
    fun e w' => e = .returned (.bool (inB a b x)) ∧ w = w' := by
  go_enter Try.func33, Try.ntmps33
  go_wp2
  all_goals go_ret
  all_goals refine ⟨ret_bool ?_, rfl⟩
  all_goals simp [inB]
  all_goals omega
theorem l2Cell_any (x : Int) (w : World) : Calls Try.prog 42 #[.int .i64 x] w
    fun e w' => e = .returned (.bool (inB 0 127 x)) ∧ w = w' := by
  go_enter Try.func42, Try.ntmps42
  go_wp2_with (go_at_call 31; refine (l1In_any _ _ _ _).mono ?_; rintro e w' ⟨rfl, rfl⟩)
  go_ret
  exact ⟨rfl, rfl⟩
theorem IsCell_any (x : Int) (w : World) : Calls Try.prog 44 #[.int .i64 x] w
    fun e w' => e = .returned (.bool (inB 0 127 x)) ∧ w = w' := by
  go_enter Try.func44, Try.ntmps44
  go_wp2_with (go_at_call 33; refine (within_any _ _ _ _).mono ?_; rintro e w' ⟨rfl, rfl⟩)
  go_ret
  exact ⟨rfl, rfl⟩
end Go.Proofs.Ytjlhghbikmipgaa
