/- Contracts of the functions that only look at one number. -/
import Derived.Test.YtjcbffkdemadnaaBase
namespace Go.Proofs.Ytjcbffkdemadnaa
open Go.RowKit

theorem l1In_any (x a b : Int) (w : World) : Calls Try.prog 51 #[.int .i64 x, .int .i64 a, .int .i64 b] w
    fun e w' => e = .returned (.bool (inB a b x)) ∧ w = w' := by
  go_enter Try.func51, Try.ntmps51
  go_wp2
  all_goals go_ret
  all_goals refine ⟨ret_bool ?_, rfl⟩
  all_goals simp [inB]
  all_goals omega
theorem within_any (x a b : Int) (w : World) : Calls Try.prog 55 #[.int .i64 x, .int .i64 a, .int .i64 b] w
    fun e w' => e = .returned (.bool (inB a b x)) ∧ w = w' := by
  go_enter Try.func55, Try.ntmps55
  go_wp2
  all_goals go_ret
  all_goals refine ⟨ret_bool ?_, rfl⟩
  all_goals simp [inB]
  all_goals omega
theorem l2Cell_any (x : Int) (w : World) : Calls Try.prog 88 #[.int .i64 x] w
    fun e w' => e = .returned (.bool (inB 0 127 x)) ∧ w = w' := by
  go_enter Try.func88, Try.ntmps88
  go_wp2_with (go_at_call 51; refine (l1In_any _ _ _ _).mono ?_; rintro e w' ⟨rfl, rfl⟩)
  go_ret
  exact ⟨rfl, rfl⟩
theorem IsCell_any (x : Int) (w : World) : Calls Try.prog 72 #[.int .i64 x] w
    fun e w' => e = .returned (.bool (inB 0 127 x)) ∧ w = w' := by
  go_enter Try.func72, Try.ntmps72
  go_wp2_with (go_at_call 55; refine (within_any _ _ _ _).mono ?_; rintro e w' ⟨rfl, rfl⟩)
  go_ret
  exact ⟨rfl, rfl⟩
end Go.Proofs.Ytjcbffkdemadnaa
