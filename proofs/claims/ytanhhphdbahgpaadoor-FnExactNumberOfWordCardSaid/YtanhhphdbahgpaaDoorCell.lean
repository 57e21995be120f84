/- Contracts of the functions that only look at one number. -/
import Derived.Test.YtanhhphdbahgpaaDoorBase
namespace Go.Proofs.YtanhhphdbahgpaaDoor
open Go.RowKit

theorem l1In_any (x a b : Int) (w : World) : Calls Tryd.prog 10 #[.int .i64 x, .int .i64 a, .int .i64 b] w
    fun e w' => e = .returned (.bool (inB a b x)) ∧ w = w' := by
  go_enter Tryd.func10, Tryd.ntmps10
  go_wp2
  all_goals go_ret
  all_goals refine ⟨ret_bool ?_, rfl⟩
  all_goals simp [inB]
  all_goals omega
theorem within_any (x a b : Int) (w : World) : Calls Tryd.prog 14 #[.int .i64 x, .int .i64 a, .int .i64 b] w
    fun e w' => e = .returned (.bool (inB a b x)) ∧ w = w' := by
  go_enter Tryd.func14, Tryd.ntmps14
  go_wp2
  all_goals go_ret
  all_goals refine ⟨ret_bool ?_, rfl⟩
  all_goals simp [inB]
  all_goals omega
theorem IsCell_any (x : Int) (w : World) : Calls Tryd.prog 46 #[.int .i64 x] w
    fun e w' => e = .returned (.bool (inB 0 127 x)) ∧ w = w' := by
  go_enter Tryd.func46, Tryd.ntmps46
  go_wp2_with (go_at_call 14; refine (within_any _ _ _ _).mono ?_; rintro e w' ⟨rfl, rfl⟩)
  go_ret
  exact ⟨rfl, rfl⟩
end Go.Proofs.YtanhhphdbahgpaaDoor
