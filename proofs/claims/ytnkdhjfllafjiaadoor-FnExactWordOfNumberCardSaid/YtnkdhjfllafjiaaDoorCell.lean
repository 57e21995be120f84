/- Contracts of the functions that only look at one number. -/
import Derived.Test.YtnkdhjfllafjiaaDoorBase
namespace Go.Proofs.YtnkdhjfllafjiaaDoor
open Go.RowKit

theorem l1In_any (x a b : Int) (w : World) : Calls Tryd.prog 33 #[.int .i64 x, .int .i64 a, .int .i64 b] w
    fun e w' => e = .returned (.bool (inB a b x)) ∧ w = w' := by
  go_enter Tryd.func33, Tryd.ntmps33
  go_wp2
  all_goals go_ret
  all_goals refine ⟨ret_bool ?_, rfl⟩
  all_goals simp [inB]
  all_goals omega
theorem within_any (x a b : Int) (w : World) : Calls Tryd.prog 61 #[.int .i64 x, .int .i64 a, .int .i64 b] w
    fun e w' => e = .returned (.bool (inB a b x)) ∧ w = w' := by
  go_enter Tryd.func61, Tryd.ntmps61
  go_wp2
  all_goals go_ret
  all_goals refine ⟨ret_bool ?_, rfl⟩
  all_goals simp [inB]
  all_goals omega
theorem l2Cell_any (x : Int) (w : World) : Calls Tryd.prog 53 #[.int .i64 x] w
    fun e w' => e = .returned (.bool (inB 0 127 x)) ∧ w = w' := by
  go_enter Tryd.func53, Tryd.ntmps53
  go_wp2_with (go_at_call 33; refine (l1In_any _ _ _ _).mono ?_; rintro e w' ⟨rfl, rfl⟩)
  go_ret
  exact ⟨rfl, rfl⟩
theorem IsCell_any (x : Int) (w : World) : Calls Tryd.prog 59 #[.int .i64 x] w
    fun e w' => e = .returned (.bool (inB 0 127 x)) ∧ w = w' := by
  go_enter Tryd.func59, Tryd.ntmps59
  go_wp2_with (go_at_call 61; refine (within_any _ _ _ _).mono ?_; rintro e w' ⟨rfl, rfl⟩)
  go_ret
  exact ⟨rfl, rfl⟩
end Go.Proofs.YtnkdhjfllafjiaaDoor
