/- Contracts of the functions that only look at one number. -/
import Derived.Test.YtpcmlfohblglaabBase
namespace Go.Proofs.Ytpcmlfohblglaab
open Go.RowKit

theorem l1In_any (x a b : Int) (w : World) : Calls Try.prog 65 #[.int .i64 x, .int .i64 a, .int .i64 b] w
    fun e w' => e = .returned (.bool (inB a b x)) ∧ w = w' := by
  go_enter Try.func65, Try.ntmps65
  go_wp2
  all_goals go_ret
  all_goals refine ⟨ret_bool ?_, rfl⟩
  all_goals simp [inB]
  all_goals omega
theorem within_any (x a b : Int) (w : World) : Calls Try.prog 60 #[.int .i64 x, .int .i64 a, .int .i64 b] w
    fun e w' => e = .returned (.bool (inB a b x)) ∧ w = w' := by
  go_enter Try.func60, Try.ntmps60
  go_wp2
  all_goals go_ret
  all_goals refine ⟨ret_bool ?_, rfl⟩
  all_goals simp [inB]
  all_goals omega
theorem l2Cell_any (x : Int) (w : World) : Calls Try.prog 46 #[.int .i64 x] w
    fun e w' => e = .returned (.bool (inB 0 127 x)) ∧ w = w' := by
  go_enter Try.func46, Try.ntmps46
  go_wp2_with (go_at_call 65; refine (l1In_any _ _ _ _).mono ?_; rintro e w' ⟨rfl, rfl⟩)
  go_ret
  exact ⟨rfl, rfl⟩
theorem IsCell_any (x : Int) (w : World) : Calls Try.prog 43 #[.int .i64 x] w
    fun e w' => e = .returned (.bool (inB 0 127 x)) ∧ w = w' := by
  go_enter Try.func43, Try.ntmps43
  go_wp2_with (go_at_call 60; refine (within_any _ _ _ _).mono ?_; rintro e w' ⟨rfl, rfl⟩)
  go_ret
  exact ⟨rfl, rfl⟩
end Go.Proofs.Ytpcmlfohblglaab
