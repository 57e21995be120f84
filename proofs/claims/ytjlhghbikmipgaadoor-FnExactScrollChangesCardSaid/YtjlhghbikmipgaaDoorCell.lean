/- Contracts of the functions that only look at one number. -/
import Derived.Test.YtjlhghbikmipgaaDoorBase
namespace Go.Proofs.YtjlhghbikmipgaaDoor
open Go.RowKit

theorem l1In_any (x a b : Int) (w : World) : Calls Tryd.prog 42 #[.int .i64 x, .int .i64 a, .int .i64 b] w
    fun e w' => e = .returned (.bool (inB a b x)) ∧ w = w' := by
  go_enter Tryd.func42, Tryd.ntmps42
  go_wp2
  all_goals go_ret
  all_goals refine ⟨ret_bool ?_, rfl⟩
  all_goals simp [inB]
  all_goals omega
theorem within_any (x a b : Int) (w : World) : Calls Tryd.prog 58 #[.int .i64 x, .int .i64 a, .int .i64 b] w
    fun e w' => e = .returned (.bool (inB a b x)) ∧ w = w' := by
  go_enter Tryd.func58, Tryd.ntmps58
  go_wp2
  all_goals go_ret
  all_goals refine ⟨ret_bool ?_, rfl⟩
  all_goals simp [inB]
  all_goals omega
end Go.Proofs.YtjlhghbikmipgaaDoor
