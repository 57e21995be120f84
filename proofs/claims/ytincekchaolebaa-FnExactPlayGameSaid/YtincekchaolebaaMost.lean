/- The contract of the greater of two numbers. -/
import Derived.Test.YtincekchaolebaaBase
import Derived.Lib.Hide
namespace Go.Proofs.Ytincekchaolebaa
open Go.RowKit

theorem l1Most_any (x a : Int) (w : World) : Calls Try.prog 93 #[.int .i64 x, .int .i64 a] w
    fun e w' => e = .returned (.int .i64 (max x a)) ∧ w = w' := by
  go_enter Try.func93, Try.ntmps93
  go_wp2
  all_goals go_ret
  all_goals refine ⟨ret_int ?_, rfl⟩
  all_goals omega
end Go.Proofs.Ytincekchaolebaa
