/- The contract of the greater of two numbers. -/
import Derived.Test.YtjcbffkdemadnaaBase
import Derived.Lib.Hide
namespace Go.Proofs.Ytjcbffkdemadnaa
open Go.RowKit

theorem l1Most_any (x a : Int) (w : World) : Calls Try.prog 49 #[.int .i64 x, .int .i64 a] w
    fun e w' => e = .returned (.int .i64 (max x a)) ∧ w = w' := by
  go_enter Try.func49, Try.ntmps49
  go_wp2
  all_goals go_ret
  all_goals refine ⟨ret_int ?_, rfl⟩
  all_goals omega
end Go.Proofs.Ytjcbffkdemadnaa
