/- The contract of the reference's distance of two cells. -/
import Derived.Test.YtfdmcnnjifggnabGreatDoorCount
namespace Go.Proofs.YtfdmcnnjifggnabGreatDoor
open Go.RowKit

theorem xor_lt (a b : Nat) (ha : a < 128) (hb : b < 128) : a ^^^ b < 128 := Nat.xor_lt_two_pow (n := 7) ha hb
theorem l2Far_any (a b : Nat) (ha : a < 128) (hb : b < 128) (w : World) : Calls Tryz.prog 99 #[.int .i64 a, .int .i64 b] w
    fun e w' => e = .returned (.int .i64 (cnt (a ^^^ b))) ∧ w = w' := by
  have hx := xor64 a b (by omega) (by omega)
  go_enter Tryz.func99, Tryz.ntmps99
  go_wp2_with (go_at_call 69; refine (l2Count_any _ (xor_lt a b ha hb) _).mono ?_; rintro e w' ⟨rfl, rfl⟩)
  go_ret
  exact ⟨rfl, rfl⟩
end Go.Proofs.YtfdmcnnjifggnabGreatDoor
