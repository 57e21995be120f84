/- The draws of chances: what they draw are numbers, whatever the code. -/
import Derived.Test.YtpcmlfohblglaaaCur
import Derived.Lib.Hide
namespace Go.Proofs.Ytpcmlfohblglaaa
open Go.RowKit

set_option maxHeartbeats 1600000 in
theorem flicker9O {w0 W : World} {b m : Nat} (h : CurO w0 W b m) (hm : m ≤ 999900) : Calls Try.prog 20 #[.pointer (some ⟨b, 0, none⟩)] W
    fun e w' => (∃ x y : Int, e = .returned (.tuple #[.int .i64 x, .int .i64 y])) ∧ CurO w0 w' b (m + 20) := by
  go_enter Try.func20, Try.ntmps20
  go_wp2_with (first
    | (go_at_call 38; refine (pickO _ (by assumption) (by omega)).mono ?_; rintro e w' ⟨⟨x, hx, hxn, rfl⟩, hc⟩; clear hxn)
    | (go_at_call 37; refine (amongA _ _ _ (by assumption) (by omega) (by rfl) (by decide) (by decide) (by rfl)).mono ?_; rintro e w' ⟨⟨z, hz, rfl⟩, hc⟩; (try have hz2 : 1 ≤ z ∧ z ≤ 10 := (by simp [intOf] at hz; omega)); clear hz))
  all_goals go_ret2
  all_goals exact ⟨⟨_, _, rfl⟩, CurO.mono (by assumption) (by omega)⟩
theorem digit9O {w0 W : World} {b m : Nat} (h : CurO w0 W b m) (hm : m ≤ 999900) : Calls Try.prog 32 #[.pointer (some ⟨b, 0, none⟩)] W
    fun e w' => (∃ x : Int, e = .returned (.int .i64 x)) ∧ CurO w0 w' b (m + 20) := by
  go_enter Try.func32, Try.ntmps32
  go_wp2_with (first
    | (go_at_call 38; refine (pickO _ (by assumption) (by omega)).mono ?_; rintro e w' ⟨⟨x, hx, hxn, rfl⟩, hc⟩)
    | (go_at_call 39; refine (oneO _ (by assumption) (by omega)).mono ?_; rintro e w' ⟨⟨q, rfl⟩, hc⟩)
    | (go_at_call 37; refine (amongA _ _ _ (by assumption) (by omega) (by rfl) (by decide) (by decide) (by rfl)).mono ?_; rintro e w' ⟨⟨z, hz, rfl⟩, hc⟩))
  all_goals go_ret
  all_goals exact ⟨⟨_, rfl⟩, CurO.mono (by assumption) (by omega)⟩
theorem DrawChanceFlicker_any (ao : Option Addr) (n cap : Nat) (w : World) (h : RdY w ao n) : Calls Try.prog 5 #[.slice ao n cap] w
    fun e w' => (∃ x y p q : Int, e = .returned (.tuple #[.int .i64 x, .int .i64 y, .int .i64 p, .int .i64 q])) ∧ Below w.heap.size w w' := by
  have hc0 := Cur_new w ao n cap 41 h
  go_enter Try.func5, Try.ntmps5
  go_wp2_with (first
    | (go_at_call 20; refine (flicker9O (by assumption) (by omega)).mono ?_; rintro e w' ⟨⟨x, y, rfl⟩, hc⟩)
    | (go_at_call 21; refine (cellO (by assumption) (by omega)).mono ?_; rintro e w' ⟨⟨x, rfl⟩, hc⟩))
  refine bodyPost_ret (results_four rfl _ _ _) rfl ?_
  exact ⟨⟨_, _, _, _, rfl⟩, CurO.new (by assumption)⟩
theorem DrawChanceReadAs_any (ao : Option Addr) (n cap : Nat) (w : World) (h : RdY w ao n) : Calls Try.prog 8 #[.slice ao n cap] w
    fun e w' => (∃ x y p q : Int, e = .returned (.tuple #[.int .i64 x, .int .i64 y, .int .i64 p, .int .i64 q])) ∧ Below w.heap.size w w' := by
  have hc0 := Cur_new w ao n cap 41 h
  go_enter Try.func8, Try.ntmps8
  go_wp2_with (first
    | (go_at_call 20; refine (flicker9O (by assumption) (by omega)).mono ?_; rintro e w' ⟨⟨x, y, rfl⟩, hc⟩)
    | (go_at_call 32; refine (digit9O (by assumption) (by omega)).mono ?_; rintro e w' ⟨⟨x, rfl⟩, hc⟩))
  refine bodyPost_ret (results_four rfl _ _ _) rfl ?_
  exact ⟨⟨_, _, _, _, rfl⟩, CurO.new (by assumption)⟩
theorem DrawChanceNoDigit_any (ao : Option Addr) (n cap : Nat) (w : World) (h : RdY w ao n) : Calls Try.prog 12 #[.slice ao n cap] w
    fun e w' => (∃ x p q : Int, e = .returned (.tuple #[.int .i64 x, .int .i64 p, .int .i64 q])) ∧ Below w.heap.size w w' := by
  have hc0 := Cur_new w ao n cap 41 h
  go_enter Try.func12, Try.ntmps12
  go_wp2_with (first
    | (go_at_call 20; refine (flicker9O (by assumption) (by omega)).mono ?_; rintro e w' ⟨⟨x, y, rfl⟩, hc⟩)
    | (go_at_call 32; refine (digit9O (by assumption) (by omega)).mono ?_; rintro e w' ⟨⟨x, rfl⟩, hc⟩))
  refine bodyPost_ret (results_three rfl _ _ _) rfl ?_
  exact ⟨⟨_, _, _, rfl⟩, CurO.new (by assumption)⟩
theorem DrawChancesFor_any (ao : Option Addr) (n cap : Nat) (w : World) (h : RdY w ao n) : Calls Try.prog 15 #[.slice ao n cap] w
    fun e w' => (∃ x p q : Int, e = .returned (.tuple #[.int .i64 x, .int .i64 p, .int .i64 q])) ∧ Below w.heap.size w w' := by
  have hc0 := Cur_new w ao n cap 41 h
  go_enter Try.func15, Try.ntmps15
  go_wp2_with (first
    | (go_at_call 20; refine (flicker9O (by assumption) (by omega)).mono ?_; rintro e w' ⟨⟨x, y, rfl⟩, hc⟩)
    | (go_at_call 21; refine (cellO (by assumption) (by omega)).mono ?_; rintro e w' ⟨⟨x, rfl⟩, hc⟩))
  refine bodyPost_ret (results_three rfl _ _ _) rfl ?_
  exact ⟨⟨_, _, _, rfl⟩, CurO.new (by assumption)⟩
end Go.Proofs.Ytpcmlfohblglaaa
