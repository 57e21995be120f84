/- Two arrays of two numbers that are the same are found equal. -/
import Derived.Test.YtanhhphdbahgpaaDoorBase
import Derived.Lib.Hide
import Derived.Deep.QuietTactic
import Derived.BigQuiet
namespace Go.Proofs.YtanhhphdbahgpaaDoor
open Go.RowKit
theorem eqIntA2_same (a b : Int) (w : World) : Calls Tryd.prog 7 #[.agg #[.int .i64 a, .int .i64 b], .agg #[.int .i64 a, .int .i64 b]] w
    fun e w' => e = .returned (.bool true) ∧ Below w.heap.size w w' := by
  have hA1 := @cellAlloc; have hA2 := @frozenAlloc; have hA3 := @setCellAlloc; go_enter Tryd.func7, Tryd.ntmps7
  go_wp2
  go_loopw [5] (fun i wr => ∃ k : Nat, k ≤ 2 ∧ i = .int .i64 k ∧ Below (w.heap.size + 2) ((w.alloc (.cells #[.int .i64 a, .int .i64 b] 22)).alloc (.cells #[.int .i64 a, .int .i64 b] 22)) wr) (fun i _ => 2 - (intOf i).toNat)
  case atStart => exact ⟨0, by omega, rfl, Below.refl _ _⟩
  case round =>
    obtain ⟨k, hk, rfl, hbw⟩ := hrel
    by_cases hlt : k < 2
    · obtain ⟨x, hx1, hx2⟩ : ∃ x : Int, wr.cell? ⟨w.heap.size, k, none⟩ = some (.int .i64 x) ∧ wr.cell? ⟨w.heap.size + 1, k, none⟩ = some (.int .i64 x) := by
        have g1 : wr.cell? ⟨w.heap.size, k, none⟩ = (#[Value.int .i64 a, .int .i64 b] : Array Value)[k]? := by
          rw [hbw.cell (p := ⟨w.heap.size, k, none⟩) (by show w.heap.size < _; omega), World.cell?_alloc_past _ _ _ (by simp), World.cell?_alloc_at _ _ _ _ rfl]
        have g2 : wr.cell? ⟨w.heap.size + 1, k, none⟩ = (#[Value.int .i64 a, .int .i64 b] : Array Value)[k]? := by
          rw [hbw.cell (p := ⟨w.heap.size + 1, k, none⟩) (by show w.heap.size + 1 < _; omega), World.cell?_alloc_at _ _ _ _ (by simp)]
        rcases (by omega : k = 0 ∨ k = 1) with rfl | rfl
        · exact ⟨a, g1, g2⟩
        · exact ⟨b, g1, g2⟩
      go_wp2_with fail
      go_quiet (fail)
      go_wp2
      go_roundw
      case rel => exact ⟨k + 1, by omega, by go_num, hbw.trans (Go.Joins.below_draws _ _ _)⟩
      case measure => simp [intOf]; omega
    · go_wp2
      go_ret
      exact ⟨rfl, (Go.Joins.below_alloc2 w _ _).trans (hbw.mono (by omega))⟩
end Go.Proofs.YtanhhphdbahgpaaDoor
