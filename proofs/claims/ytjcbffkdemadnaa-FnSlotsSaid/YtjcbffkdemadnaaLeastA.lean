/- Contracts of the reference's small functions on Slots. -/
import Derived.Test.YtjcbffkdemadnaaAppSl
import Derived.Test.YtjcbffkdemadnaaRdTD
import Derived.Test.YtjcbffkdemadnaaLtS
import Derived.Lib.Hide
import Derived.Deep.RegionLaw
namespace Go.Proofs.Ytjcbffkdemadnaa
open Go.RowKit

theorem l8Less_any (x y : Int × Int) (w : World) : Calls Try.prog 27 #[.agg #[.int .i64 x.1, .int .i64 x.2], .agg #[.int .i64 y.1, .int .i64 y.2]] w
    fun e w' => e = .returned (.bool (ltS x y)) ∧ Below w.heap.size w w' := by
  obtain ⟨x0, x1⟩ := x
  obtain ⟨y0, y1⟩ := y
  unfold ltS
  simp only
  by_cases h : x0 = y0
  · subst h
    have hne : (x0 != x0) = false := by simp
    have e : (decide (x0 < x0) || (decide (x0 = x0) && decide (x1 < y1))) = decide (x1 < y1) := by simp
    rw [e]
    have hA1 := @cellAlloc; have hA2 := @frozenAlloc; have hA3 := @setCellAlloc; go_enter Try.func27, Try.ntmps27
    go_wp2
    go_ret
    exact ⟨rfl, by (repeat (first | assumption | exact Below.refl _ _ | refine belowThen ?_ (Go.Joins.below_alloc1 _ _) | apply Below.drew | refine belowThen ?_ (by assumption) | refine belowThen ?_ (Go.Joins.below_draws _ _ _) | refine Below.setCell ?_ (by first | exact Nat.le_refl _ | (simp; done) | (simp; omega)) _))⟩
  · have hne : (x0 != y0) = true := by simpa using h
    have e : (decide (x0 < y0) || (decide (x0 = y0) && decide (x1 < y1))) = decide (x0 < y0) := by simp [h]
    rw [e]
    have hA1 := @cellAlloc; have hA2 := @frozenAlloc; have hA3 := @setCellAlloc; go_enter Try.func27, Try.ntmps27
    go_wp2
    go_ret
    exact ⟨rfl, by (repeat (first | assumption | exact Below.refl _ _ | refine belowThen ?_ (Go.Joins.below_alloc1 _ _) | apply Below.drew | refine belowThen ?_ (by assumption) | refine belowThen ?_ (Go.Joins.below_draws _ _ _) | refine Below.setCell ?_ (by first | exact Nat.le_refl _ | (simp; done) | (simp; omega)) _))⟩
end Go.Proofs.Ytjcbffkdemadnaa
