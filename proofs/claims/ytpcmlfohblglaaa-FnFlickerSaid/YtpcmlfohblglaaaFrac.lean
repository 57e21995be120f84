/- Contracts of the functions that cut a fraction. -/
import Derived.Test.YtpcmlfohblglaaaBase
import Derived.Lib.Hide
import Derived.Deep.QuietTactic
import Derived.BigQuiet
import Derived.Deep.RegionWith
namespace Go.Proofs.Ytpcmlfohblglaaa
open Go.RowKit

theorem gcd_turn (x y : Nat) : Nat.gcd y (x % y) = Nat.gcd x y := by
  rw [Nat.gcd_comm x y, Nat.gcd_rec y x, Nat.gcd_comm]
theorem l1Most_any (x a : Int) (w : World) : Calls Try.prog 42 #[.int .i64 x, .int .i64 a] w
    fun e w' => e = .returned (.int .i64 (max x a)) ∧ w = w' := by
  go_enter Try.func42, Try.ntmps42
  go_wp2
  all_goals go_ret
  all_goals refine ⟨ret_int ?_, rfl⟩
  all_goals omega
theorem fraction_any (a b : Nat) (ha : a ≤ 1000000000000) (hb : b ≤ 1000000000000) (hp : 0 < b) (w : World) : Calls Try.prog 24 #[.int .i64 a, .int .i64 b] w
    fun e w' => e = .returned (.agg #[.int .i64 ((a / Nat.gcd a b : Nat) : Int), .int .i64 ((b / Nat.gcd a b : Nat) : Int)]) ∧ Below w.heap.size w w' := by
  have hg0 : 0 < Nat.gcd a b := Nat.gcd_pos_of_pos_right _ hp
  obtain ⟨g, hg⟩ : ∃ g, Nat.gcd a b = g := ⟨_, rfl⟩
  rw [hg] at hg0 ⊢
  have HG := Lib.hid hg
  clear hg
  have hA1 := @cellAlloc; have hA2 := @frozenAlloc; have hA3 := @setCellAlloc; go_enter Try.func24, Try.ntmps24
  go_wp2
  go_loopw [5, 6] (fun u v wr => ∃ x y : Nat, u = .int .i64 x ∧ v = .int .i64 y ∧ Nat.gcd x y = g ∧ x ≤ 1000000000000 ∧ y ≤ 1000000000000 ∧ Below (w.heap.size + 1) (w.alloc (.cells #[.int .i64 0, .int .i64 0] 26)) wr) (fun _ v _ => (intOf v).toNat)
  case atStart => exact ⟨a, b, rfl, rfl, HG.out, ha, hb, Below.refl _ _⟩
  case round =>
    obtain ⟨x, y, rfl, rfl, hxy, hx, hy, hbw⟩ := hrel
    by_cases h0 : y = 0
    · subst h0
      simp only [Nat.gcd_zero_right] at hxy
      subst hxy
      have hx1 : (1 : Int) ≤ (x : Int) := by omega
      have hc0 : wr.cell? ⟨w.heap.size, 0, none⟩ = some (.int .i64 0) := (hbw.cell (p := ⟨w.heap.size, 0, none⟩) (by show w.heap.size < _; omega)).trans (World.cell?_alloc_at _ _ _ _ rfl)
      have hc1 : wr.cell? ⟨w.heap.size, 1, none⟩ = some (.int .i64 0) := (hbw.cell (p := ⟨w.heap.size, 1, none⟩) (by show w.heap.size < _; omega)).trans (World.cell?_alloc_at _ _ _ _ rfl)
      have hf0 : wr.frozen? ⟨w.heap.size, 0, none⟩ = false := (hbw.frozen (p := ⟨w.heap.size, 0, none⟩) (by show w.heap.size < _; omega)).trans (World.frozen?_alloc_at _ _ _ _ rfl)
      have hf1 : wr.frozen? ⟨w.heap.size, 1, none⟩ = false := (hbw.frozen (p := ⟨w.heap.size, 1, none⟩) (by show w.heap.size < _; omega)).trans (World.frozen?_alloc_at _ _ _ _ rfl)
      go_wp2_with fail
      go_region
      have e1 : wrap64 ((a : Int) / (x : Int)) = ((a / x : Nat) : Int) := by
        rw [Int.natCast_ediv, IntWalk.wrap64_in _ ⟨?_, ?_⟩]
        · have := Int.ediv_nonneg (a := (a : Int)) (b := (x : Int)) (by omega) (by omega); omega
        · have := Int.ediv_le_self (a := (a : Int)) (x : Int) (by omega); omega
      have e2 : wrap64 ((b : Int) / (x : Int)) = ((b / x : Nat) : Int) := by
        rw [Int.natCast_ediv, IntWalk.wrap64_in _ ⟨?_, ?_⟩]
        · have := Int.ediv_nonneg (a := (b : Int)) (b := (x : Int)) (by omega) (by omega); omega
        · have := Int.ediv_le_self (a := (b : Int)) (x : Int) (by omega); omega
      rw [e1, e2]
      go_wp2
      exact bodyPost_ret (v := .agg #[.int .i64 ((a / x : Nat) : Int), .int .i64 ((b / x : Nat) : Int)]) (by simp [results, Try.results24, go_sem, ↓IntWalk.iteOmega, hc0, hc1]) rfl ⟨rfl, ((((Go.Joins.below_alloc1 w _).trans (hbw.mono (by omega))).setCell (Nat.le_refl _) _).setCell (Nat.le_refl _) _).drew⟩
    · have hne : ((y : Int) != 0) = true := by simp; omega
      have hmod : x % y < y := Nat.mod_lt _ (by omega)
      have hxy2 := gcd_turn x y
      rw [hxy] at hxy2
      have HXY := Lib.hid hxy2
      clear hxy hxy2
      go_wp2_with fail
      go_quiet (fail)
      go_wp2
      go_roundw
      case rel => exact ⟨y, x % y, rfl, by go_num, HXY.out, by omega, by omega, hbw.trans (Go.Joins.below_draws _ _ _)⟩
      case measure => simp [intOf]; omega
theorem l9Cut_any (a b : Nat) (ha : a ≤ 1000000000000) (hb : b ≤ 1000000000000) (hp : 0 < b) (w : World) : Calls Try.prog 29 #[.int .i64 a, .int .i64 b] w
    fun e w' => e = .returned (.agg #[.int .i64 ((a / Nat.gcd a b : Nat) : Int), .int .i64 ((b / Nat.gcd a b : Nat) : Int)]) ∧ Below w.heap.size w w' := by
  have hg0 : 0 < Nat.gcd a b := Nat.gcd_pos_of_pos_right _ hp
  obtain ⟨g, hg⟩ : ∃ g, Nat.gcd a b = g := ⟨_, rfl⟩
  rw [hg] at hg0 ⊢
  have HG := Lib.hid hg
  clear hg
  have hA1 := @cellAlloc; have hA2 := @frozenAlloc; have hA3 := @setCellAlloc; go_enter Try.func29, Try.ntmps29
  go_wp2
  go_loopw [5, 6] (fun u v wr => ∃ x y : Nat, u = .int .i64 x ∧ v = .int .i64 y ∧ Nat.gcd x y = g ∧ x ≤ 1000000000000 ∧ y ≤ 1000000000000 ∧ Below (w.heap.size + 1) (w.alloc (.cells #[.int .i64 0, .int .i64 0] 26)) wr) (fun _ v _ => (intOf v).toNat)
  case atStart => exact ⟨a, b, rfl, rfl, HG.out, ha, hb, Below.refl _ _⟩
  case round =>
    obtain ⟨x, y, rfl, rfl, hxy, hx, hy, hbw⟩ := hrel
    by_cases h0 : y = 0
    · subst h0
      simp only [Nat.gcd_zero_right] at hxy
      subst hxy
      have hx1 : (1 : Int) ≤ (x : Int) := by omega
      have hc0 : wr.cell? ⟨w.heap.size, 0, none⟩ = some (.int .i64 0) := (hbw.cell (p := ⟨w.heap.size, 0, none⟩) (by show w.heap.size < _; omega)).trans (World.cell?_alloc_at _ _ _ _ rfl)
      have hc1 : wr.cell? ⟨w.heap.size, 1, none⟩ = some (.int .i64 0) := (hbw.cell (p := ⟨w.heap.size, 1, none⟩) (by show w.heap.size < _; omega)).trans (World.cell?_alloc_at _ _ _ _ rfl)
      have hf0 : wr.frozen? ⟨w.heap.size, 0, none⟩ = false := (hbw.frozen (p := ⟨w.heap.size, 0, none⟩) (by show w.heap.size < _; omega)).trans (World.frozen?_alloc_at _ _ _ _ rfl)
      have hf1 : wr.frozen? ⟨w.heap.size, 1, none⟩ = false := (hbw.frozen (p := ⟨w.heap.size, 1, none⟩) (by show w.heap.size < _; omega)).trans (World.frozen?_alloc_at _ _ _ _ rfl)
      have hm : max (x : Int) 1 = x := by omega
      have e1 : wrap64 ((a : Int) / (x : Int)) = ((a / x : Nat) : Int) := by
        rw [Int.natCast_ediv, IntWalk.wrap64_in _ ⟨?_, ?_⟩]
        · have := Int.ediv_nonneg (a := (a : Int)) (b := (x : Int)) (by omega) (by omega); omega
        · have := Int.ediv_le_self (a := (a : Int)) (x : Int) (by omega); omega
      have e2 : wrap64 ((b : Int) / (x : Int)) = ((b / x : Nat) : Int) := by
        rw [Int.natCast_ediv, IntWalk.wrap64_in _ ⟨?_, ?_⟩]
        · have := Int.ediv_nonneg (a := (b : Int)) (b := (x : Int)) (by omega) (by omega); omega
        · have := Int.ediv_le_self (a := (b : Int)) (x : Int) (by omega); omega
      have E1 := Lib.hid e1
      have E2 := Lib.hid e2
      clear e1 e2
      go_wp2_with fail
      go_region_with ((go_at_call 42; refine (l1Most_any _ _ _).mono ?_; rw [hm]; rintro e w' ⟨rfl, rfl⟩))
      all_goals
        simp only [IntWalk.i64_left, E1.out, E2.out]
        go_wp2
        exact bodyPost_ret (v := .agg #[.int .i64 ((a / x : Nat) : Int), .int .i64 ((b / x : Nat) : Int)]) (by simp [results, Try.results29, go_sem, ↓IntWalk.iteOmega, hc0, hc1]) rfl ⟨rfl, ((((Go.Joins.below_alloc1 w _).trans (hbw.mono (by omega))).setCell (Nat.le_refl _) _).setCell (Nat.le_refl _) _).drew⟩
    · have hne : (0 : Int) < (y : Int) := by omega
      have hmod : x % y < y := Nat.mod_lt _ (by omega)
      have hxy2 := gcd_turn x y
      rw [hxy] at hxy2
      have HXY := Lib.hid hxy2
      clear hxy hxy2
      go_wp2_with fail
      go_quiet (fail)
      go_wp2
      go_roundw
      case rel => exact ⟨y, x % y, rfl, by go_num, HXY.out, by omega, by omega, hbw.trans (Go.Joins.below_draws _ _ _)⟩
      case measure => simp [intOf]; omega
end Go.Proofs.Ytpcmlfohblglaaa
