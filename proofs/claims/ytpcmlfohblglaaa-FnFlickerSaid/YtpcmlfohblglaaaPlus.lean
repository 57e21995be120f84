/- The contract of the law's own sum of two fractions. -/
import Derived.Test.YtpcmlfohblglaaaRed
import Derived.Test.YtpcmlfohblglaaaFrac
import Derived.Lib.Hide
namespace Go.Proofs.Ytpcmlfohblglaaa
open Go.RowKit

theorem div_nat (a g : Nat) (ha : a ≤ 100000000000000000) (hg : 0 < g) : wrap64 ((a : Int) / (g : Int)) = ((a / g : Nat) : Int) := by
  rw [Int.natCast_ediv, IntWalk.wrap64_in _ ⟨?_, ?_⟩]
  · have := Int.ediv_nonneg (a := (a : Int)) (b := (g : Int)) (by omega) (by omega); omega
  · have := Int.ediv_le_self (a := (a : Int)) (g : Int) (by omega); omega
theorem mul_le8 {a b : Nat} (ha : a ≤ 100000000) (hb : b ≤ 100000000) : a * b ≤ 10000000000000000 := Nat.mul_le_mul ha hb
set_option maxHeartbeats 1600000 in
theorem vPlus_any (x1 y1 x2 y2 : Nat) (w : World) (hx1 : x1 ≤ 100000000) (hy1 : y1 ≤ 100000000) (hx2 : x2 ≤ 100000000) (hy2 : y2 ≤ 100000000) (h1 : 0 < y1) (h2 : 0 < y2) :
    Calls Try.prog 19 #[.agg #[.int .i64 x1, .int .i64 y1], .agg #[.int .i64 x2, .int .i64 y2]] w
    fun e w' => e = .returned (.agg #[.int .i64 ((plusN x1 y1 x2 y2).1 : Int), .int .i64 ((plusN x1 y1 x2 y2).2 : Int)]) ∧ Below w.heap.size w w' := by
  have hg0 : 0 < Nat.gcd y1 y2 := Nat.gcd_pos_of_pos_right _ h2
  have hgl : Nat.gcd y1 y2 ≤ y2 := Nat.le_of_dvd h2 (Nat.gcd_dvd_right y1 y2)
  have hu := Nat.div_le_self y1 (Nat.gcd y1 y2)
  have hv := Nat.div_le_self y2 (Nat.gcd y1 y2)
  have hu0 : 0 < y1 / Nat.gcd y1 y2 := Nat.div_pos (Nat.le_of_dvd h1 (Nat.gcd_dvd_left y1 y2)) hg0
  have hd1 := div_nat y1 (Nat.gcd y1 y2) (by omega) hg0
  have hd2 := div_nat y2 (Nat.gcd y1 y2) (by omega) hg0
  unfold plusN red
  generalize hG : Nat.gcd y1 y2 = G at *
  have HG := Lib.hid hG
  clear hG
  generalize y1 / G = u at *
  generalize y2 / G = v at *
  have m1 := mul_le8 (a := x1) (b := v) hx1 (by omega)
  have m2 := mul_le8 (a := x2) (b := u) hx2 (by omega)
  have m3 := mul_le8 (a := u) (b := y2) (by omega) hy2
  have m3p : 0 < u * y2 := Nat.mul_pos hu0 h2
  have c1 : (x1 : Int) * (v : Int) = ((x1 * v : Nat) : Int) := by simp
  have c2 : (x2 : Int) * (u : Int) = ((x2 * u : Nat) : Int) := by simp
  have c3 : (u : Int) * (y2 : Int) = ((u * y2 : Nat) : Int) := by simp
  generalize x1 * v = t1 at *
  generalize x2 * u = t2 at *
  generalize u * y2 = bo at *
  obtain ⟨H, hH⟩ : ∃ H, Nat.gcd (t1 + t2) bo = H := ⟨_, rfl⟩
  have hH0 : 0 < H := by rw [← hH]; exact Nat.gcd_pos_of_pos_right _ m3p
  rw [hH]
  have ct : (t1 : Int) + (t2 : Int) = ((t1 + t2 : Nat) : Int) := by simp
  have htt : t1 + t2 ≤ 20000000000000000 := by omega
  generalize t1 + t2 = tt at hH ct htt ⊢
  have CT := Lib.hid ct
  have HH := Lib.hid hH
  clear hH ct
  have k0 : ∀ j, (((w.alloc (.cells #[.int .i64 x1, .int .i64 y1] 26)).alloc (.cells #[.int .i64 x2, .int .i64 y2] 26)).alloc (.cells #[.int .i64 0, .int .i64 0] 26)).cell? ⟨w.heap.size, j, none⟩ = (#[.int .i64 x1, .int .i64 y1] : Array Value)[j]? := fun j => by
    rw [(Go.Joins.below_alloc1 _ _).cell (p := ⟨w.heap.size, j, none⟩) (by simp <;> omega), (Go.Joins.below_alloc1 _ _).cell (p := ⟨w.heap.size, j, none⟩) (by simp)]
    exact World.cell?_alloc_at _ _ _ _ rfl
  have k1 : ∀ j, (((w.alloc (.cells #[.int .i64 x1, .int .i64 y1] 26)).alloc (.cells #[.int .i64 x2, .int .i64 y2] 26)).alloc (.cells #[.int .i64 0, .int .i64 0] 26)).cell? ⟨w.heap.size + 1, j, none⟩ = (#[.int .i64 x2, .int .i64 y2] : Array Value)[j]? := fun j => by
    rw [(Go.Joins.below_alloc1 _ _).cell (p := ⟨w.heap.size + 1, j, none⟩) (by simp)]
    exact World.cell?_alloc_at _ _ _ _ (by simp)
  have k2 : ∀ j, (((w.alloc (.cells #[.int .i64 x1, .int .i64 y1] 26)).alloc (.cells #[.int .i64 x2, .int .i64 y2] 26)).alloc (.cells #[.int .i64 0, .int .i64 0] 26)).cell? ⟨w.heap.size + 1 + 1, j, none⟩ = (#[.int .i64 0, .int .i64 0] : Array Value)[j]? := fun j => World.cell?_alloc_at _ _ _ _ (by simp)
  have k3 : ∀ j, (((w.alloc (.cells #[.int .i64 x1, .int .i64 y1] 26)).alloc (.cells #[.int .i64 x2, .int .i64 y2] 26)).alloc (.cells #[.int .i64 0, .int .i64 0] 26)).frozen? ⟨w.heap.size + 1 + 1, j, none⟩ = false := fun j => World.frozen?_alloc_at _ _ _ _ (by simp)
  have kb : Below w.heap.size w (((w.alloc (.cells #[.int .i64 x1, .int .i64 y1] 26)).alloc (.cells #[.int .i64 x2, .int .i64 y2] 26)).alloc (.cells #[.int .i64 0, .int .i64 0] 26)) := ((Go.Joins.below_alloc1 _ _).alloc (by simp <;> omega) _).alloc (by simp <;> omega) _
  have ks : (((w.alloc (.cells #[.int .i64 x1, .int .i64 y1] 26)).alloc (.cells #[.int .i64 x2, .int .i64 y2] 26)).alloc (.cells #[.int .i64 0, .int .i64 0] 26)).heap.size = w.heap.size + 3 := by simp
  have K0 := Lib.hid k0
  have K1 := Lib.hid k1
  have K2 := Lib.hid k2
  have K3 := Lib.hid k3
  have KB := Lib.hid kb
  have KS := Lib.hid ks
  clear k0 k1 k2 k3 kb ks
  have hA1 := @cellAlloc; have hA2 := @frozenAlloc; have hA3 := @setCellAlloc; go_enter Try.func19, Try.ntmps19
  go_wp2_with fail
  go_quiet (fail)
  go_wp2_with fail
  generalize ((w.alloc (.cells #[.int .i64 x1, .int .i64 y1] 26)).alloc (.cells #[.int .i64 x2, .int .i64 y2] 26)).alloc (.cells #[.int .i64 0, .int .i64 0] 26) = W3 at *
  go_loopw [5, 6] (fun a c wr => ∃ g r : Nat, a = .int .i64 g ∧ c = .int .i64 r ∧ Nat.gcd g r = G ∧ g ≤ 100000000 ∧ r ≤ 100000000 ∧ Below (w.heap.size + 3) W3 wr) (fun _ c _ => (intOf c).toNat)
  case atStart => exact ⟨y1, y2, rfl, rfl, HG.out, hy1, hy2, Go.Joins.below_draws _ _ _⟩
  case round =>
    obtain ⟨g, r, rfl, rfl, hgr, hgl2, hrl, hbw⟩ := hrel
    by_cases h0 : r = 0
    · subst h0
      simp only [Nat.gcd_zero_right] at hgr
      subst hgr
      have p0 : wr.cell? ⟨w.heap.size, 0, none⟩ = some (.int .i64 x1) := (hbw.cell (p := ⟨w.heap.size, 0, none⟩) (by show w.heap.size < _; omega)).trans (K0.out 0)
      have p1 : wr.cell? ⟨w.heap.size, 1, none⟩ = some (.int .i64 y1) := (hbw.cell (p := ⟨w.heap.size, 1, none⟩) (by show w.heap.size < _; omega)).trans (K0.out 1)
      have p2 : wr.cell? ⟨w.heap.size + 1, 0, none⟩ = some (.int .i64 x2) := (hbw.cell (p := ⟨w.heap.size + 1, 0, none⟩) (by show w.heap.size + 1 < _; omega)).trans (K1.out 0)
      have p3 : wr.cell? ⟨w.heap.size + 1, 1, none⟩ = some (.int .i64 y2) := (hbw.cell (p := ⟨w.heap.size + 1, 1, none⟩) (by show w.heap.size + 1 < _; omega)).trans (K1.out 1)
      go_wp2_with fail
      go_quiet (fail)
      go_wp2_with fail
      clear p0 p1 p2 p3 hd1 hd2
      have hbw2 : Below (w.heap.size + 3) W3 (wr.drewN nq) := hbw.trans (Go.Joins.below_draws _ _ _)
      generalize wr.drewN nq = w5 at hbw2 ⊢
      rw [CT.out]
      go_loopw [5, 6] (fun a c wr => ∃ g r : Nat, a = .int .i64 g ∧ c = .int .i64 r ∧ Nat.gcd g r = H ∧ g ≤ 20000000000000000 ∧ r ≤ 20000000000000000 ∧ Below (w.heap.size + 3) W3 wr) (fun _ c _ => (intOf c).toNat)
      case atStart => exact ⟨tt, bo, rfl, rfl, HH.out, by omega, by omega, hbw2⟩
      case round =>
        obtain ⟨g2, r2, rfl, rfl, hgr2, hgl3, hrl3, hbw3⟩ := hrel
        by_cases h0 : r2 = 0
        · subst h0
          simp only [Nat.gcd_zero_right] at hgr2
          subst hgr2
          have q0 : wr.cell? ⟨w.heap.size + 1 + 1, 0, none⟩ = some (.int .i64 0) := (hbw3.cell (p := ⟨w.heap.size + 1 + 1, 0, none⟩) (by show w.heap.size + 1 + 1 < _; omega)).trans (K2.out 0)
          have q1 : wr.cell? ⟨w.heap.size + 1 + 1, 1, none⟩ = some (.int .i64 0) := (hbw3.cell (p := ⟨w.heap.size + 1 + 1, 1, none⟩) (by show w.heap.size + 1 + 1 < _; omega)).trans (K2.out 1)
          have f0 : wr.frozen? ⟨w.heap.size + 1 + 1, 0, none⟩ = false := (hbw3.frozen (p := ⟨w.heap.size + 1 + 1, 0, none⟩) (by show w.heap.size + 1 + 1 < _; omega)).trans (K3.out 0)
          have f1 : wr.frozen? ⟨w.heap.size + 1 + 1, 1, none⟩ = false := (hbw3.frozen (p := ⟨w.heap.size + 1 + 1, 1, none⟩) (by show w.heap.size + 1 + 1 < _; omega)).trans (K3.out 1)
          have hx1 : (1 : Int) ≤ (g2 : Int) := by omega
          have e1 := div_nat tt g2 (by omega) hH0
          have e2 := div_nat bo g2 (by omega) hH0
          go_wp2_with fail
          go_region
          rw [e1, e2]
          go_wp2
          exact bodyPost_ret (v := .agg #[.int .i64 ((tt / g2 : Nat) : Int), .int .i64 ((bo / g2 : Nat) : Int)]) (by simp [results, Try.results19, go_sem, ↓IntWalk.iteOmega, q0, q1]) rfl ⟨rfl, (((KB.out.trans (hbw3.mono (by omega))).setCell (Nat.le_trans (Nat.le_succ _) (Nat.le_succ _)) _).setCell (Nat.le_trans (Nat.le_succ _) (Nat.le_succ _)) _).drew⟩
        · have hpos : (0 : Int) < (r2 : Int) := by omega
          have hne : ((r2 : Int) == 0) = false := by simp; omega
          have hmod : g2 % r2 < r2 := Nat.mod_lt _ (by omega)
          have hxy := (gcd_turn g2 r2).trans hgr2
          have HXY := Lib.hid hxy
          clear hgr2 hxy
          go_wp2_with fail
          go_quiet (fail)
          go_wp2
          go_roundw
          case rel => exact ⟨r2, g2 % r2, rfl, by go_num, HXY.out, by omega, by omega, hbw3.trans (Go.Joins.below_draws _ _ _)⟩
          case measure => simp [intOf]; omega
    · have hpos : (0 : Int) < (r : Int) := by omega
      have hne : ((r : Int) == 0) = false := by simp; omega
      have hmod : g % r < r := Nat.mod_lt _ (by omega)
      have hxy := (gcd_turn g r).trans hgr
      have HXY := Lib.hid hxy
      clear hgr hxy
      go_wp2_with fail
      go_quiet (fail)
      go_wp2
      go_roundw
      case rel => exact ⟨r, g % r, rfl, by go_num, HXY.out, by omega, by omega, hbw.trans (Go.Joins.below_draws _ _ _)⟩
      case measure => simp [intOf]; omega
end Go.Proofs.Ytpcmlfohblglaaa
