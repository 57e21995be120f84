/- Joined texts: DrawP, EqP, RPairs. -/
import Derived.Test.YtcddfpbohejhhaaGreatMg19
import Derived.Test.YtcddfpbohejhhaaGreatMg11
import Derived.Lib.Hide
import Derived.Test.YtcddfpbohejhhaaGreatMg01
import Derived.Laws.StructEq
import Derived.ChangeKeysEq
import Derived.Test.YtcddfpbohejhhaaGreatMg12
namespace Go.Proofs.YtcddfpbohejhhaaGreat
open Go.RowKit

/-- Two short lists are returned that lie in new memory. -/
def RetOwn3 (W : World) (e : Ending) (w' : World) : Prop := ∃ (ad1 : Addr) (ao2 : Option Addr) (cap1 cap2 : Nat) (L1 L2 : List Int), e = .returned (.tuple #[.slice (some ad1) L1.length cap1, .slice ao2 L2.length cap2]) ∧ L1.length ≤ 6 ∧ L2.length ≤ 11 ∧
  ownsInts w' W.heap.size (.slice (some ad1) L1.length cap1) L1 ∧ ownsInts w' W.heap.size (.slice ao2 L2.length cap2) L2
set_option maxHeartbeats 3200000 in
theorem DrawLightWins3_any (ao : Option Addr) (n cap : Nat) (w : World) (h : RdY w ao n) : Calls Tryz.prog 50 #[.slice ao n cap] w fun e w' => RetOwn3 w e w' ∧ Below w.heap.size w w' := by
  have hc0 := Cur_new w ao n cap 72 h
  have hA1 := @cellAlloc; have hA2 := @frozenAlloc; have hA3 := @setCellAlloc; go_enter Tryz.func50, Tryz.ntmps50
  go_wp2_with (first
    | (go_at_call 83; refine (amongB _ _ _ _ (hc1.self.alloc _) (by simp) (by omega) (by rfl) (by decide) (by decide) (by rfl)).mono ?_; rintro e w2 ⟨⟨z, hz, rfl⟩, hc2⟩; have hz2 : 0 ≤ z ∧ z ≤ 6 := (by simp [intOf] at hz; omega); clear hz)
    | (go_at_call 62; refine (goalO hc0 (by omega)).mono ?_; rintro e w1 ⟨⟨ao1, cap1, L1, rfl, hL1, hown1⟩, hc1⟩))
  obtain ⟨k0, rfl⟩ := Int.eq_ofNat_of_zero_le hz2.1
  have hsz := hc1.2.size
  rw [heapAlloc] at hown1
  have hb1 : w.heap.size < w1.heap.size := hc1.1.lt
  go_loopw [6, 7] (fun v i wr => ∃ (k : Nat) (L2 : List Int), k ≤ 6 ∧ L2.length + k ≤ 6 ∧ i = .int .i64 k ∧ ownsInts wr w1.heap.size v L2 ∧ (∃ ad m c, v = .slice (some ad) m c) ∧ CurO w1 wr w.heap.size (700 - 60 * k)) (fun _ i _ => (intOf i).toNat)
  case atStart => exact ⟨k0, [], by omega, by show 0 + k0 ≤ 6; omega, rfl, ownsInts_zero _ _ _, ⟨_, _, _, rfl⟩, hc2.mono (by omega)⟩
  case round =>
    obtain ⟨k, L2, hk, hLk, rfl, hown, ⟨ad, m0, c0, rfl⟩, hcu⟩ := hrel
    have hwr := hcu.2.size
    have hgo := ownsG_onlyC hown1 (by omega : w.heap.size < w.heap.size + 1) hcu.2
    clear hc2
    obtain ⟨ao2, cap2, hsh, -⟩ := ownsInts_shape hown
    rw [Value.slice.injEq] at hsh
    obtain ⟨rfl, rfl, rfl⟩ := hsh
    by_cases h0 : k = 0
    · subst h0
      by_cases h1L : 1 < L2.length
      · obtain ⟨g, hadg, hBg, hg, hcell⟩ := own_first hown (by omega)
        obtain rfl := Option.some.inj hadg
        have hd1 : decide ((1 : Int) < (L2.length : Int)) = true := decide_eq_true (by omega)
        have hgb : g ≠ w.heap.size := by omega
        have hx0 := hcell 0 (by omega)
        have hx1 := hcell 1 (by omega)
        have hf1 := ownsInts_frozen hown (by omega) 1
        clear hcell
        have HO := Lib.hid hown
        have HG := Lib.hid hgo
        clear hown hgo
        generalize hlen : L2.length = n2 at *
        have hn2 : (1 : Int) < (n2 : Int) := by omega
        go_wp2_with (go_at_call 84; refine (oneO _ hcu.self (by omega)).mono ?_; rintro e w5 ⟨⟨q, rfl⟩, hc5⟩; have hy0 := (hc5.2.cell hg hgb).trans hx0; have hy1 := (hc5.2.cell hg hgb).trans hx1; have hyf := (hc5.2.frozen (j := 1) hg hgb).trans hf1; have hcu5 := hcu.trans hc5; have hs5 := hc5.2.size)
        · go_ret2
          have hown5 := ownsInts_set (ownsG_onlyC HO.out (by omega) hc5.2) hlen 1 (L2.getD 0 0)
          have hbS : Below w1.heap.size w5 (w5.setCell ⟨g, 1, none⟩ (.int .i64 (L2.getD 0 0))) := (Below.refl _ _).setCell hBg _
          have hcu6 := hcu5.appended hbS (Nat.le_refl _) hb1 (by omega)
          have hgo6 := ownsG_onlyC hown1 (by omega : w.heap.size < w.heap.size + 1) hcu6.2
          have hlen2 : (L2.set 1 (L2.getD 0 0)).length = n2 := by rw [List.length_set]; exact hlen
          refine ⟨⟨_, ao1, c0, cap1, L2.set 1 (L2.getD 0 0), L1, by rw [hlen2]; rfl, by omega, hL1, by rw [hlen2]; exact ownsInts_le hown5 (by omega), ownsInts_le hgo6 (by omega)⟩, CurO.new (hc1.trans hcu6)⟩
        · go_ret2
          have hown5 := ownsG_onlyC HO.out (by omega) hc5.2
          have hgo5 := ownsG_onlyC hown1 (by omega : w.heap.size < w.heap.size + 1) hcu5.2
          exact ⟨⟨_, ao1, c0, cap1, L2, L1, by rw [hlen]; rfl, by omega, hL1, by rw [hlen]; exact ownsInts_le hown5 (by omega), ownsInts_le hgo5 (by omega)⟩, CurO.new (hc1.trans hcu5)⟩
      · have hd1 : decide ((1 : Int) < (L2.length : Int)) = false := decide_eq_false (by omega)
        have hn2 : ¬ (1 : Int) < (L2.length : Int) := by omega
        go_wp2
        go_ret2
        exact ⟨⟨_, ao1, c0, cap1, L2, L1, rfl, by omega, hL1, ownsInts_le hown (by omega), ownsInts_le hgo (by omega)⟩, CurO.new (hc1.trans hcu)⟩
    · have hpos : (0 : Int) < (k : Int) := by omega
      go_wp2_with (first
        | (go_at_call 63; refine (onWayO hcu.self (by omega) ao1 _ cap1 L1 (RdI_owns hgo) rfl (by omega) (by rcases own_cap hgo with h9 | h9; exact h9; rw [h9]; exact Nat.zero_le _) (own_ne hgo (by omega : w.heap.size < w.heap.size + 1))).mono ?_; rintro e w3 ⟨⟨x, rfl⟩, hc3⟩; have hown3 := ownsG_onlyC hown hb1 hc3.2; have hcu3 := hcu.trans hc3; have hs3 := hc3.2.size)
        | (at_builtin; refine wpAppendInt w3 (by rfl) _ _ (by rfl) w1.heap.size _ _ (by rfl) hown3 x (by rfl) (by omega) (by omega) ?_; intro co cc w4 hv4 hb4; have hcu4 := hcu3.appended hb4 (Nat.le_refl _) hb1 (by omega)))
      go_roundw
      case rel => exact ⟨k - 1, L2 ++ [x], by omega, by simp; omega, by go_num, hv4, (by obtain ⟨g, h9, _⟩ := own_first hv4 (by simp); subst h9; exact ⟨_, _, _, rfl⟩), hcu4.mono (by omega)⟩
      case measure => simp [intOf]; omega
theorem DrawPlayGame_any (ao : Option Addr) (n cap : Nat) (w : World) (h : RdY w ao n) : Calls Tryz.prog 19 #[.slice ao n cap] w fun e w' => RetOwn3 w e w' ∧ Below w.heap.size w w' := by
  have HL := Lib.hid (DrawLightWins3_any ao n cap w h)
  go_enter Tryz.func19, Tryz.ntmps19
  go_wp2_with (go_at_call 50; refine HL.out.mono ?_; rintro e w1 ⟨⟨ao1, ao2, cap1, cap2, L1, L2, rfl, h1, h2, h3, h4⟩, hb1⟩)
  go_ret2
  exact ⟨⟨ao1, ao2, cap1, cap2, L1, L2, rfl, h1, h2, h3, h4⟩, hb1⟩
end Go.Proofs.YtcddfpbohejhhaaGreat

namespace Go.Proofs.YtcddfpbohejhhaaGreat
open Go.RowKit

set_option maxRecDepth 100000 in
theorem partPair (a b : Int) (j : Nat) (hj : j < 2) (w : World) : (part 3 #[Value.int .i64 a, .int .i64 b] (j * 1)).run Tryz.prog w = .ok (if j = 0 then .int .i64 a else .int .i64 b) w := by
  match j, hj with
  | 0, _ => rfl
  | 1, _ => rfl
  | n + 2, h => omega
set_option maxRecDepth 100000 in
theorem eqPair (a b c d : Int) (w : World) : (Op.equalIn 10000 65 (.agg #[.int .i64 a, .int .i64 b]) (.agg #[.int .i64 c, .int .i64 d])).run Tryz.prog w = .ok (a == c && b == d) w := by
  obtain ⟨i, hi⟩ : ∃ i, (Tryz.prog).info? 3 = some i := Option.isSome_iff_exists.1 (by kernel_rfl)
  rw [run_equalIn_array (P := Tryz.prog) w 9999 _ _ Tryz.underlying65 hi]
  rw [show (Tryz.prog).cellsOf 3 = 1 by kernel_rfl, show List.range 2 = [0, 1] from rfl]
  simp only [Op.eqItems, Sem.run_bind, partPair _ _ 0 (by omega), partPair _ _ 1 (by omega), Result.andThen_ok, if_true]
  rw [run_equalIn_int (P := Tryz.prog) w 9998 3 .i64 .i64 a c Tryz.underlying3]
  simp only [Result.andThen_ok]
  cases a == c
  · simp [Sem.run_pure]
  · simp only [Bool.not_true, Bool.false_eq_true, if_false, Sem.run_bind, partPair _ _ 1 (by omega), Result.andThen_ok, show ¬ ((1 : Nat) = 0) by omega, run_equalIn_int (P := Tryz.prog) w 9998 3 .i64 .i64 b d Tryz.underlying3, Bool.true_and]
    cases b == d <;> simp [Sem.run_pure]
set_option maxRecDepth 100000 in
theorem neqPair (a b c d : Int) (w : World) : (binOp .neq 65 (.agg #[.int .i64 a, .int .i64 b]) (.agg #[.int .i64 c, .int .i64 d])).run Tryz.prog w = .ok (.bool (!(a == c && b == d))) w := by
  rw [run_neq_struct, eqPair]
  rfl
set_option maxRecDepth 100000 in
theorem guardPair : (Tryz.prog).eqGuardType (Tryz.prog).depth 65 = false := by kernel_rfl
end Go.Proofs.YtcddfpbohejhhaaGreat

namespace Go.Proofs.YtcddfpbohejhhaaGreat
open Go.RowKit

set_option maxHeartbeats 400000 in
theorem rPairs_same (ao bo : Option Addr) (n ca cb : Nat) (F : List Int) (w : World) (ha : RdI w ao F) (hb : RdI w bo F) (hn : F.length = n * 2) (hm : n ≤ maxLen) :
    Calls Tryz.prog 22 #[.slice ao n ca, .slice bo n cb] w fun e w' => e = .returned (.bool true) ∧ Below w.heap.size w w' := by
  unfold maxLen at hm
  have hnq := neqPair
  have hgp := guardPair
  have hA1 := @cellAlloc; have hA2 := @frozenAlloc; have hA3 := @setCellAlloc; go_enter Tryz.func22, Tryz.ntmps22
  go_wp2
  go_loopw [5] (fun i wr => ∃ k : Nat, k ≤ n ∧ i = .int .i64 k ∧ Below w.heap.size w wr) (fun i _ => n - (intOf i).toNat)
  case atStart => exact ⟨0, by omega, rfl, Below.refl _ _⟩
  case round =>
    obtain ⟨k, hk, rfl, hbw⟩ := hrel
    by_cases hlt : k < n
    · have ha' := RdI_below ha hbw
      have hb' := RdI_below hb hbw
      rcases ha' with h | ⟨b1, o1, rfl, hb1, hc1⟩
      · rw [h] at hn; simp at hn; omega
      rcases hb' with h | ⟨b2, o2, rfl, hb2, hc2⟩
      · rw [h] at hn; simp at hn; omega
      have hx0 := hc1 (k * 2) (by omega)
      have hx1 := hc1 (k * 2 + 1) (by omega)
      have hy0 := hc2 (k * 2) (by omega)
      have hy1 := hc2 (k * 2 + 1) (by omega)
      rw [← Nat.add_assoc] at hx1 hy1
      generalize F.getD (k * 2) 0 = z0 at hx0 hy0
      generalize F.getD (k * 2 + 1) 0 = z1 at hx1 hy1
      clear hc1 hc2 ha hb hn
      go_wp2_with fail
      go_quiet (fail)
      go_wp2
      go_roundw
      case rel => exact ⟨k + 1, by omega, by go_num, belowThen hbw (Go.Joins.below_draws _ _ _)⟩
      case measure => simp [intOf]; omega
    · go_wp2
      go_ret
      exact ⟨rfl, hbw⟩
end Go.Proofs.YtcddfpbohejhhaaGreat
