/- The draw of a row and a goal. -/
import Derived.Test.YtpcmlfohblglaabDrawG
import Derived.Test.YtpcmlfohblglaabMarks
import Derived.Lib.Hide
namespace Go.Proofs.Ytpcmlfohblglaab
open Go.RowKit

/-- Two short lists are returned that lie in new memory. -/
def RetOwn2 (W : World) (e : Ending) (w' : World) : Prop := ∃ (ao1 ao2 : Option Addr) (cap1 cap2 : Nat) (L1 L2 : List Int), e = .returned (.tuple #[.slice ao1 L1.length cap1, .slice ao2 L2.length cap2]) ∧ L1.length ≤ 6 ∧ L2.length ≤ 11 ∧
  ownsInts w' W.heap.size (.slice ao1 L1.length cap1) L1 ∧ ownsInts w' W.heap.size (.slice ao2 L2.length cap2) L2
set_option maxHeartbeats 3200000 in
theorem DrawLightWins_any (ao : Option Addr) (n cap : Nat) (w : World) (h : RdY w ao n) : Calls Try.prog 5 #[.slice ao n cap] w fun e w' => RetOwn2 w e w' ∧ Below w.heap.size w w' := by
  have hc0 := Cur_new w ao n cap 47 h
  have hA1 := @cellAlloc; have hA2 := @frozenAlloc; have hA3 := @setCellAlloc; go_enter Try.func5, Try.ntmps5
  go_wp2_with (first
    | (go_at_call 23; refine (amongB _ _ _ _ (hc1.self.alloc _) (by simp) (by omega) (by rfl) (by decide) (by decide) (by rfl)).mono ?_; rintro e w2 ⟨⟨z, hz, rfl⟩, hc2⟩; have hz2 : 0 ≤ z ∧ z ≤ 6 := (by simp [intOf] at hz; omega); clear hz)
    | (go_at_call 22; refine (goalO hc0 (by omega)).mono ?_; rintro e w1 ⟨⟨ao1, cap1, L1, rfl, hL1, hown1⟩, hc1⟩))
  obtain ⟨k0, rfl⟩ := Int.eq_ofNat_of_zero_le hz2.1
  have hsz := hc1.2.size
  rw [heapAlloc] at hown1
  have hb1 : w.heap.size < w1.heap.size := hc1.1.lt
  go_loopw [6, 7] (fun v i wr => ∃ (k : Nat) (L2 : List Int), k ≤ 6 ∧ L2.length + k ≤ 6 ∧ i = .int .i64 k ∧ ownsInts wr w1.heap.size v L2 ∧ CurO w1 wr w.heap.size (700 - 60 * k)) (fun _ i _ => (intOf i).toNat)
  case atStart => exact ⟨k0, [], by omega, by show 0 + k0 ≤ 6; omega, rfl, ownsInts_zero _ _ _, hc2.mono (by omega)⟩
  case round =>
    obtain ⟨k, L2, hk, hLk, rfl, hown, hcu⟩ := hrel
    have hwr := hcu.2.size
    have hgo := ownsG_onlyC hown1 (by omega : w.heap.size < w.heap.size + 1) hcu.2
    clear hc2
    obtain ⟨ao2, cap2, rfl, -⟩ := ownsInts_shape hown
    by_cases h0 : k = 0
    · subst h0
      by_cases h1L : 1 < L2.length
      · obtain ⟨g, rfl, hBg, hg, hcell⟩ := own_first hown (by omega)
        have hd1 : decide ((1 : Int) < (L2.length : Int)) = true := decide_eq_true (by omega)
        have hgb : g ≠ w.heap.size := by omega
        have hx0 := hcell 0 (by omega)
        have hx1 := hcell 1 (by omega)
        have hf1 := ownsInts_frozen hown (by omega) 1
        clear hcell
        have HO := Lib.hid hown
        have HG := Lib.hid hgo
        clear hown hgo
        generalize hlen : L2.length = n2 at *
        have hn2 : (1 : Int) < (n2 : Int) := by omega
        go_wp2_with (go_at_call 25; refine (oneO _ hcu.self (by omega)).mono ?_; rintro e w5 ⟨⟨q, rfl⟩, hc5⟩; have hy0 := (hc5.2.cell hg hgb).trans hx0; have hy1 := (hc5.2.cell hg hgb).trans hx1; have hyf := (hc5.2.frozen (j := 1) hg hgb).trans hf1; have hcu5 := hcu.trans hc5; have hs5 := hc5.2.size)
        · go_ret2
          have hown5 := ownsInts_set (ownsG_onlyC HO.out (by omega) hc5.2) hlen 1 (L2.getD 0 0)
          have hbS : Below w1.heap.size w5 (w5.setCell ⟨g, 1, none⟩ (.int .i64 (L2.getD 0 0))) := (Below.refl _ _).setCell hBg _
          have hcu6 := hcu5.appended hbS (Nat.le_refl _) hb1 (by omega)
          have hgo6 := ownsG_onlyC hown1 (by omega : w.heap.size < w.heap.size + 1) hcu6.2
          have hlen2 : (L2.set 1 (L2.getD 0 0)).length = n2 := by rw [List.length_set]; exact hlen
          refine ⟨⟨_, ao1, cap2, cap1, L2.set 1 (L2.getD 0 0), L1, by rw [hlen2]; rfl, by omega, hL1, by rw [hlen2]; exact ownsInts_le hown5 (by omega), ownsInts_le hgo6 (by omega)⟩, CurO.new (hc1.trans hcu6)⟩
        · go_ret2
          have hown5 := ownsG_onlyC HO.out (by omega) hc5.2
          have hgo5 := ownsG_onlyC hown1 (by omega : w.heap.size < w.heap.size + 1) hcu5.2
          exact ⟨⟨_, ao1, cap2, cap1, L2, L1, by rw [hlen]; rfl, by omega, hL1, by rw [hlen]; exact ownsInts_le hown5 (by omega), ownsInts_le hgo5 (by omega)⟩, CurO.new (hc1.trans hcu5)⟩
      · have hd1 : decide ((1 : Int) < (L2.length : Int)) = false := decide_eq_false (by omega)
        have hn2 : ¬ (1 : Int) < (L2.length : Int) := by omega
        go_wp2
        go_ret2
        exact ⟨⟨_, ao1, cap2, cap1, L2, L1, rfl, by omega, hL1, ownsInts_le hown (by omega), ownsInts_le hgo (by omega)⟩, CurO.new (hc1.trans hcu)⟩
    · have hpos : (0 : Int) < (k : Int) := by omega
      go_wp2_with (first
        | (go_at_call 24; refine (onWayO hcu.self (by omega) ao1 _ cap1 L1 (RdI_owns hgo) rfl (by omega) (by rcases own_cap hgo with h9 | h9; exact h9; rw [h9]; exact Nat.zero_le _) (own_ne hgo (by omega : w.heap.size < w.heap.size + 1))).mono ?_; rintro e w3 ⟨⟨x, rfl⟩, hc3⟩; have hown3 := ownsG_onlyC hown hb1 hc3.2; have hcu3 := hcu.trans hc3; have hs3 := hc3.2.size)
        | (at_builtin; refine wpAppendInt w3 (by rfl) _ _ (by rfl) w1.heap.size _ _ (by rfl) hown3 x (by rfl) (by omega) (by omega) ?_; intro co cc w4 hv4 hb4; have hcu4 := hcu3.appended hb4 (Nat.le_refl _) hb1 (by omega)))
      go_roundw
      case rel => exact ⟨k - 1, L2 ++ [x], by omega, by simp; omega, by go_num, hv4, hcu4.mono (by omega)⟩
      case measure => simp [intOf]; omega
end Go.Proofs.Ytpcmlfohblglaab
