/- The contracts of the law's own marking of a slice of pairs, and of its look whether the marks are held. -/
import Derived.Test.YtincekchaolebaaPairs
import Derived.Lib.Hide
namespace Go.Proofs.Ytincekchaolebaa
open Go.RowKit

set_option maxHeartbeats 800000 in
theorem markIntA2S_any (B : Nat) (ao : Option Addr) (n cap : Nat) (F : List Int) (w : World) (ho : ownsPairs w B (.slice ao n cap) n F) (hm : n ≤ 1000000) :
    Calls Try.prog 41 #[.slice ao n cap, .int .i64 1] w fun e w' => e = .returned (.int .i64 (1 + (n * 2 : Nat))) ∧ ownsPairs w' B (.slice ao n cap) n (marksL 1 (n * 2)) ∧ Below B w w' := by
  have hF := ownsPairs_len ho
  have HF := Lib.hid hF
  clear hF
  go_enter Try.func41, Try.ntmps41
  go_wp2
  go_loopw [1, 5] (fun m i wr => ∃ k : Nat, k ≤ n ∧ i = .int .i64 k ∧ m = .int .i64 (1 + (k * 2 : Nat)) ∧ ownsPairs wr B (.slice ao n cap) n (marksP 1 F (k * 2)) ∧ Below B w wr) (fun _ i _ => n - (intOf i).toNat)
  case atStart => exact ⟨0, by omega, rfl, rfl, by simpa [marksP] using ho, Below.refl _ _⟩
  case round =>
    obtain ⟨k, hle, rfl, rfl, hown, hbw⟩ := hrel
    by_cases hlt : k < n
    · have hd : decide ((k : Int) < (n : Int)) = true := by simp; omega
      go_wp2_with fail
      obtain ⟨wo, hwo⟩ : ∃ wo : World, wo = wr := ⟨_, rfl⟩
      subst hwo
      go_loopw [1, 6] (fun m i wr => ∃ j : Nat, j ≤ 2 ∧ i = .int .i64 j ∧ m = .int .i64 (1 + (k * 2 + j : Nat)) ∧ ownsPairs wr B (.slice ao n cap) n (marksP 1 F (k * 2 + j)) ∧ Below B w wr) (fun _ i _ => 2 - (intOf i).toNat)
      case atStart => exact ⟨0, by omega, rfl, rfl, hown, hbw⟩
      case round =>
        obtain ⟨j, hj, rfl, rfl, hown2, hbw2⟩ := hrel
        by_cases hlj : j < 2
        · have hlen := marksP_length 1 F (k * 2 + j) (by rw [HF.out]; omega)
          obtain ⟨ao', cap', he, h0 | ⟨g, rfl, hBg, hg, _, hc, hfz⟩⟩ := ownsPairs_shape hown2
          · omega
          simp only [Value.slice.injEq] at he
          obtain ⟨rfl, -, -⟩ := he
          have hcell := hc (k * 2 + j) (by omega)
          have hfr := hfz (k * 2 + j)
          have hset := ownsPairs_set hown2 (k * 2 + j) (1 + (k * 2 + j : Nat))
          rw [marksP_succ 1 F (k * 2 + j) (by rw [HF.out]; omega)] at hset
          have hbs : Below B w (wr.setCell ⟨g, k * 2 + j, none⟩ (.int .i64 (1 + (k * 2 + j : Nat)))) := hbw2.setCell (by exact hBg) _
          clear ho hc hfz hown hown2 hlen
          go_wp2
          go_roundw
          case rel => exact ⟨j + 1, by omega, by go_num, by go_num, by simpa [Nat.add_assoc] using hset, by simpa using hbs⟩
          case measure => simp [intOf]; omega
        · have hj2 : j = 2 := by omega
          subst hj2
          go_wp2
          go_roundw
          case rel => exact ⟨k + 1, by omega, by go_num, by go_num, by rw [show (k + 1) * 2 = k * 2 + 2 by omega]; exact hown2, hbw2⟩
          case measure => simp [intOf]; omega
    · have hkn : k = n := by omega
      subst hkn
      go_wp2
      go_ret
      exact ⟨rfl, by rw [← HF.out, ← marksP_all, HF.out]; exact hown, hbw⟩
set_option maxHeartbeats 800000 in
theorem heldIntA2S_any (ao : Option Addr) (n cap : Nat) (w : World) (hr : RdI w ao (marksL 1 (n * 2))) (hm : n ≤ 1000000) :
    Calls Try.prog 42 #[.slice ao n cap, .int .i64 1] w fun e w' => e = .returned (.int .i64 (1 + (n * 2 : Nat))) ∧ w = w' := by
  go_enter Try.func42, Try.ntmps42
  go_wp2
  go_loop [1, 5] (fun m i => ∃ k : Nat, k ≤ n ∧ i = .int .i64 k ∧ m = .int .i64 (1 + (k * 2 : Nat))) (fun _ i => n - (intOf i).toNat)
  case atStart => exact ⟨0, by omega, rfl, rfl⟩
  case round =>
    obtain ⟨k, hle, rfl, rfl⟩ := hrel
    by_cases hlt : k < n
    · have hd : decide ((k : Int) < (n : Int)) = true := by simp; omega
      have hlen := marksL_length 1 (n * 2)
      rcases hr with h | ⟨b1, o1, rfl, hb1, hc1⟩
      · rw [h] at hlen; simp at hlen; omega
      go_wp2_with fail
      go_loop [1, 6] (fun m i => ∃ j : Nat, j ≤ 2 ∧ i = .int .i64 j ∧ m = .int .i64 (1 + (k * 2 + j : Nat))) (fun _ i => 2 - (intOf i).toNat)
      case atStart => exact ⟨0, by omega, rfl, rfl⟩
      case round =>
        obtain ⟨j, hj, rfl, rfl⟩ := hrel
        by_cases hlj : j < 2
        · have hx := hc1 (k * 2 + j) (by omega)
          rw [marksL_getD 1 (n * 2) (k * 2 + j) (by omega), ← Nat.add_assoc] at hx
          have HL := Lib.hid hlen
          clear hc1 hlen
          go_wp2
          go_round
          case rel => exact ⟨j + 1, by omega, by go_num, by go_num⟩
          case measure => simp [intOf]; omega
        · have hj2 : j = 2 := by omega
          subst hj2
          clear hc1 hlen
          go_wp2
          go_round
          case rel => exact ⟨k + 1, by omega, by go_num, by go_num⟩
          case measure => simp [intOf]; omega
    · have hkn : k = n := by omega
      subst hkn
      go_wp2
      go_ret
      exact ⟨rfl, rfl⟩
end Go.Proofs.Ytincekchaolebaa
