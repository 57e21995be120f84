/- Joined texts: Mark, Held. -/
import Derived.Test.YtcddfpbohejhhacMg11
import Derived.Lib.Hide
import Derived.Deep.QuietTactic
import Derived.BigQuiet
namespace Go.Proofs.Ytcddfpbohejhhac
open Go.RowKit

set_option maxHeartbeats 400000 in
theorem markIntS_any (B : Nat) (ao : Option Addr) (n cap : Nat) (L : List Int) (k0 : Int) (w : World) (ho : ownsInts w B (.slice ao n cap) L) (hn : L.length = n) (hm : n ≤ maxLen) (hk : 0 ≤ k0) (hk2 : k0 + n ≤ 9223372036854775807) :
    Calls Try.prog 8 #[.slice ao n cap, .int .i64 k0] w fun e w' => e = .returned (.int .i64 (k0 + n)) ∧ ownsInts w' B (.slice ao n cap) (marksL k0 n) ∧ Below B w w' := by
  unfold maxLen at hm
  go_enter Try.func8, Try.ntmps8
  go_wp2
  go_loopw [1, 5] (fun m i wr => ∃ k : Nat, k ≤ n ∧ i = .int .i64 k ∧ m = .int .i64 (k0 + k) ∧ ownsInts wr B (.slice ao n cap) (marksP k0 L k) ∧ Below B w wr) (fun _ i _ => n - (intOf i).toNat)
  case atStart => exact ⟨0, by omega, rfl, by simp, by simpa [marksP] using ho, Below.refl _ _⟩
  case round =>
    obtain ⟨k, hle, rfl, rfl, hown, hbw⟩ := hrel
    by_cases hlt : k < n
    · have hlen := marksP_length k0 L k (by omega)
      obtain ⟨ao', cap', he, hL | ⟨g, rfl, hBg, hg, _, hc⟩⟩ := ownsInts_shape hown
      · rw [hL] at hlen; simp at hlen; omega
      simp only [Value.slice.injEq] at he
      obtain ⟨rfl, -, -⟩ := he
      have hcell := hc k (by omega)
      have hfr : wr.frozen? ⟨g, k, none⟩ = false := ownsInts_frozen hown (by omega) k
      have hset := ownsInts_set hown (by omega) k (k0 + k)
      rw [marksP_succ k0 L k (by omega)] at hset
      have hbs : Below B w (wr.setCell ⟨g, k, none⟩ (.int .i64 (k0 + k))) := hbw.setCell (by exact hBg) _
      clear ho hc hown hn hlen
      go_wp2
      go_roundw
      case rel => exact ⟨k + 1, by omega, by go_num, by go_num, hset, hbs⟩
      case measure => simp [intOf]; omega
    · have hkn : k = n := by omega
      subst hkn
      go_wp2
      go_ret
      exact ⟨rfl, by rw [← hn, ← marksP_all, hn]; exact hown, hbw⟩
end Go.Proofs.Ytcddfpbohejhhac

namespace Go.Proofs.Ytcddfpbohejhhac
open Go.RowKit

theorem heldIntS_any (ao : Option Addr) (n cap : Nat) (k0 : Int) (w : World) (hr : RdI w ao (marksL k0 n)) (hm : n ≤ maxLen) (hk : 0 ≤ k0) (hk2 : k0 + n ≤ 9223372036854775807) :
    Calls Try.prog 9 #[.slice ao n cap, .int .i64 k0] w fun e w' => e = .returned (.int .i64 (k0 + n)) ∧ w = w' := by
  unfold maxLen at hm
  go_enter Try.func9, Try.ntmps9
  go_wp2
  go_loop [1, 5] (fun m i => ∃ k : Nat, k ≤ n ∧ i = .int .i64 k ∧ m = .int .i64 (k0 + k)) (fun _ i => n - (intOf i).toNat)
  case atStart => exact ⟨0, by omega, rfl, by simp⟩
  case round =>
    obtain ⟨k, hle, rfl, rfl⟩ := hrel
    by_cases hlt : k < n
    · have hlen := marksL_length k0 n
      rcases hr with h | ⟨b1, o1, rfl, hb1, hc1⟩
      · rw [h] at hlen; simp at hlen; omega
      have hx := hc1 k (by omega)
      rw [marksL_getD k0 n k hlt] at hx
      clear hc1 hlen
      go_wp2
      go_round
      case rel => exact ⟨k + 1, by omega, by go_num, by go_num⟩
      case measure => simp [intOf]; omega
    · have hkn : k = n := by omega
      subst hkn
      go_wp2
      go_ret
      exact ⟨rfl, rfl⟩
end Go.Proofs.Ytcddfpbohejhhac
