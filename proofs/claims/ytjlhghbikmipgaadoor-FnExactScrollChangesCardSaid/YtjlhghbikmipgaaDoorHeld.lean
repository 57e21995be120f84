/- The contract of the law's own look whether marks are held. -/
import Derived.Test.YtjlhghbikmipgaaDoorMarks
import Derived.Lib.Hide
import Derived.Deep.QuietTactic
import Derived.BigQuiet
namespace Go.Proofs.YtjlhghbikmipgaaDoor
open Go.RowKit

theorem heldIntS_any (ao : Option Addr) (n cap : Nat) (k0 : Int) (w : World) (hr : RdI w ao (marksL k0 n)) (hm : n ≤ maxLen) (hk : 0 ≤ k0) (hk2 : k0 + n ≤ 9223372036854775807) :
    Calls Tryd.prog 18 #[.slice ao n cap, .int .i64 k0] w fun e w' => e = .returned (.int .i64 (k0 + n)) ∧ w = w' := by
  unfold maxLen at hm
  go_enter Tryd.func18, Tryd.ntmps18
  go_wp2
  go_loop [1, 5] (fun m i => ∃ k : Nat, k ≤ n ∧ i = .int .i64 k ∧ m = .int .i64 (k0 + k)) (fun _ i => n - (intOf i).toNat)
  case atStart => exact ⟨0, by omega, rfl, by simp⟩
  case round =>
    obtain ⟨k, hle, rfl, rfl⟩ := hrel
    by_cases hlt : k < n
    · have hlen := marksL_length k0 n
      rcases hr with h | ⟨b1, o1, rfl, hb1, hc1⟩
      · rw [h] at hlen; simp at hlen; omega
      have hx := hc1 k (by omega)
      rw [marksL_getD k0 n k hlt] at hx
      clear hc1 hlen
      go_wp2
      go_round
      case rel => exact ⟨k + 1, by omega, by go_num, by go_num⟩
      case measure => simp [intOf]; omega
    · have hkn : k = n := by omega
      subst hkn
      go_wp2
      go_ret
      exact ⟨rfl, rfl⟩
end Go.Proofs.YtjlhghbikmipgaaDoor
