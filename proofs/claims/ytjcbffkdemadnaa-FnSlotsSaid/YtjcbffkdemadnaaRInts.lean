/- Contracts of the law's own bound on codes and of its comparing of lists. -/
import Derived.Test.YtjcbffkdemadnaaRd
import Derived.Lib.Hide
import Derived.Deep.QuietTactic
import Derived.BigQuiet
namespace Go.Proofs.Ytjcbffkdemadnaa
open Go.RowKit

theorem rBig_any (ao : Option Addr) (n cap : Nat) (w : World) : Calls Try.prog 12 #[.slice ao n cap] w fun e w' => e = .returned (.bool (decide ((65536 : Int) < (n : Int)))) ∧ w = w' := by
  go_enter Try.func12, Try.ntmps12
  go_wp2
  go_ret
  exact ⟨rfl, rfl⟩
theorem rInts_same (ao bo : Option Addr) (n ca cb : Nat) (L : List Int) (w : World) (ha : RdI w ao L) (hb : RdI w bo L) (hn : L.length = n) (hm : n ≤ maxLen) :
    Calls Try.prog 19 #[.slice ao n ca, .slice bo n cb] w fun e w' => e = .returned (.bool true) ∧ Below w.heap.size w w' := by
  unfold maxLen at hm
  go_enter Try.func19, Try.ntmps19
  go_wp2
  go_loopw [5] (fun i wr => ∃ k : Nat, k ≤ n ∧ i = .int .i64 k ∧ Below w.heap.size w wr) (fun i _ => n - (intOf i).toNat)
  case atStart => exact ⟨0, by omega, rfl, Below.refl _ _⟩
  case round =>
    obtain ⟨k, hk, rfl, hbw⟩ := hrel
    by_cases hlt : k < n
    · have ha' := RdI_below ha hbw
      have hb' := RdI_below hb hbw
      rcases ha' with h | ⟨b1, o1, rfl, hb1, hc1⟩
      · rw [h] at hn; simp at hn; omega
      rcases hb' with h | ⟨b2, o2, rfl, hb2, hc2⟩
      · rw [h] at hn; simp at hn; omega
      have hx := hc1 k (by omega)
      have hy := hc2 k (by omega)
      clear hc1 hc2 ha hb hn
      go_wp2_with fail
      go_quiet (fail)
      go_wp2
      go_roundw
      case rel => exact ⟨k + 1, by omega, by go_num, belowThen hbw (Go.Joins.below_draws _ _ _)⟩
      case measure => simp [intOf]; omega
    · go_wp2
      go_ret
      exact ⟨rfl, hbw⟩
end Go.Proofs.Ytjcbffkdemadnaa
