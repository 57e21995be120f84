/- Joined texts: RInts, RdYR. -/
import Derived.Test.YtcddfpbohejhhaaGreatMg01
import Derived.Lib.Hide
import Derived.Deep.QuietTactic
import Derived.BigQuiet
import Derived.Test.YtcddfpbohejhhaaGreatMg19
namespace Go.Proofs.YtcddfpbohejhhaaGreat
open Go.RowKit

theorem rBig_any (ao : Option Addr) (n cap : Nat) (w : World) : Calls Tryz.prog 4 #[.slice ao n cap] w fun e w' => e = .returned (.bool (decide ((65536 : Int) < (n : Int)))) ∧ w = w' := by
  go_enter Tryz.func4, Tryz.ntmps4
  go_wp2
  go_ret
  exact ⟨rfl, rfl⟩
theorem rInts_same (ao bo : Option Addr) (n ca cb : Nat) (L : List Int) (w : World) (ha : RdI w ao L) (hb : RdI w bo L) (hn : L.length = n) (hm : n ≤ maxLen) :
    Calls Tryz.prog 8 #[.slice ao n ca, .slice bo n cb] w fun e w' => e = .returned (.bool true) ∧ Below w.heap.size w w' := by
  unfold maxLen at hm
  go_enter Tryz.func8, Tryz.ntmps8
  go_wp2
  go_loopw [5] (fun i wr => ∃ k : Nat, k ≤ n ∧ i = .int .i64 k ∧ Below w.heap.size w wr) (fun i _ => n - (intOf i).toNat)
  case atStart => exact ⟨0, by omega, rfl, Below.refl _ _⟩
  case round =>
    obtain ⟨k, hk, rfl, hbw⟩ := hrel
    by_cases hlt : k < n
    · have ha' := RdI_below ha hbw
      have hb' := RdI_below hb hbw
      rcases ha' with h | ⟨b1, o1, rfl, hb1, hc1⟩
      · rw [h] at hn; simp at hn; omega
      rcases hb' with h | ⟨b2, o2, rfl, hb2, hc2⟩
      · rw [h] at hn; simp at hn; omega
      have hx := hc1 k (by omega)
      have hy := hc2 k (by omega)
      clear hc1 hc2 ha hb hn
      go_wp2_with fail
      go_quiet (fail)
      go_wp2
      go_roundw
      case rel => exact ⟨k + 1, by omega, by go_num, belowThen hbw (Go.Joins.below_draws _ _ _)⟩
      case measure => simp [intOf]; omega
    · go_wp2
      go_ret
      exact ⟨rfl, hbw⟩
end Go.Proofs.YtcddfpbohejhhaaGreat

namespace Go.Proofs.YtcddfpbohejhhaaGreat
open Go.RowKit

theorem RdY_row {w : World} {ao : Option Addr} {len cap : Nat} {zs : List Int} (h : RowIn .u8 w ao len cap zs) : RdY w ao len := by
  rcases h with ⟨rfl, rfl, rfl, rfl⟩ | ⟨x, rfl, hl, hm, hz, hc, hw⟩
  · exact ⟨Nat.zero_le _, .inl rfl⟩
  · refine ⟨by omega, ?_⟩
    by_cases h0 : len = 0
    · exact .inl h0
    · right
      obtain ⟨b, off, rfl, hcell⟩ := ints_at hc (by omega)
      have h00 := hcell 0 (by omega)
      refine ⟨b, off, rfl, World.block_lt_of_cell? w _ h00, fun j hj => ?_⟩
      have hwf := hw (zs.getD j 0) (by rw [List.getD_eq_getElem?_getD, List.getElem?_eq_getElem (by omega)]; exact List.getElem_mem _)
      have hb : 0 ≤ zs.getD j 0 ∧ zs.getD j 0 ≤ 255 := by simpa [Lit.wf, IntKind.min, IntKind.max, IntKind.signed, IntKind.bits] using hwf
      obtain ⟨x, hx⟩ := Int.eq_ofNat_of_zero_le hb.1
      refine ⟨x, by omega, ?_⟩
      rw [hcell j (by omega), hx]
theorem capOf {w : World} {B n cap : Nat} {ao : Option Addr} {L : List Int} (h : ownsInts w B (.slice ao n cap) L) : L.length ≤ cap := by
  rcases own_cap h with h9 | h9
  · exact h9
  · rw [h9]; exact Nat.zero_le _
theorem big30 {k : Nat} (h : k ≤ 30) : k ≤ maxLen := by unfold maxLen; omega
end Go.Proofs.YtcddfpbohejhhaaGreat
