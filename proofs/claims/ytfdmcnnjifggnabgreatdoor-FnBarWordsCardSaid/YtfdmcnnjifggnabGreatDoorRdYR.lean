/- What a law over a drawn code needs at its start: the code's bytes are read, a slice of the law's own has room for its length. -/
import Derived.Test.YtfdmcnnjifggnabGreatDoorCur
import Derived.Test.YtfdmcnnjifggnabGreatDoorDrawG
namespace Go.Proofs.YtfdmcnnjifggnabGreatDoor
open Go.RowKit

theorem RdY_row {w : World} {ao : Option Addr} {len cap : Nat} {zs : List Int} (h : RowIn .u8 w ao len cap zs) : RdY w ao len := by
  rcases h with ⟨rfl, rfl, rfl, rfl⟩ | ⟨x, rfl, hl, hm, hz, hc, hw⟩
  · exact ⟨Nat.zero_le _, .inl rfl⟩
  · refine ⟨by omega, ?_⟩
    by_cases h0 : len = 0
    · exact .inl h0
    · right
      obtain ⟨b, off, rfl, hcell⟩ := ints_at hc (by omega)
      have h00 := hcell 0 (by omega)
      refine ⟨b, off, rfl, World.block_lt_of_cell? w _ h00, fun j hj => ?_⟩
      have hwf := hw (zs.getD j 0) (by rw [List.getD_eq_getElem?_getD, List.getElem?_eq_getElem (by omega)]; exact List.getElem_mem _)
      have hb : 0 ≤ zs.getD j 0 ∧ zs.getD j 0 ≤ 255 := by simpa [Lit.wf, IntKind.min, IntKind.max, IntKind.signed, IntKind.bits] using hwf
      obtain ⟨x, hx⟩ := Int.eq_ofNat_of_zero_le hb.1
      refine ⟨x, by omega, ?_⟩
      rw [hcell j (by omega), hx]
theorem capOf {w : World} {B n cap : Nat} {ao : Option Addr} {L : List Int} (h : ownsInts w B (.slice ao n cap) L) : L.length ≤ cap := by
  rcases own_cap h with h9 | h9
  · exact h9
  · rw [h9]; exact Nat.zero_le _
theorem big30 {k : Nat} (h : k ≤ 30) : k ≤ maxLen := by unfold maxLen; omega
end Go.Proofs.YtfdmcnnjifggnabGreatDoor
