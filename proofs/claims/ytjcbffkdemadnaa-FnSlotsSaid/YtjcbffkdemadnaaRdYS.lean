/- What a law over a drawn code needs at its start: the code's bytes are read. -/
import Derived.Test.YtjcbffkdemadnaaCur
namespace Go.Proofs.Ytjcbffkdemadnaa
open Go.RowKit

theorem RdY_row {w : World} {ao : Option Addr} {len cap : Nat} {zs : List Int} (h : RowIn .u8 w ao len cap zs) : RdY w ao len := by
  rcases h with ⟨rfl, rfl, rfl, rfl⟩ | ⟨x, rfl, hl, hm, hz, hc, hw⟩
  · exact ⟨Nat.zero_le _, .inl rfl⟩
  · refine ⟨by omega, ?_⟩
    by_cases h0 : len = 0
    · exact .inl h0
    · right
      obtain ⟨b, off, rfl, hcell⟩ := ints_at hc (by omega)
      have h00 := hcell 0 (by omega)
      refine ⟨b, off, rfl, World.block_lt_of_cell? w _ h00, fun j hj => ?_⟩
      have hwf := hw (zs.getD j 0) (by rw [List.getD_eq_getElem?_getD, List.getElem?_eq_getElem (by omega)]; exact List.getElem_mem _)
      have hb : 0 ≤ zs.getD j 0 ∧ zs.getD j 0 ≤ 255 := by simpa [Lit.wf, IntKind.min, IntKind.max, IntKind.signed, IntKind.bits] using hwf
      obtain ⟨x, hx⟩ := Int.eq_ofNat_of_zero_le hb.1
      refine ⟨x, by omega, ?_⟩
      rw [hcell j (by omega), hx]
end Go.Proofs.Ytjcbffkdemadnaa
