/- The program's walk through all sequences of Slots. -/
import Derived.Test.YtjcbffkdemadnaaSeqE
import Derived.Lib.Hide
import Derived.Laws.EntriesVeiled
namespace Go.Proofs.Ytjcbffkdemadnaa
open Go.RowKit

set_option maxHeartbeats 800000 in
theorem sequences_any (B0 bL bB : Nat) (st : Option (List (Int × Int))) (ro : Option Addr) (nr cr : Nat) (rest : List (Int × Int)) (w : World) (hn : rest.length = nr) (h6 : nr ≤ 6) (hs : smallS rest) (hi : InvS B0 bL bB st w) (hr : RdX bL bB w ro rest) :
    Calls Try.prog 37 #[.slice ro nr cr, .func (.func 38) #[] #[.pointer (some ⟨bL, 0, none⟩), .pointer (some ⟨bB, 0, none⟩)]] w fun e w' => e = .returned (.tuple #[]) ∧ InvS B0 bL bB (stF st [] rest) w' ∧ KeptS bL bB w w' ∧ Below B0 w w' := by
  have hmf : ∀ (fn : Fn) (first cap : Array Value) (w : World), (Instr.makeFunc fn first cap).run Try.prog w = .ok (.func fn first cap) w := fun _ _ _ _ => rfl
  have hL := hi.2.2.2.2.2.2.1
  have hB := hi.2.2.2.2.2.2.2.1
  have hB0 := hi.2.2.2.2.2.2.2.2.1
  obtain ⟨W, hW⟩ : ∃ W, ((w.alloc (.cells #[.func (.func 38) #[] #[.pointer (some ⟨bL, 0, none⟩), .pointer (some ⟨bB, 0, none⟩)]] 60)).alloc (.cells #[.func (.func 60) #[] #[.pointer (some ⟨w.heap.size, 0, none⟩), .pointer (some ⟨w.heap.size + 1, 0, none⟩)]] 74)) = W := ⟨_, rfl⟩
  have hb : Below w.heap.size w W := by rw [← hW]; exact Go.Joins.below_alloc2 w _ _
  have hc : CellsE bL bB w.heap.size (w.heap.size + 1) W := by
    subst hW
    refine ⟨?_, ?_, by simp; omega, by simp, by omega, by omega, by omega, by omega⟩
    · rw [World.cell?_alloc_past _ _ _ (by simp), World.cell?_alloc_at _ _ _ _ rfl]; rfl
    · rw [World.cell?_alloc_at _ _ _ _ (by simp)]; rfl
  have HE := Lib.hid (ext_all B0 bL bB w.heap.size (w.heap.size + 1) nr st none 0 0 [] ro nr cr rest W hn rfl hn (by omega) (by intro x hx; cases hx) hs (InvS_below hi hb) (.inl ⟨rfl, rfl, rfl, rfl⟩) (RdX_kept hr (KeptS_below hb)) hc)
  have HW := Lib.hid hW
  have hK := enters_ext
  clear hc hi hr hs hW
  have hA1 := @cellAlloc; have hA2 := @frozenAlloc; have hA3 := @setCellAlloc; go_enter Try.func37, Try.ntmps37
  go_wp2_with fail
  trace_state
  rw [HW.out]
  refine HE.out.mono ?_
  rintro e w' ⟨rfl, h1, h2, h3⟩
  go_wp2
  go_end0
  exact ⟨rfl, h1, KeptS_trans (KeptS_below hb) h2, (hb.mono hB0).trans h3⟩
end Go.Proofs.Ytjcbffkdemadnaa
