/- The table of powers of ten, as a row's condition tells it. -/
import Derived.Test.YtfdmcnnjifggnabGreatDoorItoa
import Derived.Test.YtfdmcnnjifggnabGreatDoorCards
import Derived.Test.YtfdmcnnjifggnabGreatDoorTie
import Derived.Lay
import Derived.LaidOnce
import Derived.SevenTiedAt
import Derived.LaidMore
import Derived.Lib.LaidTab
namespace Go.Proofs.YtfdmcnnjifggnabGreatDoor
open Go.RowKit

theorem laid_has {P : Program} {W : World} {name : String} {d : DataW Unit} : ∀ {l : List (String × DataW Unit)} {ps : List MemPlace}, DataW.LaidVars P W l ps → (name, d) ∈ l →
    ∃ g t cs fuel p, P.globalNamed name = some g ∧ (P.globals[g]?).map (·.type) = some t ∧ W.var? P name = some cs ∧ DataW.trod (fun _ => ()) P W 0 (fun _ => true) false fuel t cs.toList = some (d, p)
  | [], _, _, hm => by simp at hm
  | (n, d') :: r, ps, h, hm => by
    obtain ⟨g, t, cs, fuel, p, q, h1, h2, h3, h4, h5, _⟩ := h
    rcases List.mem_cons.1 hm with he | hm
    · cases he
      exact ⟨g, t, cs, fuel, p, h1, h2, h3, h4⟩
    · exact laid_has h5 hm
theorem pow10_of {W : World} {l : List (String × DataW Unit)} (h : laidMet Tryz.prog l W) (hm : ("internal/strconv.uint64pow10", Rows.laid_internal_strconv_uint64pow10) ∈ l) : Lib.TabIs Tryz.prog W "internal/strconv.uint64pow10" .u64 Lib.pow10Tab := by
  obtain ⟨ps, hv, -⟩ := h
  obtain ⟨g, t, cs, fuel, p, h1, h2, h3, h4⟩ := laid_has hv hm
  have hd : (Rows.laid_internal_strconv_uint64pow10 : DataW Unit) = Lib.tabData .u64 Lib.pow10Tab := by kernel_rfl
  rw [hd] at h4
  have ht : ((Tryz.prog.globalNamed "internal/strconv.uint64pow10").bind fun g => (Tryz.prog.globals[g]?).map (·.type)) = some 106 := by kernel_rfl
  rw [h1] at ht
  have ht2 : (Tryz.prog.globals[g]?).map (·.type) = some 106 := by simpa using ht
  obtain rfl := Option.some.inj (h2.symm.trans ht2)
  unfold Lib.TabIs
  rw [h3, ← Lib.cells_of_tab Tryz.underlying106 Tryz.underlying42 (by kernel_rfl) (by kernel_rfl) h4]
end Go.Proofs.YtfdmcnnjifggnabGreatDoor
