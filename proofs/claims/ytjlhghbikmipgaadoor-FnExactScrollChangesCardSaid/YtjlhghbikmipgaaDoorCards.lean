/-
  DERIVED. GIVEN WITH THE SEED: THE CARDS: each row of YtjlhghbikmipgaaDoorRows.lean that lists a variable, with what it lists TIED to the program's text (the seventh form; the later family's looks); each row that meets fmt, with fmt's text TOLD by the authors' own Lean function (tested against real Go, not proved from fmt's source: count such statements apart). THE CARD IS WHAT COUNTS. Prove the row's statement (the work); the ties are given (YtjlhghbikmipgaaDoorTie.lean); close each card by the builder's one call (the guide's Derived/Test/ToyasCard.lean, 'card_holds'). Laid BY PROGRAM, IN A SANDBOX (cutbox-door.mjs). By AI agents, Wed Nov 11 2026. No macro, syntax, notation, axiom, sorry.
-/
import Derived.Test.YtjlhghbikmipgaaDoorRows
import GoSem.ClaimSeven
namespace Go.Proofs.YtjlhghbikmipgaaDoor
namespace Rows

/-- THE TIED CARD OF 'laws.FnExactIsWord'. -/
def fnExactIsWordCard : Claim7 := { stood := { row := fnExactIsWordRow, standIns := [], harness := (true, "fb8d71a8706e55f38baab5e1f11e98de0294b5320b6c76a5bd346ab6660456d9"), looks := false }, kinds := [], alts := [], laidByText := true, laidKinds := [.data, .pinned], laidTests := true, laidLooks := .later }
def FnExactIsWordCardSaid : Prop := Claim7.holds Tryd.pinned (.plain (OpenSpec.ofChange fnExactIsWordSpec)) fnExactIsWordCard

/-- THE TIED CARD OF 'laws.FnExactLetterCell'. -/
def fnExactLetterCellCard : Claim7 := { stood := { row := fnExactLetterCellRow, standIns := [], harness := (true, "fb8d71a8706e55f38baab5e1f11e98de0294b5320b6c76a5bd346ab6660456d9"), looks := false }, kinds := [], alts := [], laidByText := true, laidKinds := [.data, .pinned], laidTests := true, laidLooks := .later }
def FnExactLetterCellCardSaid : Prop := Claim7.holds Tryd.pinned (.plain (OpenSpec.ofChange fnExactLetterCellSpec)) fnExactLetterCellCard

/-- THE TIED CARD OF 'laws.FnExactRowOfWord'. -/
def fnExactRowOfWordCard : Claim7 := { stood := { row := fnExactRowOfWordRow, standIns := [], harness := (true, "fb8d71a8706e55f38baab5e1f11e98de0294b5320b6c76a5bd346ab6660456d9"), looks := false }, kinds := [], alts := [], laidByText := true, laidKinds := [.data, .pinned], laidTests := true, laidLooks := .later }
def FnExactRowOfWordCardSaid : Prop := Claim7.holds Tryd.pinned (.plain (OpenSpec.ofChange fnExactRowOfWordSpec)) fnExactRowOfWordCard

/-- THE TIED CARD OF 'laws.FnExactWordLit'. -/
def fnExactWordLitCard : Claim7 := { stood := { row := fnExactWordLitRow, standIns := [], harness := (true, "fb8d71a8706e55f38baab5e1f11e98de0294b5320b6c76a5bd346ab6660456d9"), looks := false }, kinds := [], alts := [], laidByText := true, laidKinds := [.data, .pinned], laidTests := true, laidLooks := .later }
def FnExactWordLitCardSaid : Prop := Claim7.holds Tryd.pinned (.plain (OpenSpec.ofChange fnExactWordLitSpec)) fnExactWordLitCard

/-- THE TIED CARD OF 'laws.FnExactWordChanges'. -/
def fnExactWordChangesCard : Claim7 := { stood := { row := fnExactWordChangesRow, standIns := [], harness := (true, "fb8d71a8706e55f38baab5e1f11e98de0294b5320b6c76a5bd346ab6660456d9"), looks := false }, kinds := [], alts := [], laidByText := true, laidKinds := [.data, .pinned], laidTests := true, laidLooks := .later }
def FnExactWordChangesCardSaid : Prop := Claim7.holds Tryd.pinned (.plain (OpenSpec.ofChange fnExactWordChangesSpec)) fnExactWordChangesCard

/-- THE TIED CARD OF 'laws.FnExactScrollRows'. -/
def fnExactScrollRowsCard : Claim7 := { stood := { row := fnExactScrollRowsRow, standIns := [], harness := (true, "fb8d71a8706e55f38baab5e1f11e98de0294b5320b6c76a5bd346ab6660456d9"), looks := false }, kinds := [], alts := [], laidByText := true, laidKinds := [.data, .pinned], laidTests := true, laidLooks := .later }
def FnExactScrollRowsCardSaid : Prop := Claim7.holds Tryd.pinned (.plain (OpenSpec.ofChange fnExactScrollRowsSpec)) fnExactScrollRowsCard

/-- THE TIED CARD OF 'laws.FnExactScrollChanges'. -/
def fnExactScrollChangesCard : Claim7 := { stood := { row := fnExactScrollChangesRow, standIns := [], harness := (true, "fb8d71a8706e55f38baab5e1f11e98de0294b5320b6c76a5bd346ab6660456d9"), looks := false }, kinds := [], alts := [], laidByText := true, laidKinds := [.data, .pinned], laidTests := true, laidLooks := .later }
def FnExactScrollChangesCardSaid : Prop := Claim7.holds Tryd.pinned (.plain (OpenSpec.ofChange fnExactScrollChangesSpec)) fnExactScrollChangesCard

/-- THE SECOND FORM's CARD OF 'laws.FnExactIsWord'. -/
def fnExactIsWordUptoCard : Claim7 := { stood := { row := fnExactIsWordUptoRow, standIns := [], harness := (true, "fb8d71a8706e55f38baab5e1f11e98de0294b5320b6c76a5bd346ab6660456d9"), looks := false }, kinds := [], alts := [], laidByText := true, laidKinds := [.data, .pinned], laidTests := true, laidLooks := .later }
def FnExactIsWordUptoCardSaid : Prop := Claim7.holds Tryd.pinned (.plain (OpenSpec.upto fnExactIsWordSpec)) fnExactIsWordUptoCard

/-- THE SECOND FORM's CARD OF 'laws.FnExactLetterCell'. -/
def fnExactLetterCellUptoCard : Claim7 := { stood := { row := fnExactLetterCellUptoRow, standIns := [], harness := (true, "fb8d71a8706e55f38baab5e1f11e98de0294b5320b6c76a5bd346ab6660456d9"), looks := false }, kinds := [], alts := [], laidByText := true, laidKinds := [.data, .pinned], laidTests := true, laidLooks := .later }
def FnExactLetterCellUptoCardSaid : Prop := Claim7.holds Tryd.pinned (.plain (OpenSpec.upto fnExactLetterCellSpec)) fnExactLetterCellUptoCard

/-- THE SECOND FORM's CARD OF 'laws.FnExactRowOfWord'. -/
def fnExactRowOfWordUptoCard : Claim7 := { stood := { row := fnExactRowOfWordUptoRow, standIns := [], harness := (true, "fb8d71a8706e55f38baab5e1f11e98de0294b5320b6c76a5bd346ab6660456d9"), looks := false }, kinds := [], alts := [], laidByText := true, laidKinds := [.data, .pinned], laidTests := true, laidLooks := .later }
def FnExactRowOfWordUptoCardSaid : Prop := Claim7.holds Tryd.pinned (.plain (OpenSpec.upto fnExactRowOfWordSpec)) fnExactRowOfWordUptoCard

/-- THE SECOND FORM's CARD OF 'laws.FnExactWordLit'. -/
def fnExactWordLitUptoCard : Claim7 := { stood := { row := fnExactWordLitUptoRow, standIns := [], harness := (true, "fb8d71a8706e55f38baab5e1f11e98de0294b5320b6c76a5bd346ab6660456d9"), looks := false }, kinds := [], alts := [], laidByText := true, laidKinds := [.data, .pinned], laidTests := true, laidLooks := .later }
def FnExactWordLitUptoCardSaid : Prop := Claim7.holds Tryd.pinned (.plain (OpenSpec.upto fnExactWordLitSpec)) fnExactWordLitUptoCard

/-- THE SECOND FORM's CARD OF 'laws.FnExactWordChanges'. -/
def fnExactWordChangesUptoCard : Claim7 := { stood := { row := fnExactWordChangesUptoRow, standIns := [], harness := (true, "fb8d71a8706e55f38baab5e1f11e98de0294b5320b6c76a5bd346ab6660456d9"), looks := false }, kinds := [], alts := [], laidByText := true, laidKinds := [.data, .pinned], laidTests := true, laidLooks := .later }
def FnExactWordChangesUptoCardSaid : Prop := Claim7.holds Tryd.pinned (.plain (OpenSpec.upto fnExactWordChangesSpec)) fnExactWordChangesUptoCard

/-- THE SECOND FORM's CARD OF 'laws.FnExactScrollRows'. -/
def fnExactScrollRowsUptoCard : Claim7 := { stood := { row := fnExactScrollRowsUptoRow, standIns := [], harness := (true, "fb8d71a8706e55f38baab5e1f11e98de0294b5320b6c76a5bd346ab6660456d9"), looks := false }, kinds := [], alts := [], laidByText := true, laidKinds := [.data, .pinned], laidTests := true, laidLooks := .later }
def FnExactScrollRowsUptoCardSaid : Prop := Claim7.holds Tryd.pinned (.plain (OpenSpec.upto fnExactScrollRowsSpec)) fnExactScrollRowsUptoCard

/-- THE SECOND FORM's CARD OF 'laws.FnExactScrollChanges'. -/
def fnExactScrollChangesUptoCard : Claim7 := { stood := { row := fnExactScrollChangesUptoRow, standIns := [], harness := (true, "fb8d71a8706e55f38baab5e1f11e98de0294b5320b6c76a5bd346ab6660456d9"), looks := false }, kinds := [], alts := [], laidByText := true, laidKinds := [.data, .pinned], laidTests := true, laidLooks := .later }
def FnExactScrollChangesUptoCardSaid : Prop := Claim7.holds Tryd.pinned (.plain (OpenSpec.upto fnExactScrollChangesSpec)) fnExactScrollChangesUptoCard
end Rows
end Go.Proofs.YtjlhghbikmipgaaDoor
