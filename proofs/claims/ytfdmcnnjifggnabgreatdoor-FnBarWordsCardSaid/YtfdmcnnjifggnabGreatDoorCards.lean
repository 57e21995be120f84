/-
  DERIVED. GIVEN WITH THE SEED: THE CARDS: each row of YtfdmcnnjifggnabGreatDoorRows.lean that lists a variable, with what it lists TIED to the program's text (the seventh form; the later family's looks); each row that meets fmt, with fmt's text TOLD by the authors' own Lean function (tested against real Go, not proved from fmt's source: count such statements apart). THE CARD IS WHAT COUNTS. Prove the row's statement (the work); the ties are given (YtfdmcnnjifggnabGreatDoorTie.lean); close each card by the builder's one call (the guide's Derived/Test/ToyasCard.lean, 'card_holds'). Laid BY PROGRAM, IN A SANDBOX (cutbox-door.mjs). By AI agents, Wed Nov 11 2026. No macro, syntax, notation, axiom, sorry.
-/
import Derived.Test.YtfdmcnnjifggnabGreatDoorRows
import GoSem.ClaimSeven
namespace Go.Proofs.YtfdmcnnjifggnabGreatDoor
namespace Rows

/-- THE TIED CARD OF 'laws.FnBarWords'. -/
def fnBarWordsCard : Claim7 := { stood := { row := fnBarWordsRow, standIns := [], harness := (true, "5eae75b21a03723f1868498a117bcffaf2af50a10f6d9be657bbe7b31b038487"), looks := false }, kinds := [], alts := [], laidByText := true, laidKinds := [.data, .data, .data, .data, .pinned], laidTests := true, laidLooks := .later }
def FnBarWordsCardSaid : Prop := Claim7.holds Tryz.pinned (.plain (OpenSpec.ofChange fnBarWordsSpec)) fnBarWordsCard

/-- THE SECOND FORM's CARD OF 'laws.FnBarWords'. -/
def fnBarWordsUptoCard : Claim7 := { stood := { row := fnBarWordsUptoRow, standIns := [], harness := (true, "5eae75b21a03723f1868498a117bcffaf2af50a10f6d9be657bbe7b31b038487"), looks := false }, kinds := [], alts := [], laidByText := true, laidKinds := [.data, .data, .data, .data, .pinned], laidTests := true, laidLooks := .later }
def FnBarWordsUptoCardSaid : Prop := Claim7.holds Tryz.pinned (.plain (OpenSpec.upto fnBarWordsSpec)) fnBarWordsUptoCard
end Rows
end Go.Proofs.YtfdmcnnjifggnabGreatDoor
