/-
  DERIVED. GIVEN WITH THE SEED: THE CARDS: each row of YtnkdhjfllafjiaaDoorRows.lean that lists a variable, with what it lists TIED to the program's text (the seventh form; the later family's looks); each row that meets fmt, with fmt's text TOLD by the authors' own Lean function (tested against real Go, not proved from fmt's source: count such statements apart). THE CARD IS WHAT COUNTS. Prove the row's statement (the work); the ties are given (YtnkdhjfllafjiaaDoorTie.lean); close each card by the builder's one call (the guide's Derived/Test/ToyasCard.lean, 'card_holds'). Laid BY PROGRAM, IN A SANDBOX (cutbox-door.mjs). By AI agents, Wed Nov 11 2026. No macro, syntax, notation, axiom, sorry.
-/
import Derived.Test.YtnkdhjfllafjiaaDoorRows
import GoSem.ClaimSeven
namespace Go.Proofs.YtnkdhjfllafjiaaDoor
namespace Rows

/-- THE TIED CARD OF 'laws.FnExactWordOfNumber'. -/
def fnExactWordOfNumberCard : Claim7 := { stood := { row := fnExactWordOfNumberRow, standIns := [], harness := (true, "98b34baace9c3174a25adf29a832d3cf9875b93017f9bf9455901d05b548c328"), looks := false }, kinds := [], alts := [], laidByText := true, laidKinds := [.data, .data, .data], laidTests := true, laidLooks := .later }
def FnExactWordOfNumberCardSaid : Prop := Claim7.holds Tryd.pinned (.plain (OpenSpec.ofChange fnExactWordOfNumberSpec)) fnExactWordOfNumberCard

/-- THE TIED CARD OF 'laws.FnExactMirroredWord'. -/
def fnExactMirroredWordCard : Claim7 := { stood := { row := fnExactMirroredWordRow, standIns := [], harness := (true, "98b34baace9c3174a25adf29a832d3cf9875b93017f9bf9455901d05b548c328"), looks := false }, kinds := [], alts := [], laidByText := true, laidKinds := [.data, .pinned], laidTests := true, laidLooks := .later }
def FnExactMirroredWordCardSaid : Prop := Claim7.holds Tryd.pinned (.plain (OpenSpec.ofChange fnExactMirroredWordSpec)) fnExactMirroredWordCard

/-- THE TIED CARD OF 'laws.FnExactNumberOfWord'. -/
def fnExactNumberOfWordCard : Claim7 := { stood := { row := fnExactNumberOfWordRow, standIns := [], harness := (true, "98b34baace9c3174a25adf29a832d3cf9875b93017f9bf9455901d05b548c328"), looks := false }, kinds := [], alts := [], laidByText := true, laidKinds := [.data, .data, .data, .data, .pinned], laidTests := true, laidLooks := .later }
def FnExactNumberOfWordCardSaid : Prop := Claim7.holds Tryd.pinned (.plain (OpenSpec.ofChange fnExactNumberOfWordSpec)) fnExactNumberOfWordCard

/-- THE TIED CARD OF 'laws.FnReadings'. -/
def fnReadingsCard : Claim7 := { stood := { row := fnReadingsRow, standIns := [], harness := (true, "98b34baace9c3174a25adf29a832d3cf9875b93017f9bf9455901d05b548c328"), looks := false }, kinds := [], alts := [], laidByText := true, laidKinds := [.data, .pinned], laidTests := true, laidLooks := .later }
def FnReadingsCardSaid : Prop := Claim7.holds Tryd.pinned (.plain (OpenSpec.ofChange fnReadingsSpec)) fnReadingsCard

/-- THE SECOND FORM's CARD OF 'laws.FnExactWordOfNumber'. -/
def fnExactWordOfNumberUptoCard : Claim7 := { stood := { row := fnExactWordOfNumberUptoRow, standIns := [], harness := (true, "98b34baace9c3174a25adf29a832d3cf9875b93017f9bf9455901d05b548c328"), looks := false }, kinds := [], alts := [], laidByText := true, laidKinds := [.data, .data, .data], laidTests := true, laidLooks := .later }
def FnExactWordOfNumberUptoCardSaid : Prop := Claim7.holds Tryd.pinned (.plain (OpenSpec.upto fnExactWordOfNumberSpec)) fnExactWordOfNumberUptoCard

/-- THE SECOND FORM's CARD OF 'laws.FnExactMirroredWord'. -/
def fnExactMirroredWordUptoCard : Claim7 := { stood := { row := fnExactMirroredWordUptoRow, standIns := [], harness := (true, "98b34baace9c3174a25adf29a832d3cf9875b93017f9bf9455901d05b548c328"), looks := false }, kinds := [], alts := [], laidByText := true, laidKinds := [.data, .pinned], laidTests := true, laidLooks := .later }
def FnExactMirroredWordUptoCardSaid : Prop := Claim7.holds Tryd.pinned (.plain (OpenSpec.upto fnExactMirroredWordSpec)) fnExactMirroredWordUptoCard

/-- THE SECOND FORM's CARD OF 'laws.FnExactNumberOfWord'. -/
def fnExactNumberOfWordUptoCard : Claim7 := { stood := { row := fnExactNumberOfWordUptoRow, standIns := [], harness := (true, "98b34baace9c3174a25adf29a832d3cf9875b93017f9bf9455901d05b548c328"), looks := false }, kinds := [], alts := [], laidByText := true, laidKinds := [.data, .data, .data, .data, .pinned], laidTests := true, laidLooks := .later }
def FnExactNumberOfWordUptoCardSaid : Prop := Claim7.holds Tryd.pinned (.plain (OpenSpec.upto fnExactNumberOfWordSpec)) fnExactNumberOfWordUptoCard

/-- THE SECOND FORM's CARD OF 'laws.FnReadings'. -/
def fnReadingsUptoCard : Claim7 := { stood := { row := fnReadingsUptoRow, standIns := [], harness := (true, "98b34baace9c3174a25adf29a832d3cf9875b93017f9bf9455901d05b548c328"), looks := false }, kinds := [], alts := [], laidByText := true, laidKinds := [.data, .pinned], laidTests := true, laidLooks := .later }
def FnReadingsUptoCardSaid : Prop := Claim7.holds Tryd.pinned (.plain (OpenSpec.upto fnReadingsSpec)) fnReadingsUptoCard
end Rows
end Go.Proofs.YtnkdhjfllafjiaaDoor
