/-
  DERIVED. GIVEN WITH THE SEED: THE CARDS: each row of YtanhhphdbahgpaaDoorRows.lean that lists a variable, with what it lists TIED to the program's text (the seventh form; the later family's looks); each row that meets fmt, with fmt's text TOLD by the authors' own Lean function (tested against real Go, not proved from fmt's source: count such statements apart). THE CARD IS WHAT COUNTS. Prove the row's statement (the work); the ties are given (YtanhhphdbahgpaaDoorTie.lean); close each card by the builder's one call (the guide's Derived/Test/ToyasCard.lean, 'card_holds'). Laid BY PROGRAM, IN A SANDBOX (cutbox-door.mjs). By AI agents, Wed Nov 11 2026. No macro, syntax, notation, axiom, sorry.
-/
import Derived.Test.YtanhhphdbahgpaaDoorRows
import GoSem.ClaimSeven
namespace Go.Proofs.YtanhhphdbahgpaaDoor
namespace Rows

/-- THE TIED CARD OF 'laws.FnExactMeanBars'. -/
def fnExactMeanBarsCard : Claim7 := { stood := { row := fnExactMeanBarsRow, standIns := [], harness := (true, "65748640723fb08fbdf7cf44a66b63e55792a6f10db0daed0d8e7ab0cd964d7e"), looks := false }, kinds := [], alts := [], laidByText := true, laidKinds := [.data, .data, .data], laidTests := true, laidLooks := .later }
def FnExactMeanBarsCardSaid : Prop := Claim7.holds Tryd.pinned (.plain (OpenSpec.ofChange fnExactMeanBarsSpec)) fnExactMeanBarsCard

/-- THE TIED CARD OF 'laws.FnExactNumberOfWord'. -/
def fnExactNumberOfWordCard : Claim7 := { stood := { row := fnExactNumberOfWordRow, standIns := [], harness := (true, "65748640723fb08fbdf7cf44a66b63e55792a6f10db0daed0d8e7ab0cd964d7e"), looks := false }, kinds := [], alts := [], laidByText := true, laidKinds := [.data, .data, .data, .data, .pinned], laidTests := true, laidLooks := .later }
def FnExactNumberOfWordCardSaid : Prop := Claim7.holds Tryd.pinned (.plain (OpenSpec.ofChange fnExactNumberOfWordSpec)) fnExactNumberOfWordCard

/-- THE SECOND FORM's CARD OF 'laws.FnExactMeanBars'. -/
def fnExactMeanBarsUptoCard : Claim7 := { stood := { row := fnExactMeanBarsUptoRow, standIns := [], harness := (true, "65748640723fb08fbdf7cf44a66b63e55792a6f10db0daed0d8e7ab0cd964d7e"), looks := false }, kinds := [], alts := [], laidByText := true, laidKinds := [.data, .data, .data], laidTests := true, laidLooks := .later }
def FnExactMeanBarsUptoCardSaid : Prop := Claim7.holds Tryd.pinned (.plain (OpenSpec.upto fnExactMeanBarsSpec)) fnExactMeanBarsUptoCard

/-- THE SECOND FORM's CARD OF 'laws.FnExactNumberOfWord'. -/
def fnExactNumberOfWordUptoCard : Claim7 := { stood := { row := fnExactNumberOfWordUptoRow, standIns := [], harness := (true, "65748640723fb08fbdf7cf44a66b63e55792a6f10db0daed0d8e7ab0cd964d7e"), looks := false }, kinds := [], alts := [], laidByText := true, laidKinds := [.data, .data, .data, .data, .pinned], laidTests := true, laidLooks := .later }
def FnExactNumberOfWordUptoCardSaid : Prop := Claim7.holds Tryd.pinned (.plain (OpenSpec.upto fnExactNumberOfWordSpec)) fnExactNumberOfWordUptoCard
end Rows
end Go.Proofs.YtanhhphdbahgpaaDoor
