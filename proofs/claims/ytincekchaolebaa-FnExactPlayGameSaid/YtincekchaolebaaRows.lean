/-
  No cell of these rows narrows 'for every input' (looked for: loops, veiled, ifaces, maps, wideKeys, modest, calm, conditions, laid).
  DERIVED. THE GIVEN ROWS OF THIS SEAT. 12 by the template 'for every input the law returns true; each argument reads behind the call as it read before'; 0 by the template 'total and deterministic' (their statements: YtincekchaolebaaTotals.lean).
  GIVEN WITH THE SEED: the statements are not yours to turn. If you find one false, say at which input.
  Laid BY PROGRAM, IN A SANDBOX (cutbox-rows.mjs): the forced cells as the released guide's own fill.sh prints them over the translation 78f2744a69c493d8… (all of the seat's roots in one cut). By AI agents, Wed Nov 11 2026. No macro, syntax, notation, axiom, sorry.
-/
import Derived.Test.YtincekchaolebaaChecked
import GoSem.Claim
import GoSem.ClaimJoined
import GoSem.ClaimMapViews
import Derived.JoinedTies
import Derived.KernelRfl
namespace Go.Proofs.Ytincekchaolebaa
/- THE CELL 'sum', in the pinned program and in every row, IS THE sha256 OF THE DUMP (.gsa) THAT YtincekchaolebaaProg.lean LOADS. Nothing in Lean hashes anything: it is a label: what it is worth is what the hold of that sum in a sandbox is worth. -/
noncomputable def Try.pinned : Pinned := { name := "ytincekchaolebaa", sum := "78f2744a69c493d821b78ab94e89693933aa8a737d87bf9f7b99668d0d719dc0", checked := Try.checked }
namespace Rows
def none {H : Type} : Left H := { results := [], args := [] }

/-- 'laws.FnExactIsGoal': WHATEVER THE INPUT: true; the input reads as it did. -/
def fnExactIsGoalSpec : ChangeSpec := { name := "fnExactIsGoal", fn := fun _ => fun
  | [d] => { results := [.lit (.bool true)], args := [d] }
  | _ => none }
def fnExactIsGoalRow : OpenClaim := { program := "ytincekchaolebaa", sum := "78f2744a69c493d821b78ab94e89693933aa8a737d87bf9f7b99668d0d719dc0", func := "loop.example/g01265/laws.FnExactIsGoal", spec := "fnExactIsGoal", apart := false }
def FnExactIsGoalSaid : Prop := fnExactIsGoalRow.holds Try.pinned (OpenSpec.ofChange fnExactIsGoalSpec)

/-- ITS FALSE NEIGHBOUR: 'it returns false'. Refute it at one input. -/
def fnExactIsGoalWrong : ChangeSpec := { name := "fnExactIsGoal", fn := fun _ => fun
  | [d] => { results := [.lit (.bool false)], args := [d] }
  | _ => none }
def FnExactIsGoalWrongFalsely : Prop := fnExactIsGoalRow.holds Try.pinned (OpenSpec.ofChange fnExactIsGoalWrong)

/-- 'laws.FnExactIsOnWay': WHATEVER THE INPUT: true; the input reads as it did. -/
def fnExactIsOnWaySpec : ChangeSpec := { name := "fnExactIsOnWay", fn := fun _ => fun
  | [d1, d2] => { results := [.lit (.bool true)], args := [d1, d2] }
  | _ => none }
def fnExactIsOnWayRow : OpenClaim := { program := "ytincekchaolebaa", sum := "78f2744a69c493d821b78ab94e89693933aa8a737d87bf9f7b99668d0d719dc0", func := "loop.example/g01265/laws.FnExactIsOnWay", spec := "fnExactIsOnWay", unfollowed := true, recurses := true, apart := false }
def FnExactIsOnWaySaid : Prop := fnExactIsOnWayRow.holds Try.pinned (OpenSpec.ofChange fnExactIsOnWaySpec)

/-- ITS FALSE NEIGHBOUR: 'it returns false'. Refute it at one input. -/
def fnExactIsOnWayWrong : ChangeSpec := { name := "fnExactIsOnWay", fn := fun _ => fun
  | [d1, d2] => { results := [.lit (.bool false)], args := [d1, d2] }
  | _ => none }
def FnExactIsOnWayWrongFalsely : Prop := fnExactIsOnWayRow.holds Try.pinned (OpenSpec.ofChange fnExactIsOnWayWrong)

/-- 'laws.FnExactLightableBars': WHATEVER THE INPUT: true; the input reads as it did. -/
def fnExactLightableBarsSpec : ChangeSpec := { name := "fnExactLightableBars", fn := fun _ => fun
  | [d1, d2] => { results := [.lit (.bool true)], args := [d1, d2] }
  | _ => none }
def fnExactLightableBarsRow : OpenClaim := { program := "ytincekchaolebaa", sum := "78f2744a69c493d821b78ab94e89693933aa8a737d87bf9f7b99668d0d719dc0", func := "loop.example/g01265/laws.FnExactLightableBars", spec := "fnExactLightableBars", unfollowed := true, recurses := true, apart := false }
def FnExactLightableBarsSaid : Prop := fnExactLightableBarsRow.holds Try.pinned (OpenSpec.ofChange fnExactLightableBarsSpec)

/-- ITS FALSE NEIGHBOUR: 'it returns false'. Refute it at one input. -/
def fnExactLightableBarsWrong : ChangeSpec := { name := "fnExactLightableBars", fn := fun _ => fun
  | [d1, d2] => { results := [.lit (.bool false)], args := [d1, d2] }
  | _ => none }
def FnExactLightableBarsWrongFalsely : Prop := fnExactLightableBarsRow.holds Try.pinned (OpenSpec.ofChange fnExactLightableBarsWrong)

/-- 'laws.FnExactRaceWins': WHATEVER THE INPUT: true; the input reads as it did. -/
def fnExactRaceWinsSpec : ChangeSpec := { name := "fnExactRaceWins", fn := fun _ => fun
  | [d1, d2] => { results := [.lit (.bool true)], args := [d1, d2] }
  | _ => none }
def fnExactRaceWinsRow : OpenClaim := { program := "ytincekchaolebaa", sum := "78f2744a69c493d821b78ab94e89693933aa8a737d87bf9f7b99668d0d719dc0", func := "loop.example/g01265/laws.FnExactRaceWins", spec := "fnExactRaceWins", unfollowed := true, recurses := true, apart := false }
def FnExactRaceWinsSaid : Prop := fnExactRaceWinsRow.holds Try.pinned (OpenSpec.ofChange fnExactRaceWinsSpec)

/-- ITS FALSE NEIGHBOUR: 'it returns false'. Refute it at one input. -/
def fnExactRaceWinsWrong : ChangeSpec := { name := "fnExactRaceWins", fn := fun _ => fun
  | [d1, d2] => { results := [.lit (.bool false)], args := [d1, d2] }
  | _ => none }
def FnExactRaceWinsWrongFalsely : Prop := fnExactRaceWinsRow.holds Try.pinned (OpenSpec.ofChange fnExactRaceWinsWrong)

/-- 'laws.FnExactMissWins': WHATEVER THE INPUT: true; the input reads as it did. -/
def fnExactMissWinsSpec : ChangeSpec := { name := "fnExactMissWins", fn := fun _ => fun
  | [d1, d2] => { results := [.lit (.bool true)], args := [d1, d2] }
  | _ => none }
def fnExactMissWinsRow : OpenClaim := { program := "ytincekchaolebaa", sum := "78f2744a69c493d821b78ab94e89693933aa8a737d87bf9f7b99668d0d719dc0", func := "loop.example/g01265/laws.FnExactMissWins", spec := "fnExactMissWins", unfollowed := true, recurses := true, apart := false }
def FnExactMissWinsSaid : Prop := fnExactMissWinsRow.holds Try.pinned (OpenSpec.ofChange fnExactMissWinsSpec)

/-- ITS FALSE NEIGHBOUR: 'it returns false'. Refute it at one input. -/
def fnExactMissWinsWrong : ChangeSpec := { name := "fnExactMissWins", fn := fun _ => fun
  | [d1, d2] => { results := [.lit (.bool false)], args := [d1, d2] }
  | _ => none }
def FnExactMissWinsWrongFalsely : Prop := fnExactMissWinsRow.holds Try.pinned (OpenSpec.ofChange fnExactMissWinsWrong)

/-- 'laws.FnExactCellNumber': WHATEVER THE INPUT: true; the input reads as it did. -/
def fnExactCellNumberSpec : ChangeSpec := { name := "fnExactCellNumber", fn := fun _ => fun
  | [d1, d2] => { results := [.lit (.bool true)], args := [d1, d2] }
  | _ => none }
def fnExactCellNumberRow : OpenClaim := { program := "ytincekchaolebaa", sum := "78f2744a69c493d821b78ab94e89693933aa8a737d87bf9f7b99668d0d719dc0", func := "loop.example/g01265/laws.FnExactCellNumber", spec := "fnExactCellNumber", unfollowed := true, recurses := true, apart := false }
def FnExactCellNumberSaid : Prop := fnExactCellNumberRow.holds Try.pinned (OpenSpec.ofChange fnExactCellNumberSpec)

/-- ITS FALSE NEIGHBOUR: 'it returns false'. Refute it at one input. -/
def fnExactCellNumberWrong : ChangeSpec := { name := "fnExactCellNumber", fn := fun _ => fun
  | [d1, d2] => { results := [.lit (.bool false)], args := [d1, d2] }
  | _ => none }
def FnExactCellNumberWrongFalsely : Prop := fnExactCellNumberRow.holds Try.pinned (OpenSpec.ofChange fnExactCellNumberWrong)

/-- 'laws.FnExactCountPlays': WHATEVER THE INPUT: true; the input reads as it did. -/
def fnExactCountPlaysSpec : ChangeSpec := { name := "fnExactCountPlays", fn := fun _ => fun
  | [d1, d2] => { results := [.lit (.bool true)], args := [d1, d2] }
  | _ => none }
def fnExactCountPlaysRow : OpenClaim := { program := "ytincekchaolebaa", sum := "78f2744a69c493d821b78ab94e89693933aa8a737d87bf9f7b99668d0d719dc0", func := "loop.example/g01265/laws.FnExactCountPlays", spec := "fnExactCountPlays", unfollowed := true, recurses := true, apart := false }
def FnExactCountPlaysSaid : Prop := fnExactCountPlaysRow.holds Try.pinned (OpenSpec.ofChange fnExactCountPlaysSpec)

/-- ITS FALSE NEIGHBOUR: 'it returns false'. Refute it at one input. -/
def fnExactCountPlaysWrong : ChangeSpec := { name := "fnExactCountPlays", fn := fun _ => fun
  | [d1, d2] => { results := [.lit (.bool false)], args := [d1, d2] }
  | _ => none }
def FnExactCountPlaysWrongFalsely : Prop := fnExactCountPlaysRow.holds Try.pinned (OpenSpec.ofChange fnExactCountPlaysWrong)

/-- 'laws.FnExactLongestPlay': WHATEVER THE INPUT: true; the input reads as it did. -/
def fnExactLongestPlaySpec : ChangeSpec := { name := "fnExactLongestPlay", fn := fun _ => fun
  | [d1, d2] => { results := [.lit (.bool true)], args := [d1, d2] }
  | _ => none }
def fnExactLongestPlayRow : OpenClaim := { program := "ytincekchaolebaa", sum := "78f2744a69c493d821b78ab94e89693933aa8a737d87bf9f7b99668d0d719dc0", func := "loop.example/g01265/laws.FnExactLongestPlay", spec := "fnExactLongestPlay", unfollowed := true, recurses := true, apart := false }
def FnExactLongestPlaySaid : Prop := fnExactLongestPlayRow.holds Try.pinned (OpenSpec.ofChange fnExactLongestPlaySpec)

/-- ITS FALSE NEIGHBOUR: 'it returns false'. Refute it at one input. -/
def fnExactLongestPlayWrong : ChangeSpec := { name := "fnExactLongestPlay", fn := fun _ => fun
  | [d1, d2] => { results := [.lit (.bool false)], args := [d1, d2] }
  | _ => none }
def FnExactLongestPlayWrongFalsely : Prop := fnExactLongestPlayRow.holds Try.pinned (OpenSpec.ofChange fnExactLongestPlayWrong)

/-- 'laws.FnExactShortestPlay': WHATEVER THE INPUT: true; the input reads as it did. -/
def fnExactShortestPlaySpec : ChangeSpec := { name := "fnExactShortestPlay", fn := fun _ => fun
  | [d1, d2] => { results := [.lit (.bool true)], args := [d1, d2] }
  | _ => none }
def fnExactShortestPlayRow : OpenClaim := { program := "ytincekchaolebaa", sum := "78f2744a69c493d821b78ab94e89693933aa8a737d87bf9f7b99668d0d719dc0", func := "loop.example/g01265/laws.FnExactShortestPlay", spec := "fnExactShortestPlay", unfollowed := true, recurses := true, apart := false }
def FnExactShortestPlaySaid : Prop := fnExactShortestPlayRow.holds Try.pinned (OpenSpec.ofChange fnExactShortestPlaySpec)

/-- ITS FALSE NEIGHBOUR: 'it returns false'. Refute it at one input. -/
def fnExactShortestPlayWrong : ChangeSpec := { name := "fnExactShortestPlay", fn := fun _ => fun
  | [d1, d2] => { results := [.lit (.bool false)], args := [d1, d2] }
  | _ => none }
def FnExactShortestPlayWrongFalsely : Prop := fnExactShortestPlayRow.holds Try.pinned (OpenSpec.ofChange fnExactShortestPlayWrong)

/-- 'laws.FnExactLightWins': WHATEVER THE INPUT: true; the input reads as it did. -/
def fnExactLightWinsSpec : ChangeSpec := { name := "fnExactLightWins", fn := fun _ => fun
  | [d1, d2] => { results := [.lit (.bool true)], args := [d1, d2] }
  | _ => none }
def fnExactLightWinsRow : OpenClaim := { program := "ytincekchaolebaa", sum := "78f2744a69c493d821b78ab94e89693933aa8a737d87bf9f7b99668d0d719dc0", func := "loop.example/g01265/laws.FnExactLightWins", spec := "fnExactLightWins", unfollowed := true, recurses := true, apart := false }
def FnExactLightWinsSaid : Prop := fnExactLightWinsRow.holds Try.pinned (OpenSpec.ofChange fnExactLightWinsSpec)

/-- ITS FALSE NEIGHBOUR: 'it returns false'. Refute it at one input. -/
def fnExactLightWinsWrong : ChangeSpec := { name := "fnExactLightWins", fn := fun _ => fun
  | [d1, d2] => { results := [.lit (.bool false)], args := [d1, d2] }
  | _ => none }
def FnExactLightWinsWrongFalsely : Prop := fnExactLightWinsRow.holds Try.pinned (OpenSpec.ofChange fnExactLightWinsWrong)

/-- 'laws.FnExactWinningMoves': WHATEVER THE INPUT: true; the input reads as it did. -/
def fnExactWinningMovesSpec : ChangeSpec := { name := "fnExactWinningMoves", fn := fun _ => fun
  | [d1, d2] => { results := [.lit (.bool true)], args := [d1, d2] }
  | _ => none }
def fnExactWinningMovesRow : OpenClaim := { program := "ytincekchaolebaa", sum := "78f2744a69c493d821b78ab94e89693933aa8a737d87bf9f7b99668d0d719dc0", func := "loop.example/g01265/laws.FnExactWinningMoves", spec := "fnExactWinningMoves", unfollowed := true, recurses := true, apart := false }
def FnExactWinningMovesSaid : Prop := fnExactWinningMovesRow.holds Try.pinned (OpenSpec.ofChange fnExactWinningMovesSpec)

/-- ITS FALSE NEIGHBOUR: 'it returns false'. Refute it at one input. -/
def fnExactWinningMovesWrong : ChangeSpec := { name := "fnExactWinningMoves", fn := fun _ => fun
  | [d1, d2] => { results := [.lit (.bool false)], args := [d1, d2] }
  | _ => none }
def FnExactWinningMovesWrongFalsely : Prop := fnExactWinningMovesRow.holds Try.pinned (OpenSpec.ofChange fnExactWinningMovesWrong)

/-- 'laws.FnExactPlayGame': WHATEVER THE INPUT: true; the input reads as it did. -/
def fnExactPlayGameSpec : ChangeSpec := { name := "fnExactPlayGame", fn := fun _ => fun
  | [d1, d2] => { results := [.lit (.bool true)], args := [d1, d2] }
  | _ => none }
def fnExactPlayGameRow : OpenClaim := { program := "ytincekchaolebaa", sum := "78f2744a69c493d821b78ab94e89693933aa8a737d87bf9f7b99668d0d719dc0", func := "loop.example/g01265/laws.FnExactPlayGame", spec := "fnExactPlayGame", unfollowed := true, recurses := true, apart := false }
def FnExactPlayGameSaid : Prop := fnExactPlayGameRow.holds Try.pinned (OpenSpec.ofChange fnExactPlayGameSpec)

/-- ITS FALSE NEIGHBOUR: 'it returns false'. Refute it at one input. -/
def fnExactPlayGameWrong : ChangeSpec := { name := "fnExactPlayGame", fn := fun _ => fun
  | [d1, d2] => { results := [.lit (.bool false)], args := [d1, d2] }
  | _ => none }
def FnExactPlayGameWrongFalsely : Prop := fnExactPlayGameRow.holds Try.pinned (OpenSpec.ofChange fnExactPlayGameWrong)

/- THE SECOND FORM. 'bulk': how many values and letters a reading holds, each counted each time it is reached (what is shared counts as often as it is met; a slice's spare places count too). A statement '..UptoSaid' is the law's where the arguments, and the package variables that the reading takes, are together of bulk at most 1048576: NARROWER than '..Said'. Prove '..Said' where nothing that the law and all that it calls make is longer than what came in: it says more and counts as full. Else prove '..UptoSaid'. A law counts once. -/
mutual
def uptoBulk {H : Type} : DataW H → Nat
  | .lit (.string bytes) => bytes.length + 1
  | .lit _ => 1
  | .nil => 1
  | .ptr d => uptoBulk d + 1
  | .slice elems spare => uptoBulkAll elems + uptoBulkAll spare + 1
  | .agg parts => uptoBulkAll parts + 1
  | .iface _ d => uptoBulk d + 1
  | .map entries => uptoBulkEntries entries + 1
  | .held _ => 1
def uptoBulkAll {H : Type} : List (DataW H) → Nat
  | [] => 0
  | d :: r => uptoBulk d + uptoBulkAll r
def uptoBulkEntries {H : Type} : List (Lit × DataW H) → Nat
  | [] => 0
  | x :: r => uptoBulkEntry x + uptoBulkEntries r
def uptoBulkEntry {H : Type} : Lit × DataW H → Nat
  | (.string bytes, d) => bytes.length + uptoBulk d + 1
  | (_, d) => uptoBulk d + 1
 end
def uptoSmall : (H : Type) → List (DataW H) → Bool := fun _ ds => decide (uptoBulkAll ds ≤ 1048576)
def OpenSpec.upto (s : _root_.Go.ChangeSpec) : _root_.Go.OpenSpec := { _root_.Go.OpenSpec.ofChange s with cond := some uptoSmall }

/-- 'laws.FnExactIsGoal', WHERE WHAT IT READS IS OF BULK AT MOST 1048576: true; the input reads as it did. -/
def fnExactIsGoalUptoRow : OpenClaim := { program := "ytincekchaolebaa", sum := "78f2744a69c493d821b78ab94e89693933aa8a737d87bf9f7b99668d0d719dc0", func := "loop.example/g01265/laws.FnExactIsGoal", spec := "fnExactIsGoal", apart := false, narrowed := true }
def FnExactIsGoalUptoSaid : Prop := fnExactIsGoalUptoRow.holds Try.pinned (OpenSpec.upto fnExactIsGoalSpec)

/-- 'laws.FnExactIsOnWay', WHERE WHAT IT READS IS OF BULK AT MOST 1048576: true; the input reads as it did. -/
def fnExactIsOnWayUptoRow : OpenClaim := { program := "ytincekchaolebaa", sum := "78f2744a69c493d821b78ab94e89693933aa8a737d87bf9f7b99668d0d719dc0", func := "loop.example/g01265/laws.FnExactIsOnWay", spec := "fnExactIsOnWay", unfollowed := true, recurses := true, apart := false, narrowed := true }
def FnExactIsOnWayUptoSaid : Prop := fnExactIsOnWayUptoRow.holds Try.pinned (OpenSpec.upto fnExactIsOnWaySpec)

/-- 'laws.FnExactLightableBars', WHERE WHAT IT READS IS OF BULK AT MOST 1048576: true; the input reads as it did. -/
def fnExactLightableBarsUptoRow : OpenClaim := { program := "ytincekchaolebaa", sum := "78f2744a69c493d821b78ab94e89693933aa8a737d87bf9f7b99668d0d719dc0", func := "loop.example/g01265/laws.FnExactLightableBars", spec := "fnExactLightableBars", unfollowed := true, recurses := true, apart := false, narrowed := true }
def FnExactLightableBarsUptoSaid : Prop := fnExactLightableBarsUptoRow.holds Try.pinned (OpenSpec.upto fnExactLightableBarsSpec)

/-- 'laws.FnExactRaceWins', WHERE WHAT IT READS IS OF BULK AT MOST 1048576: true; the input reads as it did. -/
def fnExactRaceWinsUptoRow : OpenClaim := { program := "ytincekchaolebaa", sum := "78f2744a69c493d821b78ab94e89693933aa8a737d87bf9f7b99668d0d719dc0", func := "loop.example/g01265/laws.FnExactRaceWins", spec := "fnExactRaceWins", unfollowed := true, recurses := true, apart := false, narrowed := true }
def FnExactRaceWinsUptoSaid : Prop := fnExactRaceWinsUptoRow.holds Try.pinned (OpenSpec.upto fnExactRaceWinsSpec)

/-- 'laws.FnExactMissWins', WHERE WHAT IT READS IS OF BULK AT MOST 1048576: true; the input reads as it did. -/
def fnExactMissWinsUptoRow : OpenClaim := { program := "ytincekchaolebaa", sum := "78f2744a69c493d821b78ab94e89693933aa8a737d87bf9f7b99668d0d719dc0", func := "loop.example/g01265/laws.FnExactMissWins", spec := "fnExactMissWins", unfollowed := true, recurses := true, apart := false, narrowed := true }
def FnExactMissWinsUptoSaid : Prop := fnExactMissWinsUptoRow.holds Try.pinned (OpenSpec.upto fnExactMissWinsSpec)

/-- 'laws.FnExactCellNumber', WHERE WHAT IT READS IS OF BULK AT MOST 1048576: true; the input reads as it did. -/
def fnExactCellNumberUptoRow : OpenClaim := { program := "ytincekchaolebaa", sum := "78f2744a69c493d821b78ab94e89693933aa8a737d87bf9f7b99668d0d719dc0", func := "loop.example/g01265/laws.FnExactCellNumber", spec := "fnExactCellNumber", unfollowed := true, recurses := true, apart := false, narrowed := true }
def FnExactCellNumberUptoSaid : Prop := fnExactCellNumberUptoRow.holds Try.pinned (OpenSpec.upto fnExactCellNumberSpec)

/-- 'laws.FnExactCountPlays', WHERE WHAT IT READS IS OF BULK AT MOST 1048576: true; the input reads as it did. -/
def fnExactCountPlaysUptoRow : OpenClaim := { program := "ytincekchaolebaa", sum := "78f2744a69c493d821b78ab94e89693933aa8a737d87bf9f7b99668d0d719dc0", func := "loop.example/g01265/laws.FnExactCountPlays", spec := "fnExactCountPlays", unfollowed := true, recurses := true, apart := false, narrowed := true }
def FnExactCountPlaysUptoSaid : Prop := fnExactCountPlaysUptoRow.holds Try.pinned (OpenSpec.upto fnExactCountPlaysSpec)

/-- 'laws.FnExactLongestPlay', WHERE WHAT IT READS IS OF BULK AT MOST 1048576: true; the input reads as it did. -/
def fnExactLongestPlayUptoRow : OpenClaim := { program := "ytincekchaolebaa", sum := "78f2744a69c493d821b78ab94e89693933aa8a737d87bf9f7b99668d0d719dc0", func := "loop.example/g01265/laws.FnExactLongestPlay", spec := "fnExactLongestPlay", unfollowed := true, recurses := true, apart := false, narrowed := true }
def FnExactLongestPlayUptoSaid : Prop := fnExactLongestPlayUptoRow.holds Try.pinned (OpenSpec.upto fnExactLongestPlaySpec)

/-- 'laws.FnExactShortestPlay', WHERE WHAT IT READS IS OF BULK AT MOST 1048576: true; the input reads as it did. -/
def fnExactShortestPlayUptoRow : OpenClaim := { program := "ytincekchaolebaa", sum := "78f2744a69c493d821b78ab94e89693933aa8a737d87bf9f7b99668d0d719dc0", func := "loop.example/g01265/laws.FnExactShortestPlay", spec := "fnExactShortestPlay", unfollowed := true, recurses := true, apart := false, narrowed := true }
def FnExactShortestPlayUptoSaid : Prop := fnExactShortestPlayUptoRow.holds Try.pinned (OpenSpec.upto fnExactShortestPlaySpec)

/-- 'laws.FnExactLightWins', WHERE WHAT IT READS IS OF BULK AT MOST 1048576: true; the input reads as it did. -/
def fnExactLightWinsUptoRow : OpenClaim := { program := "ytincekchaolebaa", sum := "78f2744a69c493d821b78ab94e89693933aa8a737d87bf9f7b99668d0d719dc0", func := "loop.example/g01265/laws.FnExactLightWins", spec := "fnExactLightWins", unfollowed := true, recurses := true, apart := false, narrowed := true }
def FnExactLightWinsUptoSaid : Prop := fnExactLightWinsUptoRow.holds Try.pinned (OpenSpec.upto fnExactLightWinsSpec)

/-- 'laws.FnExactWinningMoves', WHERE WHAT IT READS IS OF BULK AT MOST 1048576: true; the input reads as it did. -/
def fnExactWinningMovesUptoRow : OpenClaim := { program := "ytincekchaolebaa", sum := "78f2744a69c493d821b78ab94e89693933aa8a737d87bf9f7b99668d0d719dc0", func := "loop.example/g01265/laws.FnExactWinningMoves", spec := "fnExactWinningMoves", unfollowed := true, recurses := true, apart := false, narrowed := true }
def FnExactWinningMovesUptoSaid : Prop := fnExactWinningMovesUptoRow.holds Try.pinned (OpenSpec.upto fnExactWinningMovesSpec)

/-- 'laws.FnExactPlayGame', WHERE WHAT IT READS IS OF BULK AT MOST 1048576: true; the input reads as it did. -/
def fnExactPlayGameUptoRow : OpenClaim := { program := "ytincekchaolebaa", sum := "78f2744a69c493d821b78ab94e89693933aa8a737d87bf9f7b99668d0d719dc0", func := "loop.example/g01265/laws.FnExactPlayGame", spec := "fnExactPlayGame", unfollowed := true, recurses := true, apart := false, narrowed := true }
def FnExactPlayGameUptoSaid : Prop := fnExactPlayGameUptoRow.holds Try.pinned (OpenSpec.upto fnExactPlayGameSpec)

end Rows
end Go.Proofs.Ytincekchaolebaa
