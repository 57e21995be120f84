/- How an element of an array value is read. -/
import Derived.Test.YtfjgleimdaailaaOwn
namespace Go.Proofs.Ytfjgleimdaailaa
open Go.RowKit
theorem szInt (w : World) : (sizeOf 3).run Try.prog w = .ok 1 w := by kernel_rfl
theorem aggInt (w : World) : (isAgg 3).run Try.prog w = .ok false w := by kernel_rfl
theorem idxInt10 (cs : Array Value) (i : Nat) (h : i < 10) (v : Value) (hv : cs[i]? = some v) (w : World) : (Instr.index 85 (.agg cs) (.int .i64 (i : Int))).run Try.prog w = .ok v w := by
  have h1 : (i : Int) < 10 := by omega
  simp [Instr.index, asIntOf, run_underlying Try.underlying85, h1, part, szInt, aggInt, hv]
  intro hh; omega
theorem szRow (w : World) : (sizeOf 85).run Try.prog w = .ok 10 w := by kernel_rfl
theorem aggRow (w : World) : (isAgg 85).run Try.prog w = .ok true w := by kernel_rfl
theorem idxRow10 (cs : Array Value) (i : Nat) (h : i < 10) (w : World) : (Instr.index 86 (.agg cs) (.int .i64 (i : Int))).run Try.prog w = .ok (.agg (cs.extract (i * 10) (i * 10 + 10))) w := by
  have h1 : (i : Int) < 10 := by omega
  simp [Instr.index, asIntOf, run_underlying Try.underlying86, h1, part, szRow, aggRow]
  intro hh; omega
end Go.Proofs.Ytfjgleimdaailaa
