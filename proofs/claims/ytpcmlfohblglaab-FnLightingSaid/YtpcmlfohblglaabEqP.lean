/- Comparing two arrays of two numbers. -/
import Derived.Test.YtpcmlfohblglaabBase
import Derived.Laws.StructEq
import Derived.ChangeKeysEq
namespace Go.Proofs.Ytpcmlfohblglaab
open Go.RowKit

theorem partPair (a b : Int) (j : Nat) (hj : j < 2) (w : World) : (part 3 #[Value.int .i64 a, .int .i64 b] (j * 1)).run Try.prog w = .ok (if j = 0 then .int .i64 a else .int .i64 b) w := by
  match j, hj with
  | 0, _ => rfl
  | 1, _ => rfl
  | n + 2, h => omega
theorem eqPair (a b c d : Int) (w : World) : (Op.equalIn 10000 42 (.agg #[.int .i64 a, .int .i64 b]) (.agg #[.int .i64 c, .int .i64 d])).run Try.prog w = .ok (a == c && b == d) w := by
  obtain ⟨i, hi⟩ : ∃ i, (Try.prog).info? 3 = some i := Option.isSome_iff_exists.1 (by kernel_rfl)
  rw [run_equalIn_array (P := Try.prog) w 9999 _ _ Try.underlying42 hi]
  rw [show (Try.prog).cellsOf 3 = 1 by kernel_rfl, show List.range 2 = [0, 1] from rfl]
  simp only [Op.eqItems, Sem.run_bind, partPair _ _ 0 (by omega), partPair _ _ 1 (by omega), Result.andThen_ok, if_true]
  rw [run_equalIn_int (P := Try.prog) w 9998 3 .i64 .i64 a c Try.underlying3]
  simp only [Result.andThen_ok]
  cases a == c
  · simp [Sem.run_pure]
  · simp only [Bool.not_true, Bool.false_eq_true, if_false, Sem.run_bind, partPair _ _ 1 (by omega), Result.andThen_ok, show ¬ ((1 : Nat) = 0) by omega, run_equalIn_int (P := Try.prog) w 9998 3 .i64 .i64 b d Try.underlying3, Bool.true_and]
    cases b == d <;> simp [Sem.run_pure]
theorem neqPair (a b c d : Int) (w : World) : (binOp .neq 42 (.agg #[.int .i64 a, .int .i64 b]) (.agg #[.int .i64 c, .int .i64 d])).run Try.prog w = .ok (.bool (!(a == c && b == d))) w := by
  rw [run_neq_struct, eqPair]
  rfl
theorem guardPair : (Try.prog).eqGuardType (Try.prog).depth 42 = false := by kernel_rfl
end Go.Proofs.Ytpcmlfohblglaab
