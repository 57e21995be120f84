/- Comparing two Slots. -/
import Derived.Test.YtjcbffkdemadnaaSlot
import Derived.Laws.StructEq
import Derived.ChangeKeysEq
namespace Go.Proofs.Ytjcbffkdemadnaa
open Go.RowKit

set_option maxRecDepth 100000 in
theorem fieldsSlot : ((Try.prog).fieldsOf 48).map (fun f => (f.type, f.offset, f.name)) = #[(3, 0, "Cells"), (3, 1, "Bars")] := by kernel_rfl
set_option maxRecDepth 100000 in
theorem underSlot : (Try.prog).underlying 48 = some (.struct ((Try.prog).fieldsOf 48)) := by kernel_rfl
set_option maxRecDepth 100000 in
theorem heldSlot : (Try.prog).stoodInHeld 48 = false := by kernel_rfl
set_option maxRecDepth 100000 in
theorem guardSlot : (Try.prog).eqGuardType (Try.prog).depth 48 = false := by kernel_rfl
set_option maxRecDepth 100000 in
theorem eqSlotV (a b c d : Int) (w : World) : (Op.equalIn 10000 48 (.agg #[.int .i64 a, .int .i64 b]) (.agg #[.int .i64 c, .int .i64 d])).run Try.prog w = .ok (a == c && b == d) w := by
  rw [run_equalIn_agg w 9999 48 _ _ underSlot heldSlot]
  have h := congrArg Array.toList fieldsSlot
  rw [Array.toList_map] at h
  generalize ((Try.prog).fieldsOf 48).toList = fs at h ⊢
  obtain ⟨f0, f1, rfl⟩ : ∃ f0 f1, fs = [f0, f1] := by
    have hl : fs.length = 2 := by simpa using congrArg List.length h
    cases fs with
    | nil => simp at hl
    | cons f0 fs =>
      cases fs with
      | nil => simp at hl
      | cons f1 fs =>
        cases fs with
        | nil => exact ⟨f0, f1, rfl⟩
        | cons f2 fs => simp at hl
  simp only [List.map_cons, List.map_nil, List.cons.injEq, Prod.mk.injEq, and_true] at h
  obtain ⟨⟨h1, h2, h3⟩, h4, h5, h6⟩ := h
  have p0 : ∀ (x y : Int) (W : World), (part 3 #[Value.int .i64 x, .int .i64 y] 0).run Try.prog W = .ok (.int .i64 x) W := fun _ _ _ => rfl
  have p1 : ∀ (x y : Int) (W : World), (part 3 #[Value.int .i64 x, .int .i64 y] 1).run Try.prog W = .ok (.int .i64 y) W := fun _ _ _ => rfl
  have n0 : f0.name ≠ "_" := by rw [h3]; decide
  have n1 : f1.name ≠ "_" := by rw [h6]; decide
  have hi : ∀ (x y : Int) (W : World), (Op.equalIn 9999 3 (.int .i64 x) (.int .i64 y)).run Try.prog W = .ok (x == y) W := fun x y W => run_equalIn_int (P := Try.prog) W 9998 3 .i64 .i64 x y Try.underlying3
  simp only [Op.eqFields, h1, h2, h4, h5]
  rw [if_pos n0, if_pos n1]
  simp only [Sem.run_bind, p0, p1, hi, Result.andThen_ok]
  cases a == c
  · simp [Sem.run_pure]
  · simp only [Bool.not_true, Bool.false_eq_true, if_false, Sem.run_bind, p1, hi, Result.andThen_ok, Bool.true_and]
    cases b == d <;> simp [Sem.run_pure]
set_option maxRecDepth 100000 in
theorem eqSlotRun (a b c d : Int) (w : World) : (binOp .eql 48 (.agg #[.int .i64 a, .int .i64 b]) (.agg #[.int .i64 c, .int .i64 d])).run Try.prog w = .ok (.bool (a == c && b == d)) w := by
  rw [run_eql_struct, eqSlotV]
  rfl
end Go.Proofs.Ytjcbffkdemadnaa
