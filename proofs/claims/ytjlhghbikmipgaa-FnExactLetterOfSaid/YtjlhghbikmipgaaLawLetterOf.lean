/- For all arguments, LetterOf of the program and of the reference agree, and the arguments are left alone. No conditions. -/
import Derived.Test.YtjlhghbikmipgaaLetterOf
import Derived.Lib.Hide
namespace Go.Proofs.Ytjlhghbikmipgaa
open Go.RowKit

set_option maxHeartbeats 1000000 in
theorem fnExactLetterOf_walk (c : Int) (_ : -9223372036854775808 ≤ c ∧ c ≤ 9223372036854775807) (w : World)  :
    Calls Try.prog 3 #[.int .i64 c] w fun e w' => e = .returned (.bool true) ∧ Below w.heap.size w w' := by
  have t1 : True := trivial
  have t2 : True := trivial
  generalize hr0 : letS c = r0
  have HR0 := Lib.hid hr0
  generalize hr1 : letOk c = r1
  have HR1 := Lib.hid hr1
  clear hr0
  clear hr1
  have hA1 := @cellAlloc; have hA2 := @frozenAlloc; have hA3 := @setCellAlloc; go_enter Try.func3, Try.ntmps3
  go_wp2_with (first
    | (go_at_call 8; clear t1; refine (LetterOfS_any _ _).mono ?_; rw [HR0.out, HR1.out]; rintro e w1 ⟨rfl, hb1⟩)
    | (go_at_call 9; clear t2; refine (LetterOfI_any _ _).mono ?_; rw [HR0.out, HR1.out]; rintro e w2 ⟨rfl, hb2⟩))
  go_ret
  exact ⟨rfl, by (repeat (first | assumption | exact Below.refl _ _ | refine belowThen ?_ (Go.Joins.below_alloc1 _ _) | apply Below.drew | refine belowThen ?_ (by assumption) | refine belowThen ?_ (Go.Joins.below_draws _ _ _) | refine Below.setCell ?_ (by first | exact Nat.le_refl _ | (simp; done) | (simp; omega)) _))⟩
end Go.Proofs.Ytjlhghbikmipgaa
namespace Go.Proofs.Ytjlhghbikmipgaa.fnExactLetterOf
open Go.ChangeShapes Go.WideShapes Go.ChangeAt Go.RowKit Go.Joins
open Go.ChangeMaps (open_string shut_string)
set_option linter.unusedVariables false
theorem own : ownKnob Try.prog.godebug = none := by kernel_rfl
theorem laidOut : laidOutB Try.prog = true := by kernel_rfl
set_option maxRecDepth 100000 in
theorem lifted (os : Os) (started : os.Started) (H : Type) (enc : TypeId × Value → H) :
    ReturnsInHanded {} Try.checked os 3 .any (Rows.fnExactLetterOfSpec.pre6 enc Try.prog Try.f3 Rows.fnExactLetterOfRow.domain false) (Rows.fnExactLetterOfSpec.post enc Try.prog Try.f3 false true false false) := by
  refine returnsInHanded_of_change (C := Try.checked) own started (by kernel_rfl) Try.func3
    (ChangeSpec.witness6 (enc := enc) (C := Try.checked) false ⟨#[], #[.int .i64 0], []⟩ 8 (by kernel_rfl) (by kernel_rfl) (by kernel_rfl) (by kernel_rfl)) ?_
  intro W base args ds gs before hval0 hW hcnd _
  have hval : ∀ (j : Nat) t v, Try.f3.params[j]? = some t → args[j]? = some v → Value.okWide Try.prog W .any base t v := hval0
  have hW' := hW
  obtain ⟨p, q, hA0, hV, rfl, hfz, hnd⟩ := hW
  have hA : DataW.TrodAll enc Try.prog W 0 (fun _ => true) true Try.f3.params.toList args.toList ds p := hA0
  rw [Try.params3] at hA hval
  obtain ⟨v0, vs0, d0, ds0, p0, q0, hargs, rfl, rfl, h0, r0⟩ := trodAll_cons hA
  obtain ⟨rfl, rfl, rfl⟩ := trodAll_nil r0
  obtain rfl : args = #[v0] := by cases args; simp_all
  obtain ⟨rfl, rfl⟩ := trodVars_none hV
  have k0 := h0
  have lt0 : ∀ x ∈ p0, x.block < W.heap.size := by obtain ⟨m, hm⟩ := k0; exact DataW.trod_lt m _ _ _ hm
  obtain ⟨x0, hv0, w0⟩ : ∃ x : Int, v0 = .int .i64 x ∧ (Lit.int .i64 x).wf = true := by obtain ⟨x, hx, _, _, wx⟩ := open_int Try.underlying3 (hval 0 3 v0 rfl rfl) h0; exact ⟨x, hx, wx⟩
  subst hv0
  clear hA0 hval0
  refine (fnExactLetterOf_walk x0 (by simpa [Lit.wf, IntKind.min, IntKind.max, IntKind.signed, IntKind.bits] using w0) W).mono fun e W' ⟨he, bel⟩ => ?_
  subst he
  exact ⟨_, rfl, _, _, _, [], _, [], hW', trodAll_mk1 (shut_bool Try.underlying4 _), (trodAll_cons_mk (Below.trod laidOut (by kernel_rfl) (of_decide_eq_true (by kernel_rfl)) k0 bel lt0) trodAll_mk0), rfl, bel.frame _, fun h => by cases h⟩
theorem over : Rows.fnExactLetterOfRow.holds Try.pinned (OpenSpec.ofChange Rows.fnExactLetterOfSpec) :=
  OpenClaim.holds_of_wide 3 Try.f3 rfl rfl rfl rfl rfl rfl rfl ⟨rfl, rfl, rfl, rfl, rfl⟩ rfl rfl rfl rfl rfl (by kernel_rfl) Try.func3 (by kernel_rfl)
    (of_decide_eq_true (by kernel_rfl)) (by unfold Func.isWrapper; first | (rw [if_pos (by decide +kernel)]; kernel_rfl) | (rw [if_neg (by decide +kernel)]; exact ⟨rfl, rfl⟩))
    (fun os started H enc _ => lifted os started H enc)
theorem proved : Rows.FnExactLetterOfSaid := over
end Go.Proofs.Ytjlhghbikmipgaa.fnExactLetterOf
