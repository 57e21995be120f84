/- For every Fault, IsHarmless of the program and of the reference agree. No conditions. -/
import Derived.Test.YtfjgleimdaailaaGroups
namespace Go.Proofs.Ytfjgleimdaailaa
open Go.RowKit
/-- Are all digits told? -/
def harmB (d l : Int) : Bool := (((groupsL d l).length : Int) == 10)
theorem isHarmless_any (d l : Int) (w : World) : Calls Try.prog 63 #[.agg #[.int .i64 d, .int .i64 l]] w
    fun e w' => e = .returned (.bool (harmB d l)) ∧ Below w.heap.size w w' := by
  have hA1 := @cellAlloc; have hA2 := @frozenAlloc; have hA3 := @setCellAlloc; go_enter Try.func63, Try.ntmps63
  go_wp2_with (first | (go_at_call 62; refine (groups_any _ _ _).mono ?_; rintro e w2 ⟨ao, cap, rfl, hown, hb2⟩))
  go_ret
  exact ⟨by simp [harmB], by (repeat (first | assumption | exact Below.refl _ _ | refine belowThen ?_ (Go.Joins.below_alloc1 _ _) | apply Below.drew | refine belowThen ?_ (by assumption) | refine belowThen ?_ (Go.Joins.below_draws _ _ _) | refine Below.setCell ?_ (by first | exact Nat.le_refl _ | (simp; done) | (simp; omega)) _))⟩
theorem IsHarmlessS_any (d l : Int) (w : World) : Calls Try.prog 30 #[.agg #[.int .i64 d, .int .i64 l]] w
    fun e w' => e = .returned (.tuple #[.bool (faultB d l && harmB d l), .bool (faultB d l)]) ∧ Below w.heap.size w w' := by
  by_cases h1 : faultB d l = true
  · have hd := faultB_1 h1
    have hA1 := @cellAlloc; have hA2 := @frozenAlloc; have hA3 := @setCellAlloc; go_enter Try.func30, Try.ntmps30
    go_wp2_with (first | (go_at_call 43; refine (l3Fault_any _ _ _).mono ?_; rintro e w1 ⟨rfl, hb1⟩; have hs1 := hb1.size; (try simp only [heapAlloc, heapSet] at hs1); have hc1 := cellRule hb1; have hf1 := frozenRule hb1) | (go_at_call 61; refine (l3Groups_any _ _ hd _).mono ?_; rintro e w2 ⟨ao, cap, rfl, hown, hb2⟩))
    go_ret2
    exact ⟨by simp [h1, harmB], by (repeat (first | assumption | exact Below.refl _ _ | refine belowThen ?_ (Go.Joins.below_alloc1 _ _) | apply Below.drew | refine belowThen ?_ (by assumption) | refine belowThen ?_ (Go.Joins.below_draws _ _ _) | refine Below.setCell ?_ (by first | exact Nat.le_refl _ | (simp; done) | (simp; omega)) _))⟩
  · rw [Bool.not_eq_true] at h1
    have hA1 := @cellAlloc; have hA2 := @frozenAlloc; have hA3 := @setCellAlloc; go_enter Try.func30, Try.ntmps30
    go_wp2_with (first | (go_at_call 43; refine (l3Fault_any _ _ _).mono ?_; rintro e w1 ⟨rfl, hb1⟩; have hs1 := hb1.size; (try simp only [heapAlloc, heapSet] at hs1); have hc1 := cellRule hb1; have hf1 := frozenRule hb1))
    go_ret2
    exact ⟨by simp [h1], by (repeat (first | assumption | exact Below.refl _ _ | refine belowThen ?_ (Go.Joins.below_alloc1 _ _) | apply Below.drew | refine belowThen ?_ (by assumption) | refine belowThen ?_ (Go.Joins.below_draws _ _ _) | refine Below.setCell ?_ (by first | exact Nat.le_refl _ | (simp; done) | (simp; omega)) _))⟩
theorem IsHarmlessI_any (d l : Int) (w : World) : Calls Try.prog 31 #[.agg #[.int .i64 d, .int .i64 l]] w
    fun e w' => e = .returned (.tuple #[.bool (faultB d l && harmB d l), .bool (faultB d l)]) ∧ Below w.heap.size w w' := by
  by_cases h1 : faultB d l = true
  · have hd := faultB_1 h1
    have hA1 := @cellAlloc; have hA2 := @frozenAlloc; have hA3 := @setCellAlloc; go_enter Try.func31, Try.ntmps31
    go_wp2_with (first | (go_at_call 46; refine (IsFault_any _ _ _).mono ?_; rintro e w1 ⟨rfl, hb1⟩; have hs1 := hb1.size; (try simp only [heapAlloc, heapSet] at hs1); have hc1 := cellRule hb1; have hf1 := frozenRule hb1) | (go_at_call 63; refine (isHarmless_any _ _ _).mono ?_; rintro e w2 ⟨rfl, hb2⟩))
    go_ret2
    exact ⟨by simp [h1, harmB], by (repeat (first | assumption | exact Below.refl _ _ | refine belowThen ?_ (Go.Joins.below_alloc1 _ _) | apply Below.drew | refine belowThen ?_ (by assumption) | refine belowThen ?_ (Go.Joins.below_draws _ _ _) | refine Below.setCell ?_ (by first | exact Nat.le_refl _ | (simp; done) | (simp; omega)) _))⟩
  · rw [Bool.not_eq_true] at h1
    have hA1 := @cellAlloc; have hA2 := @frozenAlloc; have hA3 := @setCellAlloc; go_enter Try.func31, Try.ntmps31
    go_wp2_with (first | (go_at_call 46; refine (IsFault_any _ _ _).mono ?_; rintro e w1 ⟨rfl, hb1⟩; have hs1 := hb1.size; (try simp only [heapAlloc, heapSet] at hs1); have hc1 := cellRule hb1; have hf1 := frozenRule hb1))
    go_ret2
    exact ⟨by simp [h1], by (repeat (first | assumption | exact Below.refl _ _ | refine belowThen ?_ (Go.Joins.below_alloc1 _ _) | apply Below.drew | refine belowThen ?_ (by assumption) | refine belowThen ?_ (Go.Joins.below_draws _ _ _) | refine Below.setCell ?_ (by first | exact Nat.le_refl _ | (simp; done) | (simp; omega)) _))⟩
theorem fnExactIsHarmless_walk (d l : Int) (hd : -9223372036854775808 ≤ d ∧ d ≤ 9223372036854775807) (hl : -9223372036854775808 ≤ l ∧ l ≤ 9223372036854775807) (w : World) :
    Calls Try.prog 8 #[.agg #[.int .i64 d, .int .i64 l]] w fun e w' => e = .returned (.bool true) ∧ Below w.heap.size w w' := by
  have hA1 := @cellAlloc; have hA2 := @frozenAlloc; have hA3 := @setCellAlloc; go_enter Try.func8, Try.ntmps8
  go_wp2_with (first | (go_at_call 14; refine (toFault_any _ _ _).mono ?_; rintro e w1 ⟨rfl, hb1⟩; have hs1 := hb1.size; (try simp only [heapAlloc, heapSet] at hs1); have hc1 := cellRule hb1; have hf1 := frozenRule hb1) | (go_at_call 30; refine (IsHarmlessS_any _ _ _).mono ?_; rintro e w2 ⟨rfl, hb2⟩; have hs2 := hb2.size; (try simp only [heapAlloc, heapSet] at hs2); have hc2 := cellRule hb2; have hf2 := frozenRule hb2) | (go_at_call 31; refine (IsHarmlessI_any _ _ _).mono ?_; rintro e w3 ⟨rfl, hb3⟩; have hs3 := hb3.size; (try simp only [heapAlloc, heapSet] at hs3); have hc3 := cellRule hb3; have hf3 := frozenRule hb3))
  go_ret
  exact ⟨rfl, by (repeat (first | assumption | exact Below.refl _ _ | refine belowThen ?_ (Go.Joins.below_alloc1 _ _) | apply Below.drew | refine belowThen ?_ (by assumption) | refine belowThen ?_ (Go.Joins.below_draws _ _ _) | refine Below.setCell ?_ (by first | exact Nat.le_refl _ | (simp; done) | (simp; omega)) _))⟩
end Go.Proofs.Ytfjgleimdaailaa
namespace Go.Proofs.Ytfjgleimdaailaa.fnExactIsHarmless
open Go.ChangeShapes Go.WideShapes Go.ChangeAt Go.RowKit Go.Joins
open Go.ChangeMaps (open_string shut_string)
set_option linter.unusedVariables false
theorem own : ownKnob Try.prog.godebug = none := by kernel_rfl
theorem laidOut : laidOutB Try.prog = true := by kernel_rfl
set_option maxRecDepth 100000 in
theorem lifted (os : Os) (started : os.Started) (H : Type) (enc : TypeId × Value → H) :
    ReturnsInHanded {} Try.checked os 8 .any (Rows.fnExactIsHarmlessSpec.pre6 enc Try.prog Try.f8 Rows.fnExactIsHarmlessRow.domain false) (Rows.fnExactIsHarmlessSpec.post enc Try.prog Try.f8 false true false false) := by
  refine returnsInHanded_of_change (C := Try.checked) own started (by kernel_rfl) Try.func8
    (ChangeSpec.witness6 (enc := enc) (C := Try.checked) false ⟨#[], #[.agg #[.int .i64 0, .int .i64 0]], []⟩ 8 (by kernel_rfl) (by kernel_rfl) (by kernel_rfl) (by kernel_rfl)) ?_
  intro W base args ds gs before hval0 hW hcnd _
  have hval : ∀ (j : Nat) t v, Try.f8.params[j]? = some t → args[j]? = some v → Value.okWide Try.prog W .any base t v := hval0
  have hW' := hW
  obtain ⟨p, q, hA0, hV, rfl, hfz, hnd⟩ := hW
  have hA : DataW.TrodAll enc Try.prog W 0 (fun _ => true) true Try.f8.params.toList args.toList ds p := hA0
  rw [Try.params8] at hA hval
  obtain ⟨v0, vs0, d0, ds0, p0, q0, hargs, rfl, rfl, h0, r0⟩ := trodAll_cons hA
  obtain ⟨rfl, rfl, rfl⟩ := trodAll_nil r0
  obtain rfl : args = #[v0] := by cases args; simp_all
  obtain ⟨rfl, rfl⟩ := trodVars_none hV
  have k0 := h0
  have lt0 : ∀ x ∈ p0, x.block < W.heap.size := by obtain ⟨m, hm⟩ := k0; exact DataW.trod_lt m _ _ _ hm
  obtain ⟨x0, y0, hv0, wx0, wy0⟩ : ∃ x y : Int, v0 = .agg #[.int .i64 x, .int .i64 y] ∧ (Lit.int .i64 x).wf = true ∧ (Lit.int .i64 y).wf = true := by
    obtain ⟨c0, c1, y0, y1, m, hv, _, _, hy0, hy1⟩ := open_agg2 Try.underlying23 (by kernel_rfl) (show Try.prog.cellsOf 23 = 2 by kernel_rfl) (hval 0 23 v0 rfl rfl) h0
    obtain ⟨a, e0, _, wa⟩ := DataW.trod_int Try.underlying3 hy0
    obtain ⟨b, e1, _, wb⟩ := DataW.trod_int Try.underlying3 hy1
    simp at e0 e1; subst e0 e1
    exact ⟨a, b, hv, wa, wb⟩
  subst hv0
  clear hA0 hval0
  refine (fnExactIsHarmless_walk x0 y0 (by simpa [Lit.wf, IntKind.min, IntKind.max, IntKind.signed, IntKind.bits] using wx0) (by simpa [Lit.wf, IntKind.min, IntKind.max, IntKind.signed, IntKind.bits] using wy0) W).mono fun e W' ⟨he, bel⟩ => ?_
  subst he
  exact ⟨_, rfl, _, _, _, [], _, [], hW', trodAll_mk1 (shut_bool Try.underlying4 _), (trodAll_cons_mk (Below.trod laidOut (by kernel_rfl) (of_decide_eq_true (by kernel_rfl)) k0 bel lt0) trodAll_mk0), rfl, bel.frame _, fun h => by cases h⟩
theorem over : Rows.fnExactIsHarmlessRow.holds Try.pinned (OpenSpec.ofChange Rows.fnExactIsHarmlessSpec) :=
  OpenClaim.holds_of_wide 8 Try.f8 rfl rfl rfl rfl rfl rfl rfl ⟨rfl, rfl, rfl, rfl, rfl⟩ rfl rfl rfl rfl rfl (by kernel_rfl) Try.func8 (by kernel_rfl)
    (of_decide_eq_true (by kernel_rfl)) (by unfold Func.isWrapper; first | (rw [if_pos (by decide +kernel)]; kernel_rfl) | (rw [if_neg (by decide +kernel)]; exact ⟨rfl, rfl⟩))
    (fun os started H enc _ => lifted os started H enc)
theorem proved : Rows.FnExactIsHarmlessSaid := over
end Go.Proofs.Ytfjgleimdaailaa.fnExactIsHarmless
