/- For every list, IsGoal of the program and of the reference agree, and the list is left alone. No conditions. -/
import Derived.Test.YtincekchaolebaaOrder
import Derived.Test.YtincekchaolebaaToS
import Derived.Test.YtincekchaolebaaEqS
namespace Go.Proofs.Ytincekchaolebaa
open Go.RowKit

theorem RdI_of {w w' : World} {B : Nat} {g n cap : Nat} {L : List Int} (h : ownsInts w B (.slice (some ⟨g, 0, none⟩) n cap) L) (hb : Below w.heap.size w w') : RdI w' (some ⟨g, 0, none⟩) L := RdI_below (RdI_owns h) hb
set_option maxHeartbeats 400000 in
theorem fnExactIsGoal_walk (a0 : Option Addr) (len0 cap0 : Nat) (z0 : List Int) (w : World) (w0 : RowIn .i64 w a0 len0 cap0 z0) :
    Calls Try.prog 3 #[.slice a0 len0 cap0] w fun e w' => e = .returned (.bool true) ∧ Below w.heap.size w w' := by
  obtain ⟨hr, hn, hm⟩ := RdI_row w0
  clear w0
  generalize z0.take len0 = L at hr hn
  have HN := Lib.hid hn
  clear hn
  by_cases hbig : len0 ≤ 1048576
  · have tA : True := trivial
    have tB : True := trivial
    have hA1 := @cellAlloc; have hA2 := @frozenAlloc; have hA3 := @setCellAlloc; go_enter Try.func3, Try.ntmps3
    go_wp2_with (first
      | (go_at_call 16; clear tA; refine (toIntS_any _ _ _ L _ hr HN.out hbig).mono ?_; rintro e w1 ⟨g1, rfl, ho1, hb1⟩)
      | (go_at_call 15; refine (IsGoalS_any _ _ _ L _ (RdI_owns ho1) HN.out (by unfold maxLen; omega) (Nat.le_refl _)).mono ?_; rintro e w2 ⟨rfl, hb2⟩)
      | (go_at_call 16; clear tB; refine (toIntS_any _ _ _ L _ (RdI_below (RdI_below hr hb1) hb2) HN.out hbig).mono ?_; rintro e w3 ⟨g3, rfl, ho3, hb3⟩)
      | (go_at_call 17; refine (IsGoalI_any _ _ _ L _ (RdI_owns ho3) HN.out (by unfold maxLen; omega) (Nat.le_refl _)).mono ?_; rintro e w' ⟨rfl, rfl⟩)
      | (go_at_call 16; refine (toIntS_any _ _ _ L _ (RdI_below (RdI_below (RdI_below hr hb1) hb2) hb3) HN.out hbig).mono ?_; rintro e w5 ⟨g5, rfl, ho5, hb5⟩)
      | (go_at_call 18; refine (eqIntS_same _ _ _ _ _ L _ (RdI_below (RdI_owns ho3) hb5) (RdI_owns ho5) HN.out (by unfold maxLen; omega)).mono ?_; rintro e w6 ⟨rfl, hb6⟩))
    go_ret
    exact ⟨rfl, by (repeat (first | assumption | exact Below.refl _ _ | refine belowThen ?_ (Go.Joins.below_alloc1 _ _) | apply Below.drew | refine belowThen ?_ (by assumption) | refine belowThen ?_ (Go.Joins.below_draws _ _ _) | refine Below.setCell ?_ (by first | exact Nat.le_refl _ | (simp; done) | (simp; omega)) _))⟩
  · have hA1 := @cellAlloc; have hA2 := @frozenAlloc; have hA3 := @setCellAlloc; go_enter Try.func3, Try.ntmps3
    go_wp2
    go_ret
    exact ⟨rfl, Below.refl _ _⟩
end Go.Proofs.Ytincekchaolebaa
namespace Go.Proofs.Ytincekchaolebaa.fnExactIsGoal
open Go.ChangeShapes Go.WideShapes Go.ChangeAt Go.RowKit Go.Joins
open Go.ChangeMaps (open_string shut_string)
set_option linter.unusedVariables false
theorem own : ownKnob Try.prog.godebug = none := by kernel_rfl
theorem laidOut : laidOutB Try.prog = true := by kernel_rfl
set_option maxRecDepth 100000 in
theorem lifted (os : Os) (started : os.Started) (H : Type) (enc : TypeId × Value → H) :
    ReturnsInHanded {} Try.checked os 3 .any (Rows.fnExactIsGoalSpec.pre6 enc Try.prog Try.f3 Rows.fnExactIsGoalRow.domain false) (Rows.fnExactIsGoalSpec.post enc Try.prog Try.f3 false true false false) := by
  refine returnsInHanded_of_change (C := Try.checked) own started (by kernel_rfl) Try.func3
    (ChangeSpec.witness6 (enc := enc) (C := Try.checked) false ⟨#[], #[.slice none 0 0], []⟩ 8 (by kernel_rfl) (by kernel_rfl) (by kernel_rfl) (by kernel_rfl)) ?_
  intro W base args ds gs before hval0 hW hcnd _
  have hval : ∀ (j : Nat) t v, Try.f3.params[j]? = some t → args[j]? = some v → Value.okWide Try.prog W .any base t v := hval0
  have hW' := hW
  obtain ⟨p, q, hA0, hV, rfl, hfz, hnd⟩ := hW
  have hA : DataW.TrodAll enc Try.prog W 0 (fun _ => true) true Try.f3.params.toList args.toList ds p := hA0
  rw [Try.params3] at hA hval
  obtain ⟨v0, vs0, d0, ds0, p0, q0, hargs, rfl, rfl, h0, r0⟩ := trodAll_cons hA
  obtain ⟨rfl, rfl, rfl⟩ := trodAll_nil r0
  obtain rfl : args = #[v0] := by cases args; simp_all
  obtain ⟨rfl, rfl⟩ := trodVars_none hV
  have k0 := h0
  have lt0 : ∀ x ∈ p0, x.block < W.heap.size := by obtain ⟨m, hm⟩ := k0; exact DataW.trod_lt m _ _ _ hm
  obtain ⟨a0, len0, cap0, rfl⟩ := okWide_slice Try.underlying22 (hval 0 22 v0 rfl rfl)
  obtain ⟨z0, w0⟩ : ∃ zs, RowIn .i64 W a0 len0 cap0 zs := by
    obtain ⟨fuel, hf⟩ := h0
    rcases open_ints Try.underlying22 Try.underlying3 (by kernel_rfl) hf with ⟨hcs, _⟩ | ⟨x, l, c, zs, hcs, _, hl, hm, hz, _, hcell, hwz⟩
    · simp [Value.cells] at hcs
      obtain ⟨rfl, rfl, rfl⟩ := hcs
      exact ⟨[], .inl ⟨rfl, rfl, rfl, rfl⟩⟩
    · simp [Value.cells] at hcs
      obtain ⟨rfl, rfl, rfl⟩ := hcs
      exact ⟨zs, .inr ⟨_, rfl, hl, hm, by simpa using hz, hcell, hwz⟩⟩
  clear hA0 hval0
  refine (fnExactIsGoal_walk a0 len0 cap0 z0 W w0).mono fun e W' ⟨he, bel⟩ => ?_
  subst he
  exact ⟨_, rfl, _, _, _, [], _, [], hW', trodAll_mk1 (shut_bool Try.underlying4 _), (trodAll_cons_mk (Below.trod laidOut (by kernel_rfl) (of_decide_eq_true (by kernel_rfl)) k0 bel lt0) trodAll_mk0), rfl, bel.frame _, fun h => by cases h⟩
theorem over : Rows.fnExactIsGoalRow.holds Try.pinned (OpenSpec.ofChange Rows.fnExactIsGoalSpec) :=
  OpenClaim.holds_of_wide 3 Try.f3 rfl rfl rfl rfl rfl rfl rfl ⟨rfl, rfl, rfl, rfl, rfl⟩ rfl rfl rfl rfl rfl (by kernel_rfl) Try.func3 (by kernel_rfl)
    (of_decide_eq_true (by kernel_rfl)) (by unfold Func.isWrapper; first | (rw [if_pos (by decide +kernel)]; kernel_rfl) | (rw [if_neg (by decide +kernel)]; exact ⟨rfl, rfl⟩))
    (fun os started H enc _ => lifted os started H enc)
theorem proved : Rows.FnExactIsGoalSaid := over
end Go.Proofs.Ytincekchaolebaa.fnExactIsGoal
