/- For all arguments, CountPlays of the program and of the reference agree, and the arguments are left alone. No conditions. -/
import Derived.Test.YtincekchaolebaaFive
import Derived.Test.YtincekchaolebaaToS
import Derived.Test.YtincekchaolebaaEqS
import Derived.Lib.Hide
namespace Go.Proofs.Ytincekchaolebaa
open Go.RowKit

set_option maxHeartbeats 1000000 in
theorem fnExactCountPlays_walk (c : Int) (_ : -9223372036854775808 ≤ c ∧ c ≤ 9223372036854775807) (ao_goal : Option Addr) (n_goal cap_goal : Nat) (z_goal : List Int) (w : World) (w_goal : RowIn .i64 w ao_goal n_goal cap_goal z_goal) :
    Calls Try.prog 9 #[.int .i64 c, .slice ao_goal n_goal cap_goal] w fun e w' => e = .returned (.bool true) ∧ Below w.heap.size w w' := by
  obtain ⟨hr_goal, hn_goal, hm_goal⟩ := RdI_row w_goal
  clear w_goal
  generalize z_goal.take n_goal = L_goal at hr_goal hn_goal
  have HN_goal := Lib.hid hn_goal
  clear hn_goal
  by_cases hbig_goal : n_goal ≤ 1048576
  rotate_left
  · have hA1 := @cellAlloc; have hA2 := @frozenAlloc; have hA3 := @setCellAlloc; go_enter Try.func9, Try.ntmps9
    go_wp2
    go_ret
    exact ⟨rfl, Below.refl _ _⟩
  have t1 : True := trivial
  have t2 : True := trivial
  have t3 : True := trivial
  have t4 : True := trivial
  have t5 : True := trivial
  have t6 : True := trivial
  generalize hr0 : valOfI playsF c L_goal n_goal = r0
  have HR0 := Lib.hid hr0
  generalize hr1 : playB c L_goal n_goal = r1
  have HR1 := Lib.hid hr1
  clear hr0
  clear hr1
  have hA1 := @cellAlloc; have hA2 := @frozenAlloc; have hA3 := @setCellAlloc; go_enter Try.func9, Try.ntmps9
  go_wp2_with (first
    | (go_at_call 16; clear t1; refine (toIntS_any _ _ _ L_goal _ hr_goal HN_goal.out hbig_goal).mono ?_; rintro e w1 ⟨g1, rfl, ho1, hb1⟩)
    | (go_at_call 29; clear t2; refine (CountPlaysS_any _ _ _ _ L_goal _ (RdI_owns ho1) HN_goal.out (by unfold maxLen; omega) (Nat.le_refl _)).mono ?_; rw [HR0.out, HR1.out]; rintro e w2 ⟨rfl, hb2⟩)
    | (go_at_call 16; clear t3; refine (toIntS_any _ _ _ L_goal _ (RdI_below (RdI_below hr_goal hb1) hb2) HN_goal.out hbig_goal).mono ?_; rintro e w3 ⟨g3, rfl, ho3, hb3⟩)
    | (go_at_call 30; clear t4; refine (CountPlaysI_any _ _ _ _ L_goal _ (RdI_owns ho3) HN_goal.out (by unfold maxLen; omega) (Nat.le_refl _)).mono ?_; rw [HR0.out, HR1.out]; rintro e w4 ⟨rfl, hb4⟩)
    | (go_at_call 16; clear t5; refine (toIntS_any _ _ _ L_goal _ (RdI_below (RdI_below (RdI_below (RdI_below hr_goal hb1) hb2) hb3) hb4) HN_goal.out hbig_goal).mono ?_; rintro e w5 ⟨g5, rfl, ho5, hb5⟩)
    | (go_at_call 18; clear t6; refine (eqIntS_same _ _ _ _ _ L_goal _ (RdI_below (RdI_below (RdI_owns ho3) hb4) hb5) (RdI_owns ho5) HN_goal.out (by unfold maxLen; omega)).mono ?_; rintro e w6 ⟨rfl, hb6⟩))
  go_ret
  exact ⟨rfl, by (repeat (first | assumption | exact Below.refl _ _ | refine belowThen ?_ (Go.Joins.below_alloc1 _ _) | apply Below.drew | refine belowThen ?_ (by assumption) | refine belowThen ?_ (Go.Joins.below_draws _ _ _) | refine Below.setCell ?_ (by first | exact Nat.le_refl _ | (simp; done) | (simp; omega)) _))⟩
end Go.Proofs.Ytincekchaolebaa
namespace Go.Proofs.Ytincekchaolebaa.fnExactCountPlays
open Go.ChangeShapes Go.WideShapes Go.ChangeAt Go.RowKit Go.Joins
open Go.ChangeMaps (open_string shut_string)
set_option linter.unusedVariables false
theorem own : ownKnob Try.prog.godebug = none := by kernel_rfl
theorem laidOut : laidOutB Try.prog = true := by kernel_rfl
set_option maxRecDepth 100000 in
theorem lifted (os : Os) (started : os.Started) (H : Type) (enc : TypeId × Value → H) :
    ReturnsInHanded {} Try.checked os 9 .any (Rows.fnExactCountPlaysSpec.pre6 enc Try.prog Try.f9 Rows.fnExactCountPlaysRow.domain false) (Rows.fnExactCountPlaysSpec.post enc Try.prog Try.f9 false true false false) := by
  refine returnsInHanded_of_change (C := Try.checked) own started (by kernel_rfl) Try.func9
    (ChangeSpec.witness6 (enc := enc) (C := Try.checked) false ⟨#[], #[.int .i64 0, .slice none 0 0], []⟩ 8 (by kernel_rfl) (by kernel_rfl) (by kernel_rfl) (by kernel_rfl)) ?_
  intro W base args ds gs before hval0 hW hcnd _
  have hval : ∀ (j : Nat) t v, Try.f9.params[j]? = some t → args[j]? = some v → Value.okWide Try.prog W .any base t v := hval0
  have hW' := hW
  obtain ⟨p, q, hA0, hV, rfl, hfz, hnd⟩ := hW
  have hA : DataW.TrodAll enc Try.prog W 0 (fun _ => true) true Try.f9.params.toList args.toList ds p := hA0
  rw [Try.params9] at hA hval
  obtain ⟨v0, vs0, d0, ds0, p0, q0, hargs, rfl, rfl, h0, r0⟩ := trodAll_cons hA
  obtain ⟨v1, vs1, d1, ds1, p1, q1, rfl, rfl, rfl, h1, r1⟩ := trodAll_cons r0
  obtain ⟨rfl, rfl, rfl⟩ := trodAll_nil r1
  obtain rfl : args = #[v0, v1] := by cases args; simp_all
  obtain ⟨rfl, rfl⟩ := trodVars_none hV
  have k0 := h0
  have lt0 : ∀ x ∈ p0, x.block < W.heap.size := by obtain ⟨m, hm⟩ := k0; exact DataW.trod_lt m _ _ _ hm
  have k1 := h1
  have lt1 : ∀ x ∈ p1, x.block < W.heap.size := by obtain ⟨m, hm⟩ := k1; exact DataW.trod_lt m _ _ _ hm
  obtain ⟨x0, hv0, w0⟩ : ∃ x : Int, v0 = .int .i64 x ∧ (Lit.int .i64 x).wf = true := by obtain ⟨x, hx, _, _, wx⟩ := open_int Try.underlying3 (hval 0 3 v0 rfl rfl) h0; exact ⟨x, hx, wx⟩
  subst hv0
  obtain ⟨a1, len1, cap1, rfl⟩ := okWide_slice Try.underlying22 (hval 1 22 v1 rfl rfl)
  obtain ⟨z1, w1⟩ : ∃ zs, RowIn .i64 W a1 len1 cap1 zs := by
    obtain ⟨fuel, hf⟩ := h1
    rcases open_ints Try.underlying22 Try.underlying3 (by kernel_rfl) hf with ⟨hcs, _⟩ | ⟨x, l, c, zs, hcs, _, hl, hm, hz, _, hcell, hwz⟩
    · simp [Value.cells] at hcs
      obtain ⟨rfl, rfl, rfl⟩ := hcs
      exact ⟨[], .inl ⟨rfl, rfl, rfl, rfl⟩⟩
    · simp [Value.cells] at hcs
      obtain ⟨rfl, rfl, rfl⟩ := hcs
      exact ⟨zs, .inr ⟨_, rfl, hl, hm, by simpa using hz, hcell, hwz⟩⟩
  clear hA0 hval0
  refine (fnExactCountPlays_walk x0 (by simpa [Lit.wf, IntKind.min, IntKind.max, IntKind.signed, IntKind.bits] using w0) a1 len1 cap1 z1 W w1).mono fun e W' ⟨he, bel⟩ => ?_
  subst he
  exact ⟨_, rfl, _, _, _, [], _, [], hW', trodAll_mk1 (shut_bool Try.underlying4 _), (trodAll_cons_mk (Below.trod laidOut (by kernel_rfl) (of_decide_eq_true (by kernel_rfl)) k0 bel lt0) (trodAll_cons_mk (Below.trod laidOut (by kernel_rfl) (of_decide_eq_true (by kernel_rfl)) k1 bel lt1) trodAll_mk0)), rfl, bel.frame _, fun h => by cases h⟩
theorem over : Rows.fnExactCountPlaysRow.holds Try.pinned (OpenSpec.ofChange Rows.fnExactCountPlaysSpec) :=
  OpenClaim.holds_of_wide 9 Try.f9 rfl rfl rfl rfl rfl rfl rfl ⟨rfl, rfl, rfl, rfl, rfl⟩ rfl rfl rfl rfl rfl (by kernel_rfl) Try.func9 (by kernel_rfl)
    (of_decide_eq_true (by kernel_rfl)) (by unfold Func.isWrapper; first | (rw [if_pos (by decide +kernel)]; kernel_rfl) | (rw [if_neg (by decide +kernel)]; exact ⟨rfl, rfl⟩))
    (fun os started H enc _ => lifted os started H enc)
theorem proved : Rows.FnExactCountPlaysSaid := over
end Go.Proofs.Ytincekchaolebaa.fnExactCountPlays
