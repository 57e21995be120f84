/- For all arguments, LightWins of the program and of the reference agree, and the arguments are left alone. No conditions. -/
import Derived.Test.YtincekchaolebaaWins
import Derived.Test.YtincekchaolebaaToS
import Derived.Test.YtincekchaolebaaEqS
import Derived.Lib.Hide
namespace Go.Proofs.Ytincekchaolebaa
open Go.RowKit

set_option maxHeartbeats 1000000 in
theorem fnExactLightWins_walk (ao_r : Option Addr) (n_r cap_r : Nat) (z_r : List Int) (ao_goal : Option Addr) (n_goal cap_goal : Nat) (z_goal : List Int) (w : World) (w_r : RowIn .i64 w ao_r n_r cap_r z_r) (w_goal : RowIn .i64 w ao_goal n_goal cap_goal z_goal) :
    Calls Try.prog 12 #[.slice ao_r n_r cap_r, .slice ao_goal n_goal cap_goal] w fun e w' => e = .returned (.bool true) ∧ Below w.heap.size w w' := by
  obtain ⟨hr_r, hn_r, hm_r⟩ := RdI_row w_r
  clear w_r
  generalize z_r.take n_r = L_r at hr_r hn_r
  have HN_r := Lib.hid hn_r
  clear hn_r
  obtain ⟨hr_goal, hn_goal, hm_goal⟩ := RdI_row w_goal
  clear w_goal
  generalize z_goal.take n_goal = L_goal at hr_goal hn_goal
  have HN_goal := Lib.hid hn_goal
  clear hn_goal
  by_cases hbig_r : n_r ≤ 1048576
  rotate_left
  · have hA1 := @cellAlloc; have hA2 := @frozenAlloc; have hA3 := @setCellAlloc; go_enter Try.func12, Try.ntmps12
    go_wp2
    go_ret
    exact ⟨rfl, Below.refl _ _⟩
  by_cases hbig_goal : n_goal ≤ 1048576
  rotate_left
  · have hA1 := @cellAlloc; have hA2 := @frozenAlloc; have hA3 := @setCellAlloc; go_enter Try.func12, Try.ntmps12
    go_wp2
    go_ret
    exact ⟨rfl, Below.refl _ _⟩
  have t1 : True := trivial
  have t2 : True := trivial
  have t3 : True := trivial
  have t4 : True := trivial
  have t5 : True := trivial
  have t6 : True := trivial
  have t7 : True := trivial
  have t8 : True := trivial
  have t9 : True := trivial
  have t10 : True := trivial
  generalize hr0 : winB L_r L_goal n_goal = r0
  have HR0 := Lib.hid hr0
  generalize hr1 : goodRow L_r L_goal n_goal = r1
  have HR1 := Lib.hid hr1
  clear hr0
  clear hr1
  have hA1 := @cellAlloc; have hA2 := @frozenAlloc; have hA3 := @setCellAlloc; go_enter Try.func12, Try.ntmps12
  go_wp2_with (first
    | (go_at_call 16; clear t1; refine (toIntS_any _ _ _ L_r _ hr_r HN_r.out hbig_r).mono ?_; rintro e w1 ⟨g1, rfl, ho1, hb1⟩)
    | (go_at_call 16; clear t2; refine (toIntS_any _ _ _ L_goal _ (RdI_below hr_goal hb1) HN_goal.out hbig_goal).mono ?_; rintro e w2 ⟨g2, rfl, ho2, hb2⟩)
    | (go_at_call 35; clear t3; refine (LightWinsS_any _ _ _ L_r _ _ _ L_goal _ (RdI_below (RdI_owns ho1) hb2) HN_r.out (by unfold maxLen; omega) (Nat.le_refl _) (RdI_owns ho2) HN_goal.out (by unfold maxLen; omega) (Nat.le_refl _)).mono ?_; rw [HR0.out, HR1.out]; rintro e w3 ⟨rfl, hb3⟩)
    | (go_at_call 16; clear t4; refine (toIntS_any _ _ _ L_r _ (RdI_below (RdI_below (RdI_below hr_r hb1) hb2) hb3) HN_r.out hbig_r).mono ?_; rintro e w4 ⟨g4, rfl, ho4, hb4⟩)
    | (go_at_call 16; clear t5; refine (toIntS_any _ _ _ L_goal _ (RdI_below (RdI_below (RdI_below (RdI_below hr_goal hb1) hb2) hb3) hb4) HN_goal.out hbig_goal).mono ?_; rintro e w5 ⟨g5, rfl, ho5, hb5⟩)
    | (go_at_call 36; clear t6; refine (LightWinsI_any _ _ _ L_r _ _ _ L_goal _ (RdI_below (RdI_owns ho4) hb5) HN_r.out (by unfold maxLen; omega) (Nat.le_refl _) (RdI_owns ho5) HN_goal.out (by unfold maxLen; omega) (Nat.le_refl _)).mono ?_; rw [HR0.out, HR1.out]; rintro e w6 ⟨rfl, hb6⟩)
    | (go_at_call 16; clear t7; refine (toIntS_any _ _ _ L_r _ (RdI_below (RdI_below (RdI_below (RdI_below (RdI_below (RdI_below hr_r hb1) hb2) hb3) hb4) hb5) hb6) HN_r.out hbig_r).mono ?_; rintro e w7 ⟨g7, rfl, ho7, hb7⟩)
    | (go_at_call 18; clear t8; refine (eqIntS_same _ _ _ _ _ L_r _ (RdI_below (RdI_below (RdI_below (RdI_owns ho4) hb5) hb6) hb7) (RdI_owns ho7) HN_r.out (by unfold maxLen; omega)).mono ?_; rintro e w8 ⟨rfl, hb8⟩)
    | (go_at_call 16; clear t9; refine (toIntS_any _ _ _ L_goal _ (RdI_below (RdI_below (RdI_below (RdI_below (RdI_below (RdI_below (RdI_below (RdI_below hr_goal hb1) hb2) hb3) hb4) hb5) hb6) hb7) hb8) HN_goal.out hbig_goal).mono ?_; rintro e w9 ⟨g9, rfl, ho9, hb9⟩)
    | (go_at_call 18; clear t10; refine (eqIntS_same _ _ _ _ _ L_goal _ (RdI_below (RdI_below (RdI_below (RdI_below (RdI_owns ho5) hb6) hb7) hb8) hb9) (RdI_owns ho9) HN_goal.out (by unfold maxLen; omega)).mono ?_; rintro e w10 ⟨rfl, hb10⟩))
  go_ret
  exact ⟨rfl, by (repeat (first | assumption | exact Below.refl _ _ | refine belowThen ?_ (Go.Joins.below_alloc1 _ _) | apply Below.drew | refine belowThen ?_ (by assumption) | refine belowThen ?_ (Go.Joins.below_draws _ _ _) | refine Below.setCell ?_ (by first | exact Nat.le_refl _ | (simp; done) | (simp; omega)) _))⟩
end Go.Proofs.Ytincekchaolebaa
namespace Go.Proofs.Ytincekchaolebaa.fnExactLightWins
open Go.ChangeShapes Go.WideShapes Go.ChangeAt Go.RowKit Go.Joins
open Go.ChangeMaps (open_string shut_string)
set_option linter.unusedVariables false
theorem own : ownKnob Try.prog.godebug = none := by kernel_rfl
theorem laidOut : laidOutB Try.prog = true := by kernel_rfl
set_option maxRecDepth 100000 in
theorem lifted (os : Os) (started : os.Started) (H : Type) (enc : TypeId × Value → H) :
    ReturnsInHanded {} Try.checked os 12 .any (Rows.fnExactLightWinsSpec.pre6 enc Try.prog Try.f12 Rows.fnExactLightWinsRow.domain false) (Rows.fnExactLightWinsSpec.post enc Try.prog Try.f12 false true false false) := by
  refine returnsInHanded_of_change (C := Try.checked) own started (by kernel_rfl) Try.func12
    (ChangeSpec.witness6 (enc := enc) (C := Try.checked) false ⟨#[], #[.slice none 0 0, .slice none 0 0], []⟩ 8 (by kernel_rfl) (by kernel_rfl) (by kernel_rfl) (by kernel_rfl)) ?_
  intro W base args ds gs before hval0 hW hcnd _
  have hval : ∀ (j : Nat) t v, Try.f12.params[j]? = some t → args[j]? = some v → Value.okWide Try.prog W .any base t v := hval0
  have hW' := hW
  obtain ⟨p, q, hA0, hV, rfl, hfz, hnd⟩ := hW
  have hA : DataW.TrodAll enc Try.prog W 0 (fun _ => true) true Try.f12.params.toList args.toList ds p := hA0
  rw [Try.params12] at hA hval
  obtain ⟨v0, vs0, d0, ds0, p0, q0, hargs, rfl, rfl, h0, r0⟩ := trodAll_cons hA
  obtain ⟨v1, vs1, d1, ds1, p1, q1, rfl, rfl, rfl, h1, r1⟩ := trodAll_cons r0
  obtain ⟨rfl, rfl, rfl⟩ := trodAll_nil r1
  obtain rfl : args = #[v0, v1] := by cases args; simp_all
  obtain ⟨rfl, rfl⟩ := trodVars_none hV
  have k0 := h0
  have lt0 : ∀ x ∈ p0, x.block < W.heap.size := by obtain ⟨m, hm⟩ := k0; exact DataW.trod_lt m _ _ _ hm
  have k1 := h1
  have lt1 : ∀ x ∈ p1, x.block < W.heap.size := by obtain ⟨m, hm⟩ := k1; exact DataW.trod_lt m _ _ _ hm
  obtain ⟨a0, len0, cap0, rfl⟩ := okWide_slice Try.underlying22 (hval 0 22 v0 rfl rfl)
  obtain ⟨z0, w0⟩ : ∃ zs, RowIn .i64 W a0 len0 cap0 zs := by
    obtain ⟨fuel, hf⟩ := h0
    rcases open_ints Try.underlying22 Try.underlying3 (by kernel_rfl) hf with ⟨hcs, _⟩ | ⟨x, l, c, zs, hcs, _, hl, hm, hz, _, hcell, hwz⟩
    · simp [Value.cells] at hcs
      obtain ⟨rfl, rfl, rfl⟩ := hcs
      exact ⟨[], .inl ⟨rfl, rfl, rfl, rfl⟩⟩
    · simp [Value.cells] at hcs
      obtain ⟨rfl, rfl, rfl⟩ := hcs
      exact ⟨zs, .inr ⟨_, rfl, hl, hm, by simpa using hz, hcell, hwz⟩⟩
  obtain ⟨a1, len1, cap1, rfl⟩ := okWide_slice Try.underlying22 (hval 1 22 v1 rfl rfl)
  obtain ⟨z1, w1⟩ : ∃ zs, RowIn .i64 W a1 len1 cap1 zs := by
    obtain ⟨fuel, hf⟩ := h1
    rcases open_ints Try.underlying22 Try.underlying3 (by kernel_rfl) hf with ⟨hcs, _⟩ | ⟨x, l, c, zs, hcs, _, hl, hm, hz, _, hcell, hwz⟩
    · simp [Value.cells] at hcs
      obtain ⟨rfl, rfl, rfl⟩ := hcs
      exact ⟨[], .inl ⟨rfl, rfl, rfl, rfl⟩⟩
    · simp [Value.cells] at hcs
      obtain ⟨rfl, rfl, rfl⟩ := hcs
      exact ⟨zs, .inr ⟨_, rfl, hl, hm, by simpa using hz, hcell, hwz⟩⟩
  clear hA0 hval0
  refine (fnExactLightWins_walk a0 len0 cap0 z0 a1 len1 cap1 z1 W w0 w1).mono fun e W' ⟨he, bel⟩ => ?_
  subst he
  exact ⟨_, rfl, _, _, _, [], _, [], hW', trodAll_mk1 (shut_bool Try.underlying4 _), (trodAll_cons_mk (Below.trod laidOut (by kernel_rfl) (of_decide_eq_true (by kernel_rfl)) k0 bel lt0) (trodAll_cons_mk (Below.trod laidOut (by kernel_rfl) (of_decide_eq_true (by kernel_rfl)) k1 bel lt1) trodAll_mk0)), rfl, bel.frame _, fun h => by cases h⟩
theorem over : Rows.fnExactLightWinsRow.holds Try.pinned (OpenSpec.ofChange Rows.fnExactLightWinsSpec) :=
  OpenClaim.holds_of_wide 12 Try.f12 rfl rfl rfl rfl rfl rfl rfl ⟨rfl, rfl, rfl, rfl, rfl⟩ rfl rfl rfl rfl rfl (by kernel_rfl) Try.func12 (by kernel_rfl)
    (of_decide_eq_true (by kernel_rfl)) (by unfold Func.isWrapper; first | (rw [if_pos (by decide +kernel)]; kernel_rfl) | (rw [if_neg (by decide +kernel)]; exact ⟨rfl, rfl⟩))
    (fun os started H enc _ => lifted os started H enc)
theorem proved : Rows.FnExactLightWinsSaid := over
end Go.Proofs.Ytincekchaolebaa.fnExactLightWins
