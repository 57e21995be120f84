/- Joined texts: LawLastCells. -/
import Derived.Test.YtcddfpbohejhhacMg12
import Derived.Test.YtcddfpbohejhhacMg13
import Derived.Test.YtcddfpbohejhhacMg14
import Derived.Lib.Hide
namespace Go.Proofs.Ytcddfpbohejhhac
open Go.RowKit

set_option maxHeartbeats 2000000 in
theorem fnExactLastCells_walk (c : Int) (_ : -9223372036854775808 ≤ c ∧ c ≤ 9223372036854775807) (ao_goal : Option Addr) (n_goal cap_goal : Nat) (z_goal : List Int) (w : World) (w_goal : RowIn .i64 w ao_goal n_goal cap_goal z_goal) :
    Calls Try.prog 3 #[.int .i64 c, .slice ao_goal n_goal cap_goal] w fun e w' => e = .returned (.bool true) ∧ Below w.heap.size w w' := by
  obtain ⟨hr_goal, hn_goal, hm_goal⟩ := RdI_row w_goal
  clear w_goal
  generalize z_goal.take n_goal = L_goal at hr_goal hn_goal
  have HN_goal := Lib.hid hn_goal
  clear hn_goal
  by_cases hbig_goal : n_goal ≤ 1048576
  rotate_left
  · have hA1 := @cellAlloc; have hA2 := @frozenAlloc; have hA3 := @setCellAlloc; go_enter Try.func3, Try.ntmps3
    go_wp2
    go_ret
    exact ⟨rfl, Below.refl _ _⟩
  have hle := lastL_le c L_goal n_goal
  generalize hF : lastL c L_goal n_goal = F at hle
  generalize hg0 : playB c L_goal n_goal = r0
  have HF := Lib.hid hF
  clear hF
  have HG0 := Lib.hid hg0
  clear hg0
  have t1 : True := trivial
  have t2 : True := trivial
  have t3 : True := trivial
  have t4 : True := trivial
  have t5 : True := trivial
  have t6 : True := trivial
  have t7 : True := trivial
  have t8 : True := trivial
  have t9 : True := trivial
  have t10 : True := trivial
  have th10 : True := trivial
  have t11 : True := trivial
  have t12 : True := trivial
  have t13 : True := trivial
  have th14 : True := trivial
  have hA1 := @cellAlloc; have hA2 := @frozenAlloc; have hA3 := @setCellAlloc; go_enter Try.func3, Try.ntmps3
  go_wp2_with (first
  | (go_at_call 5; clear t1; refine (toIntS_any _ _ _ L_goal _ hr_goal HN_goal.out hbig_goal).mono ?_; rintro e w1 ⟨g1, rfl, ho1, hb1⟩; have B0_1 := hb1)
  | (go_at_call 4; clear t2; refine (LastCellsS_any _ _ _ _ L_goal _ (RdI_owns ho1) HN_goal.out (by unfold maxLen; omega) (Nat.le_refl _)).mono ?_; rw [HF.out, HG0.out]; rintro e w2 ⟨ao2, ca2, rfl, ho2, hb2⟩; have B0_2 := belowThen B0_1 hb2; have B1_2 := hb2)
  | (go_at_call 5; clear t3; refine (toIntS_any _ _ _ L_goal _ (RdI_below hr_goal B0_2) HN_goal.out hbig_goal).mono ?_; rintro e w3 ⟨g3, rfl, ho3, hb3⟩; have B0_3 := belowThen B0_2 hb3; have B2_3 := hb3)
  | (go_at_call 6; clear t4; refine (LastCellsI_any _ _ _ _ L_goal _ (RdI_owns ho3) HN_goal.out (by unfold maxLen; omega) (Nat.le_refl _)).mono ?_; rw [HF.out, HG0.out]; rintro e w4 ⟨ao4, ca4, rfl, ho4, hb4⟩; have B0_4 := belowThen B0_3 hb4; have B2_4 := belowThen B2_3 hb4; have B3_4 := hb4)
  | (go_at_call 7; clear t5; refine (eqIntS_same _ _ _ _ _ F _ (RdI_owns ho4) (RdI_below (RdI_owns ho2) B2_4) rfl (by unfold maxLen; omega)).mono ?_; rintro e w5 ⟨rfl, hb5⟩; have B0_5 := belowThen B0_4 hb5; have B2_5 := belowThen B2_4 hb5; have B3_5 := belowThen B3_4 hb5; have B4_5 := hb5)
  | (go_at_call 5; clear t6; refine (toIntS_any _ _ _ L_goal _ (RdI_below hr_goal B0_5) HN_goal.out hbig_goal).mono ?_; rintro e w6 ⟨g6, rfl, ho6, hb6⟩; have B0_6 := belowThen B0_5 hb6; have B2_6 := belowThen B2_5 hb6; have B3_6 := belowThen B3_5 hb6; have B4_6 := belowThen B4_5 hb6)
  | (go_at_call 7; clear t7; refine (eqIntS_same _ _ _ _ _ L_goal _ (RdI_below (RdI_owns ho3) B3_6) (RdI_owns ho6) HN_goal.out (by unfold maxLen; omega)).mono ?_; rintro e w7 ⟨rfl, hb7⟩; have B0_7 := belowThen B0_6 hb7; have B2_7 := belowThen B2_6 hb7; have B3_7 := belowThen B3_6 hb7; have B4_7 := belowThen B4_6 hb7; have B6_7 := hb7)
  | (go_at_call 8; clear t8; refine (markIntS_only _ _ _ _ L_goal _ _ (ownsInts_below ho3 B3_7 (Nat.le_refl _)) HN_goal.out hbig_goal (by omega) (by omega)).mono ?_; rintro e w8 ⟨rfl, hon8, hbx8⟩; have B0_8 := B0_7.trans (hbx8.mono (B0_2.size)); have B2_8 := B2_7.trans (hbx8.mono (Nat.le_refl _)); have owr4_8 : ownsInts w8 w3.heap.size (.slice ao4 F.length ca4) F := ownsG_only (ownsInts_below ho4 B4_7 (Nat.le_refl _)) hon8 (own_lt ho3 HN_goal.out (Nat.le_refl _)))
  | (go_at_call 7; clear t9; refine (eqIntS_same _ _ _ _ _ F _ (RdI_owns owr4_8) (RdI_below (RdI_owns ho2) B2_8) rfl (by unfold maxLen; omega)).mono ?_; rintro e w9 ⟨rfl, hb9⟩; have B0_9 := belowThen B0_8 hb9; have B2_9 := belowThen B2_8 hb9; have B8_9 := hb9)
  | (go_at_call 8; clear t10; refine (markIntS_any _ _ _ _ F 1 _ (ownsInts_below owr4_8 B8_9 (Nat.le_refl _)) rfl (by unfold maxLen; omega) (by omega) (by omega)).mono ?_; rintro e w10 ⟨rfl, ho10, hbx10⟩; have B0_10 := B0_9.trans (hbx10.mono (B0_3.size)); have B2_10 := B2_9.trans (hbx10.mono (B2_3.size)))
  | (go_at_call 9; clear th10; refine (heldIntS_any _ _ _ 1 _ (RdI_owns ho10) (by unfold maxLen; omega) (by omega) (by omega)).mono ?_; rintro e w' ⟨rfl, rfl⟩)
  | (go_at_call 5; clear t11; refine (toIntS_any _ _ _ L_goal _ (RdI_below hr_goal B0_10) HN_goal.out hbig_goal).mono ?_; rintro e w11 ⟨g11, rfl, ho11, hb11⟩; have B0_11 := belowThen B0_10 hb11; have B2_11 := belowThen B2_10 hb11; have B10_11 := hb11)
  | (go_at_call 6; clear t12; refine (LastCellsI_any _ _ _ _ L_goal _ (RdI_owns ho11) HN_goal.out (by unfold maxLen; omega) (Nat.le_refl _)).mono ?_; rw [HF.out, HG0.out]; rintro e w12 ⟨ao12, ca12, rfl, ho12, hb12⟩; have B0_12 := belowThen B0_11 hb12; have B2_12 := belowThen B2_11 hb12; have B10_12 := belowThen B10_11 hb12; have B11_12 := hb12)
  | (go_at_call 7; clear t13; refine (eqIntS_same _ _ _ _ _ F _ (RdI_owns ho12) (RdI_below (RdI_owns ho2) B2_12) rfl (by unfold maxLen; omega)).mono ?_; rintro e w13 ⟨rfl, hb13⟩; have B0_13 := belowThen B0_12 hb13; have B2_13 := belowThen B2_12 hb13; have B10_13 := belowThen B10_12 hb13; have B12_13 := hb13)
  | (go_at_call 9; clear th14; refine (heldIntS_any _ _ _ 1 _ (RdI_below (RdI_owns ho10) B10_13) (by unfold maxLen; omega) (by omega) (by omega)).mono ?_; rintro e w' ⟨rfl, rfl⟩))
  go_ret
  exact ⟨rfl, B0_13⟩
end Go.Proofs.Ytcddfpbohejhhac
namespace Go.Proofs.Ytcddfpbohejhhac.fnExactLastCells
open Go.ChangeShapes Go.WideShapes Go.ChangeAt Go.RowKit Go.Joins
open Go.ChangeMaps (open_string shut_string)
set_option linter.unusedVariables false
theorem own : ownKnob Try.prog.godebug = none := by kernel_rfl
theorem laidOut : laidOutB Try.prog = true := by kernel_rfl
set_option maxRecDepth 100000 in
theorem lifted (os : Os) (started : os.Started) (H : Type) (enc : TypeId × Value → H) :
    ReturnsInHanded {} Try.checked os 3 .any (Rows.fnExactLastCellsSpec.pre6 enc Try.prog Try.f3 Rows.fnExactLastCellsRow.domain false) (Rows.fnExactLastCellsSpec.post enc Try.prog Try.f3 false true false false) := by
  refine returnsInHanded_of_change (C := Try.checked) own started (by kernel_rfl) Try.func3
    (ChangeSpec.witness6 (enc := enc) (C := Try.checked) false ⟨#[], #[.int .i64 0, .slice none 0 0], []⟩ 8 (by kernel_rfl) (by kernel_rfl) (by kernel_rfl) (by kernel_rfl)) ?_
  intro W base args ds gs before hval0 hW hcnd _
  have hval : ∀ (j : Nat) t v, Try.f3.params[j]? = some t → args[j]? = some v → Value.okWide Try.prog W .any base t v := hval0
  have hW' := hW
  obtain ⟨p, q, hA0, hV, rfl, hfz, hnd⟩ := hW
  have hA : DataW.TrodAll enc Try.prog W 0 (fun _ => true) true Try.f3.params.toList args.toList ds p := hA0
  rw [Try.params3] at hA hval
  obtain ⟨v0, vs0, d0, ds0, p0, q0, hargs, rfl, rfl, h0, r0⟩ := trodAll_cons hA
  obtain ⟨v1, vs1, d1, ds1, p1, q1, rfl, rfl, rfl, h1, r1⟩ := trodAll_cons r0
  obtain ⟨rfl, rfl, rfl⟩ := trodAll_nil r1
  obtain rfl : args = #[v0, v1] := by cases args; simp_all
  obtain ⟨rfl, rfl⟩ := trodVars_none hV
  have k0 := h0
  have lt0 : ∀ x ∈ p0, x.block < W.heap.size := by obtain ⟨m, hm⟩ := k0; exact DataW.trod_lt m _ _ _ hm
  have k1 := h1
  have lt1 : ∀ x ∈ p1, x.block < W.heap.size := by obtain ⟨m, hm⟩ := k1; exact DataW.trod_lt m _ _ _ hm
  obtain ⟨x0, hv0, w0⟩ : ∃ x : Int, v0 = .int .i64 x ∧ (Lit.int .i64 x).wf = true := by obtain ⟨x, hx, _, _, wx⟩ := open_int Try.underlying3 (hval 0 3 v0 rfl rfl) h0; exact ⟨x, hx, wx⟩
  subst hv0
  obtain ⟨a1, len1, cap1, rfl⟩ := okWide_slice Try.underlying22 (hval 1 22 v1 rfl rfl)
  obtain ⟨z1, w1⟩ : ∃ zs, RowIn .i64 W a1 len1 cap1 zs := by
    obtain ⟨fuel, hf⟩ := h1
    rcases open_ints Try.underlying22 Try.underlying3 (by kernel_rfl) hf with ⟨hcs, _⟩ | ⟨x, l, c, zs, hcs, _, hl, hm, hz, _, hcell, hwz⟩
    · simp [Value.cells] at hcs
      obtain ⟨rfl, rfl, rfl⟩ := hcs
      exact ⟨[], .inl ⟨rfl, rfl, rfl, rfl⟩⟩
    · simp [Value.cells] at hcs
      obtain ⟨rfl, rfl, rfl⟩ := hcs
      exact ⟨zs, .inr ⟨_, rfl, hl, hm, by simpa using hz, hcell, hwz⟩⟩
  clear hA0 hval0
  refine (fnExactLastCells_walk x0 (by simpa [Lit.wf, IntKind.min, IntKind.max, IntKind.signed, IntKind.bits] using w0) a1 len1 cap1 z1 W w1).mono fun e W' ⟨he, bel⟩ => ?_
  subst he
  exact ⟨_, rfl, _, _, _, [], _, [], hW', trodAll_mk1 (shut_bool Try.underlying4 _), (trodAll_cons_mk (Below.trod laidOut (by kernel_rfl) (of_decide_eq_true (by kernel_rfl)) k0 bel lt0) (trodAll_cons_mk (Below.trod laidOut (by kernel_rfl) (of_decide_eq_true (by kernel_rfl)) k1 bel lt1) trodAll_mk0)), rfl, bel.frame _, fun h => by cases h⟩
theorem over : Rows.fnExactLastCellsRow.holds Try.pinned (OpenSpec.ofChange Rows.fnExactLastCellsSpec) :=
  OpenClaim.holds_of_wide 3 Try.f3 rfl rfl rfl rfl rfl rfl rfl ⟨rfl, rfl, rfl, rfl, rfl⟩ rfl rfl rfl rfl rfl (by kernel_rfl) Try.func3 (by kernel_rfl)
    (of_decide_eq_true (by kernel_rfl)) (by unfold Func.isWrapper; first | (rw [if_pos (by decide +kernel)]; kernel_rfl) | (rw [if_neg (by decide +kernel)]; exact ⟨rfl, rfl⟩))
    (fun os started H enc _ => lifted os started H enc)
theorem proved : Rows.FnExactLastCellsSaid := over
end Go.Proofs.Ytcddfpbohejhhac.fnExactLastCells
