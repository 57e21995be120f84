/- For all arguments, PlayGame of the program and of the reference agree, the arguments are left alone, and the result is new memory. No conditions. -/
import Derived.Test.YtincekchaolebaaPlayI
import Derived.Test.YtincekchaolebaaToS
import Derived.Test.YtincekchaolebaaEqS
import Derived.Test.YtincekchaolebaaMarkO
import Derived.Test.YtincekchaolebaaMarkP
import Derived.Lib.Hide
namespace Go.Proofs.Ytincekchaolebaa
open Go.RowKit

set_option maxHeartbeats 2000000 in
theorem fnExactPlayGame_walk (ao_r : Option Addr) (n_r cap_r : Nat) (z_r : List Int) (ao_goal : Option Addr) (n_goal cap_goal : Nat) (z_goal : List Int) (w : World) (w_r : RowIn .i64 w ao_r n_r cap_r z_r) (w_goal : RowIn .i64 w ao_goal n_goal cap_goal z_goal) :
    Calls Try.prog 14 #[.slice ao_r n_r cap_r, .slice ao_goal n_goal cap_goal] w fun e w' => e = .returned (.bool true) ∧ Below w.heap.size w w' := by
  obtain ⟨hr_r, hn_r, hm_r⟩ := RdI_row w_r
  clear w_r
  generalize z_r.take n_r = L_r at hr_r hn_r
  have HN_r := Lib.hid hn_r
  clear hn_r
  obtain ⟨hr_goal, hn_goal, hm_goal⟩ := RdI_row w_goal
  clear w_goal
  generalize z_goal.take n_goal = L_goal at hr_goal hn_goal
  have HN_goal := Lib.hid hn_goal
  clear hn_goal
  by_cases hbig_r : n_r ≤ 1048576
  rotate_left
  · have hA1 := @cellAlloc; have hA2 := @frozenAlloc; have hA3 := @setCellAlloc; go_enter Try.func14, Try.ntmps14
    go_wp2
    go_ret
    exact ⟨rfl, Below.refl _ _⟩
  by_cases hbig_goal : n_goal ≤ 1048576
  rotate_left
  · have hA1 := @cellAlloc; have hA2 := @frozenAlloc; have hA3 := @setCellAlloc; go_enter Try.func14, Try.ntmps14
    go_wp2
    go_ret
    exact ⟨rfl, Below.refl _ _⟩
  have hle := gameN_le L_r L_goal n_goal
  have hlen : (gameF L_r L_goal n_goal).length = (gameN L_r L_goal n_goal) * 2 := gameF_len L_r L_goal n_goal
  generalize hF : gameF L_r L_goal n_goal = F at hle hlen
  generalize hnn : gameN L_r L_goal n_goal = nn at hle hlen
  generalize hg0 : goodRow L_r L_goal n_goal = r0
  have HF := Lib.hid hF
  have HNN := Lib.hid hnn
  have HLen := Lib.hid hlen
  clear hnn hlen
  clear hF
  have HG0 := Lib.hid hg0
  clear hg0
  have t1 : True := trivial
  have t2 : True := trivial
  have t3 : True := trivial
  have t4 : True := trivial
  have t5 : True := trivial
  have t6 : True := trivial
  have t7 : True := trivial
  have t8 : True := trivial
  have t9 : True := trivial
  have t10 : True := trivial
  have t11 : True := trivial
  have t12 : True := trivial
  have t13 : True := trivial
  have t14 : True := trivial
  have t15 : True := trivial
  have th15 : True := trivial
  have t16 : True := trivial
  have t17 : True := trivial
  have t18 : True := trivial
  have t19 : True := trivial
  have th20 : True := trivial
  have hA1 := @cellAlloc; have hA2 := @frozenAlloc; have hA3 := @setCellAlloc; go_enter Try.func14, Try.ntmps14
  go_wp2_with (first
  | (go_at_call 16; clear t1; refine (toIntS_any _ _ _ L_r _ hr_r HN_r.out hbig_r).mono ?_; rintro e w1 ⟨g1, rfl, ho1, hb1⟩; have B0_1 := hb1)
  | (go_at_call 16; clear t2; refine (toIntS_any _ _ _ L_goal _ (RdI_below hr_goal B0_1) HN_goal.out hbig_goal).mono ?_; rintro e w2 ⟨g2, rfl, ho2, hb2⟩; have B0_2 := belowThen B0_1 hb2; have B1_2 := hb2)
  | (go_at_call 43; clear t3; refine (PlayGameS_any _ _ _ L_r _ _ _ L_goal _ (RdI_below (RdI_owns ho1) B1_2) HN_r.out (by unfold maxLen; omega) (Nat.le_refl _) (RdI_owns ho2) HN_goal.out (by unfold maxLen; omega) (Nat.le_refl _)).mono ?_; rw [HF.out, HNN.out, HG0.out]; rintro e w3 ⟨ao3, ca3, rfl, ho3, hb3⟩; have B0_3 := belowThen B0_2 hb3; have B1_3 := belowThen B1_2 hb3; have B2_3 := hb3)
  | (go_at_call 16; clear t4; refine (toIntS_any _ _ _ L_r _ (RdI_below hr_r B0_3) HN_r.out hbig_r).mono ?_; rintro e w4 ⟨g4, rfl, ho4, hb4⟩; have B0_4 := belowThen B0_3 hb4; have B3_4 := hb4)
  | (go_at_call 16; clear t5; refine (toIntS_any _ _ _ L_goal _ (RdI_below hr_goal B0_4) HN_goal.out hbig_goal).mono ?_; rintro e w5 ⟨g5, rfl, ho5, hb5⟩; have B0_5 := belowThen B0_4 hb5; have B3_5 := belowThen B3_4 hb5; have B4_5 := hb5)
  | (go_at_call 44; clear t6; refine (PlayGameI_any _ _ _ L_r _ _ _ L_goal _ (RdI_below (RdI_owns ho4) B4_5) HN_r.out (by unfold maxLen; omega) (Nat.le_refl _) (RdI_owns ho5) HN_goal.out (by unfold maxLen; omega) (Nat.le_refl _)).mono ?_; rw [HF.out, HNN.out, HG0.out]; rintro e w6 ⟨ao6, ca6, rfl, ho6, hb6⟩; have B0_6 := belowThen B0_5 hb6; have B3_6 := belowThen B3_5 hb6; have B4_6 := belowThen B4_5 hb6; have B5_6 := hb6)
  | (go_at_call 39; clear t7; refine (eqIntA2S_same _ _ nn _ _ F _ (RdI_pairs ho6) (RdI_below (RdI_pairs ho3) B3_6) HLen.out (by unfold maxLen; omega)).mono ?_; rintro e w7 ⟨rfl, hb7⟩; have B0_7 := belowThen B0_6 hb7; have B3_7 := belowThen B3_6 hb7; have B4_7 := belowThen B4_6 hb7; have B5_7 := belowThen B5_6 hb7; have B6_7 := hb7)
  | (go_at_call 16; clear t8; refine (toIntS_any _ _ _ L_r _ (RdI_below hr_r B0_7) HN_r.out hbig_r).mono ?_; rintro e w8 ⟨g8, rfl, ho8, hb8⟩; have B0_8 := belowThen B0_7 hb8; have B3_8 := belowThen B3_7 hb8; have B4_8 := belowThen B4_7 hb8; have B5_8 := belowThen B5_7 hb8; have B6_8 := belowThen B6_7 hb8)
  | (go_at_call 18; clear t9; refine (eqIntS_same _ _ _ _ _ L_r _ (RdI_below (RdI_owns ho4) B4_8) (RdI_owns ho8) HN_r.out (by unfold maxLen; omega)).mono ?_; rintro e w9 ⟨rfl, hb9⟩; have B0_9 := belowThen B0_8 hb9; have B3_9 := belowThen B3_8 hb9; have B4_9 := belowThen B4_8 hb9; have B5_9 := belowThen B5_8 hb9; have B6_9 := belowThen B6_8 hb9; have B8_9 := hb9)
  | (go_at_call 16; clear t10; refine (toIntS_any _ _ _ L_goal _ (RdI_below hr_goal B0_9) HN_goal.out hbig_goal).mono ?_; rintro e w10 ⟨g10, rfl, ho10, hb10⟩; have B0_10 := belowThen B0_9 hb10; have B3_10 := belowThen B3_9 hb10; have B4_10 := belowThen B4_9 hb10; have B5_10 := belowThen B5_9 hb10; have B6_10 := belowThen B6_9 hb10)
  | (go_at_call 18; clear t11; refine (eqIntS_same _ _ _ _ _ L_goal _ (RdI_below (RdI_owns ho5) B5_10) (RdI_owns ho10) HN_goal.out (by unfold maxLen; omega)).mono ?_; rintro e w11 ⟨rfl, hb11⟩; have B0_11 := belowThen B0_10 hb11; have B3_11 := belowThen B3_10 hb11; have B4_11 := belowThen B4_10 hb11; have B5_11 := belowThen B5_10 hb11; have B6_11 := belowThen B6_10 hb11; have B10_11 := hb11)
  | (go_at_call 40; clear t12; refine (markIntS_only _ _ _ _ L_r _ _ (ownsInts_below ho4 B4_11 (Nat.le_refl _)) HN_r.out hbig_r (by omega) (by omega)).mono ?_; rintro e w12 ⟨rfl, hon12, hbx12⟩; have B0_12 := B0_11.trans (hbx12.mono (B0_3.size)); have B3_12 := B3_11.trans (hbx12.mono (Nat.le_refl _)); have owx5_12 : ownsInts w12 w4.heap.size (.slice (some ⟨g5, 0, none⟩) n_goal n_goal) L_goal := ownsG_only (ownsInts_below ho5 B5_11 (Nat.le_refl _)) hon12 (own_lt ho4 HN_r.out (Nat.le_refl _)); have owr6_12 : ownsPairs w12 w5.heap.size (.slice ao6 nn ca6) nn F := ownsG_only (ownsPairs_below ho6 B6_11 (Nat.le_refl _)) hon12 (own_lt ho4 HN_r.out B4_5.size))
  | (go_at_call 40; clear t13; refine (markIntS_only _ _ _ _ L_goal _ _ owx5_12 HN_goal.out hbig_goal (by omega) (by omega)).mono ?_; rintro e w13 ⟨rfl, hon13, hbx13⟩; have B0_13 := B0_12.trans (hbx13.mono (B0_4.size)); have B3_13 := B3_12.trans (hbx13.mono (B3_4.size)); have owr6_13 : ownsPairs w13 w5.heap.size (.slice ao6 nn ca6) nn F := ownsG_only owr6_12 hon13 (own_lt ho5 HN_goal.out (Nat.le_refl _)))
  | (go_at_call 39; clear t14; refine (eqIntA2S_same _ _ nn _ _ F _ (RdI_pairs owr6_13) (RdI_below (RdI_pairs ho3) B3_13) HLen.out (by unfold maxLen; omega)).mono ?_; rintro e w14 ⟨rfl, hb14⟩; have B0_14 := belowThen B0_13 hb14; have B3_14 := belowThen B3_13 hb14; have B13_14 := hb14)
  | (go_at_call 41; clear t15; refine (markIntA2S_any _ _ nn _ F _ (ownsPairs_below owr6_13 B13_14 (Nat.le_refl _)) (by omega)).mono ?_; rintro e w15 ⟨rfl, ho15, hbx15⟩; have B0_15 := B0_14.trans (hbx15.mono (B0_5.size)); have B3_15 := B3_14.trans (hbx15.mono (B3_5.size)))
  | (go_at_call 42; clear th15; refine (heldIntA2S_any _ nn _ _ (RdI_pairs ho15) (by omega)).mono ?_; rintro e w' ⟨rfl, rfl⟩)
  | (go_at_call 16; clear t16; refine (toIntS_any _ _ _ L_r _ (RdI_below hr_r B0_15) HN_r.out hbig_r).mono ?_; rintro e w16 ⟨g16, rfl, ho16, hb16⟩; have B0_16 := belowThen B0_15 hb16; have B3_16 := belowThen B3_15 hb16; have B15_16 := hb16)
  | (go_at_call 16; clear t17; refine (toIntS_any _ _ _ L_goal _ (RdI_below hr_goal B0_16) HN_goal.out hbig_goal).mono ?_; rintro e w17 ⟨g17, rfl, ho17, hb17⟩; have B0_17 := belowThen B0_16 hb17; have B3_17 := belowThen B3_16 hb17; have B15_17 := belowThen B15_16 hb17; have B16_17 := hb17)
  | (go_at_call 44; clear t18; refine (PlayGameI_any _ _ _ L_r _ _ _ L_goal _ (RdI_below (RdI_owns ho16) B16_17) HN_r.out (by unfold maxLen; omega) (Nat.le_refl _) (RdI_owns ho17) HN_goal.out (by unfold maxLen; omega) (Nat.le_refl _)).mono ?_; rw [HF.out, HNN.out, HG0.out]; rintro e w18 ⟨ao18, ca18, rfl, ho18, hb18⟩; have B0_18 := belowThen B0_17 hb18; have B3_18 := belowThen B3_17 hb18; have B15_18 := belowThen B15_17 hb18; have B16_18 := belowThen B16_17 hb18; have B17_18 := hb18)
  | (go_at_call 39; clear t19; refine (eqIntA2S_same _ _ nn _ _ F _ (RdI_pairs ho18) (RdI_below (RdI_pairs ho3) B3_18) HLen.out (by unfold maxLen; omega)).mono ?_; rintro e w19 ⟨rfl, hb19⟩; have B0_19 := belowThen B0_18 hb19; have B3_19 := belowThen B3_18 hb19; have B15_19 := belowThen B15_18 hb19; have B18_19 := hb19)
  | (go_at_call 42; clear th20; refine (heldIntA2S_any _ nn _ _ (RdI_below (RdI_pairs ho15) B15_19) (by omega)).mono ?_; rintro e w' ⟨rfl, rfl⟩))
  go_ret
  exact ⟨rfl, B0_19⟩
end Go.Proofs.Ytincekchaolebaa
namespace Go.Proofs.Ytincekchaolebaa.fnExactPlayGame
open Go.ChangeShapes Go.WideShapes Go.ChangeAt Go.RowKit Go.Joins
open Go.ChangeMaps (open_string shut_string)
set_option linter.unusedVariables false
theorem own : ownKnob Try.prog.godebug = none := by kernel_rfl
theorem laidOut : laidOutB Try.prog = true := by kernel_rfl
set_option maxRecDepth 100000 in
theorem lifted (os : Os) (started : os.Started) (H : Type) (enc : TypeId × Value → H) :
    ReturnsInHanded {} Try.checked os 14 .any (Rows.fnExactPlayGameSpec.pre6 enc Try.prog Try.f14 Rows.fnExactPlayGameRow.domain false) (Rows.fnExactPlayGameSpec.post enc Try.prog Try.f14 false true false false) := by
  refine returnsInHanded_of_change (C := Try.checked) own started (by kernel_rfl) Try.func14
    (ChangeSpec.witness6 (enc := enc) (C := Try.checked) false ⟨#[], #[.slice none 0 0, .slice none 0 0], []⟩ 8 (by kernel_rfl) (by kernel_rfl) (by kernel_rfl) (by kernel_rfl)) ?_
  intro W base args ds gs before hval0 hW hcnd _
  have hval : ∀ (j : Nat) t v, Try.f14.params[j]? = some t → args[j]? = some v → Value.okWide Try.prog W .any base t v := hval0
  have hW' := hW
  obtain ⟨p, q, hA0, hV, rfl, hfz, hnd⟩ := hW
  have hA : DataW.TrodAll enc Try.prog W 0 (fun _ => true) true Try.f14.params.toList args.toList ds p := hA0
  rw [Try.params14] at hA hval
  obtain ⟨v0, vs0, d0, ds0, p0, q0, hargs, rfl, rfl, h0, r0⟩ := trodAll_cons hA
  obtain ⟨v1, vs1, d1, ds1, p1, q1, rfl, rfl, rfl, h1, r1⟩ := trodAll_cons r0
  obtain ⟨rfl, rfl, rfl⟩ := trodAll_nil r1
  obtain rfl : args = #[v0, v1] := by cases args; simp_all
  obtain ⟨rfl, rfl⟩ := trodVars_none hV
  have k0 := h0
  have lt0 : ∀ x ∈ p0, x.block < W.heap.size := by obtain ⟨m, hm⟩ := k0; exact DataW.trod_lt m _ _ _ hm
  have k1 := h1
  have lt1 : ∀ x ∈ p1, x.block < W.heap.size := by obtain ⟨m, hm⟩ := k1; exact DataW.trod_lt m _ _ _ hm
  obtain ⟨a0, len0, cap0, rfl⟩ := okWide_slice Try.underlying22 (hval 0 22 v0 rfl rfl)
  obtain ⟨z0, w0⟩ : ∃ zs, RowIn .i64 W a0 len0 cap0 zs := by
    obtain ⟨fuel, hf⟩ := h0
    rcases open_ints Try.underlying22 Try.underlying3 (by kernel_rfl) hf with ⟨hcs, _⟩ | ⟨x, l, c, zs, hcs, _, hl, hm, hz, _, hcell, hwz⟩
    · simp [Value.cells] at hcs
      obtain ⟨rfl, rfl, rfl⟩ := hcs
      exact ⟨[], .inl ⟨rfl, rfl, rfl, rfl⟩⟩
    · simp [Value.cells] at hcs
      obtain ⟨rfl, rfl, rfl⟩ := hcs
      exact ⟨zs, .inr ⟨_, rfl, hl, hm, by simpa using hz, hcell, hwz⟩⟩
  obtain ⟨a1, len1, cap1, rfl⟩ := okWide_slice Try.underlying22 (hval 1 22 v1 rfl rfl)
  obtain ⟨z1, w1⟩ : ∃ zs, RowIn .i64 W a1 len1 cap1 zs := by
    obtain ⟨fuel, hf⟩ := h1
    rcases open_ints Try.underlying22 Try.underlying3 (by kernel_rfl) hf with ⟨hcs, _⟩ | ⟨x, l, c, zs, hcs, _, hl, hm, hz, _, hcell, hwz⟩
    · simp [Value.cells] at hcs
      obtain ⟨rfl, rfl, rfl⟩ := hcs
      exact ⟨[], .inl ⟨rfl, rfl, rfl, rfl⟩⟩
    · simp [Value.cells] at hcs
      obtain ⟨rfl, rfl, rfl⟩ := hcs
      exact ⟨zs, .inr ⟨_, rfl, hl, hm, by simpa using hz, hcell, hwz⟩⟩
  clear hA0 hval0
  refine (fnExactPlayGame_walk a0 len0 cap0 z0 a1 len1 cap1 z1 W w0 w1).mono fun e W' ⟨he, bel⟩ => ?_
  subst he
  exact ⟨_, rfl, _, _, _, [], _, [], hW', trodAll_mk1 (shut_bool Try.underlying4 _), (trodAll_cons_mk (Below.trod laidOut (by kernel_rfl) (of_decide_eq_true (by kernel_rfl)) k0 bel lt0) (trodAll_cons_mk (Below.trod laidOut (by kernel_rfl) (of_decide_eq_true (by kernel_rfl)) k1 bel lt1) trodAll_mk0)), rfl, bel.frame _, fun h => by cases h⟩
theorem over : Rows.fnExactPlayGameRow.holds Try.pinned (OpenSpec.ofChange Rows.fnExactPlayGameSpec) :=
  OpenClaim.holds_of_wide 14 Try.f14 rfl rfl rfl rfl rfl rfl rfl ⟨rfl, rfl, rfl, rfl, rfl⟩ rfl rfl rfl rfl rfl (by kernel_rfl) Try.func14 (by kernel_rfl)
    (of_decide_eq_true (by kernel_rfl)) (by unfold Func.isWrapper; first | (rw [if_pos (by decide +kernel)]; kernel_rfl) | (rw [if_neg (by decide +kernel)]; exact ⟨rfl, rfl⟩))
    (fun os started H enc _ => lifted os started H enc)
theorem proved : Rows.FnExactPlayGameSaid := over
end Go.Proofs.Ytincekchaolebaa.fnExactPlayGame
