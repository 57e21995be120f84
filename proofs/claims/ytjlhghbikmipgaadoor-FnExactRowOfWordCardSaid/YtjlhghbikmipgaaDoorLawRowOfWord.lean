/- For all arguments, RowOfWord of the program and of the reference agree, the arguments are left alone, and the result is new memory. No conditions. -/
import Derived.Test.YtjlhghbikmipgaaDoorShort
import Derived.Test.YtjlhghbikmipgaaDoorEqS
import Derived.Test.YtjlhghbikmipgaaDoorMark
import Derived.Test.YtjlhghbikmipgaaDoorHeld
import Derived.Test.YtjlhghbikmipgaaDoorCards
import Derived.Test.YtjlhghbikmipgaaDoorTie
import Derived.Lay
import Derived.LaidOnce
import Derived.SevenTiedAt
import Derived.LaidMore
import Derived.Lib.Hide
namespace Go.Proofs.YtjlhghbikmipgaaDoor
open Go.RowKit

set_option maxHeartbeats 2000000 in
theorem fnExactRowOfWord_walk (s : ByteArray) (hs : s.size ≤ maxLen) (w : World)  :
    Calls Tryd.prog 5 #[.string s] w fun e w' => e = .returned (.bool true) ∧ Below w.heap.size w w' := by
  by_cases hbig_s : s.size ≤ 1048576
  rotate_left
  · unfold maxLen at *
    have hA1 := @cellAlloc; have hA2 := @frozenAlloc; have hA3 := @setCellAlloc; go_enter Tryd.func5, Tryd.ntmps5
    go_wp2
    go_ret
    exact ⟨rfl, Below.refl _ _⟩
  have hle := rowO_le s
  generalize hF : rowO s = F at hle
  generalize hg0 : wordB s 6 = r0
  have HF := Lib.hid hF
  clear hF
  have HG0 := Lib.hid hg0
  clear hg0
  have t1 : True := trivial
  have t2 : True := trivial
  have t3 : True := trivial
  have t4 : True := trivial
  have th4 : True := trivial
  have t5 : True := trivial
  have t6 : True := trivial
  have th7 : True := trivial
  have hA1 := @cellAlloc; have hA2 := @frozenAlloc; have hA3 := @setCellAlloc; go_enter Tryd.func5, Tryd.ntmps5
  go_wp2_with (first
  | (go_at_call 14; clear t1; refine (RowOfWordS_any _ hs _).mono ?_; rw [HF.out, HG0.out]; rintro e w1 ⟨ao1, ca1, rfl, ho1, hb1⟩; have B0_1 := hb1)
  | (go_at_call 15; clear t2; refine (RowOfWordI_any _ hs _).mono ?_; rw [HF.out, HG0.out]; rintro e w2 ⟨ao2, ca2, rfl, ho2, hb2⟩; have B0_2 := belowThen B0_1 hb2; have B1_2 := hb2)
  | (go_at_call 16; clear t3; refine (eqIntS_same _ _ _ _ _ F _ (RdI_owns ho2) (RdI_below (RdI_owns ho1) B1_2) rfl (by unfold maxLen; omega)).mono ?_; rintro e w3 ⟨rfl, hb3⟩; have B0_3 := belowThen B0_2 hb3; have B1_3 := belowThen B1_2 hb3; have B2_3 := hb3)
  | (go_at_call 17; clear t4; refine (markIntS_any _ _ _ _ F 1 _ (ownsInts_below ho2 B2_3 (Nat.le_refl _)) rfl (by unfold maxLen; omega) (by omega) (by omega)).mono ?_; rintro e w4 ⟨rfl, ho4, hbx4⟩; have B0_4 := B0_3.trans (hbx4.mono (B0_1.size)); have B1_4 := B1_3.trans (hbx4.mono (Nat.le_refl _)))
  | (go_at_call 18; clear th4; refine (heldIntS_any _ _ _ 1 _ (RdI_owns ho4) (by unfold maxLen; omega) (by omega) (by omega)).mono ?_; rintro e w' ⟨rfl, rfl⟩)
  | (go_at_call 15; clear t5; refine (RowOfWordI_any _ hs _).mono ?_; rw [HF.out, HG0.out]; rintro e w5 ⟨ao5, ca5, rfl, ho5, hb5⟩; have B0_5 := belowThen B0_4 hb5; have B1_5 := belowThen B1_4 hb5; have B4_5 := hb5)
  | (go_at_call 16; clear t6; refine (eqIntS_same _ _ _ _ _ F _ (RdI_owns ho5) (RdI_below (RdI_owns ho1) B1_5) rfl (by unfold maxLen; omega)).mono ?_; rintro e w6 ⟨rfl, hb6⟩; have B0_6 := belowThen B0_5 hb6; have B1_6 := belowThen B1_5 hb6; have B4_6 := belowThen B4_5 hb6; have B5_6 := hb6)
  | (go_at_call 18; clear th7; refine (heldIntS_any _ _ _ 1 _ (RdI_below (RdI_owns ho4) B4_6) (by unfold maxLen; omega) (by omega) (by omega)).mono ?_; rintro e w' ⟨rfl, rfl⟩))
  go_ret
  exact ⟨rfl, B0_6⟩
end Go.Proofs.YtjlhghbikmipgaaDoor
namespace Go.Proofs.YtjlhghbikmipgaaDoor.fnExactRowOfWord
open Go.ChangeShapes Go.WideShapes Go.ChangeAt Go.RowKit Go.Joins
open Go.ChangeMaps (open_string shut_string)
set_option linter.unusedVariables false
theorem own : ownKnob Tryd.prog.godebug = none := by kernel_rfl
theorem laidOut : laidOutB Tryd.prog = true := by kernel_rfl
set_option maxRecDepth 100000 in
theorem lifted (os : Os) (started : os.Started) (H : Type) (enc : TypeId × Value → H) :
    ReturnsInHanded {} Tryd.checked os 5 .any (fun w args => (Rows.fnExactRowOfWordSpec.pre enc Tryd.prog Tryd.f5 [] false w args ∧ laidMetH Tryd.prog Rows.fnExactRowOfWordRow.laid w) ∧ sizedMet enc Tryd.prog Tryd.f5 (OpenSpec.ofChange Rows.fnExactRowOfWordSpec) false w args)
      (Rows.fnExactRowOfWordSpec.post enc Tryd.prog Tryd.f5 false true false false) := by
  refine returnsInHanded_of_change_and (C := Tryd.checked) (X := fun w _ => laidMetH Tryd.prog Rows.fnExactRowOfWordRow.laid w) (fun _ _ _ hh h => h.of_heap hh) own started (by kernel_rfl) Tryd.func5
    (ChangeSpec.witness_shaped (enc := enc) (C := Tryd.checked) (os := os) (X := fun w _ => laidMetH Tryd.prog Rows.fnExactRowOfWordRow.laid w) false (World.laidAll Tryd.prog os Rows.fnExactRowOfWordRow.laid) #[.string ⟨#[]⟩] 8 (World.laidAll_os _ _ _)
      (World.shaped_of_ZipB (by kernel_rfl) (by kernel_rfl)) (by kernel_rfl) (by kernel_rfl) (by kernel_rfl)
      (by rw [MakeChecks.laidMetH_plain _ _ _ (by kernel_rfl)]; exact laidMet_laidAll _ (by kernel_rfl) (by kernel_rfl))) ?_
  intro W base args ds gs before hval0 hW _ _ _ _
  have hval : ∀ (j : Nat) t v, Tryd.f5.params[j]? = some t → args[j]? = some v → Value.okWide Tryd.prog W .any base t v := hval0
  have hW' := hW
  obtain ⟨p, q, hA0, hV, rfl, hfz, hnd⟩ := hW
  have hA : DataW.TrodAll enc Tryd.prog W 0 (fun _ => true) true Tryd.f5.params.toList args.toList ds p := hA0
  rw [Tryd.params5] at hA hval
  obtain ⟨v0, vs0, d0, ds0, p0, q0, hargs, rfl, rfl, h0, r0⟩ := trodAll_cons hA
  obtain ⟨rfl, rfl, rfl⟩ := trodAll_nil r0
  obtain rfl : args = #[v0] := by cases args; simp_all
  obtain ⟨rfl, rfl⟩ := trodVars_none hV
  have k0 := h0
  have lt0 : ∀ x ∈ p0, x.block < W.heap.size := by obtain ⟨m, hm⟩ := k0; exact DataW.trod_lt m _ _ _ hm
  obtain ⟨s0, hv0, ws0⟩ : ∃ s : ByteArray, v0 = .string s ∧ s.size ≤ maxLen := by obtain ⟨s, hx, _, _, hs⟩ := open_string Tryd.underlying9 (hval 0 9 v0 rfl rfl) h0; exact ⟨s, hx, hs⟩
  subst hv0
  clear hA0 hval0
  refine (fnExactRowOfWord_walk s0 ws0 W).mono fun e W' ⟨he, bel⟩ => ?_
  subst he
  exact ⟨_, rfl, _, _, _, [], _, [], hW', trodAll_mk1 (shut_bool Tryd.underlying4 _), (trodAll_cons_mk (Below.trod laidOut (by kernel_rfl) (of_decide_eq_true (by kernel_rfl)) k0 bel lt0) trodAll_mk0), rfl, bel.frame _, fun h => by cases h⟩
theorem over : Rows.fnExactRowOfWordRow.holds Tryd.pinned (OpenSpec.ofChange Rows.fnExactRowOfWordSpec) :=
  OpenClaim.holds_of_wide 5 Tryd.f5 rfl rfl rfl rfl rfl rfl rfl ⟨rfl, rfl, rfl, rfl, rfl⟩ rfl rfl rfl rfl rfl (by kernel_rfl) Tryd.func5 (by kernel_rfl)
    (of_decide_eq_true (by kernel_rfl)) (by unfold Func.isWrapper; first | (rw [if_pos (by decide +kernel)]; kernel_rfl) | (rw [if_neg (by decide +kernel)]; exact ⟨rfl, rfl⟩))
    (fun os started H enc _ => lifted os started H enc)
theorem proved : Rows.FnExactRowOfWordCardSaid :=
  Claim7.holds_tied_plain_at .later [] [.data, .pinned] true (true, "fb8d71a8706e55f38baab5e1f11e98de0294b5320b6c76a5bd346ab6660456d9") false
    over (fun _ h => by cases h) (by kernel_rfl) (fun _ h => by cases h) fnExactRowOfWord_row_tie rfl ⟨rfl, rfl⟩ (by kernel_rfl) rfl
    (fun f fn hf hfn => by
      obtain rfl : f = 5 := Option.some.inj ((show Tryd.prog.funcNamed "loop.example/g01265/laws.FnExactRowOfWord" = some 5 by kernel_rfl).symm.trans hf) |>.symm
      obtain rfl : fn = Tryd.f5 := (Option.some.inj (Tryd.func5.symm.trans hfn)).symm
      exact ⟨by kernel_rfl, fun j t ht => by
        rw [Tryd.params5] at ht
        have hm : t ∈ [9] := by simpa using Array.mem_of_getElem? ht
        have hall : ([9].all fun u => !(Tryd.prog).wantsStandIn u) = true := by kernel_rfl
        exact (show (Tryd.prog).wantsStandIn t = false by simpa using List.all_eq_true.1 hall t hm)⟩)
    (by kernel_rfl)
end Go.Proofs.YtjlhghbikmipgaaDoor.fnExactRowOfWord
