/- For all arguments, LeastSwitches of the program and of the reference agree, the arguments are left alone, and the result is new memory. No conditions. -/
import Derived.Test.YtjcbffkdemadnaaSlotA
import Derived.Test.YtjcbffkdemadnaaLeastS
import Derived.Test.YtjcbffkdemadnaaLeastI
import Derived.Test.YtjcbffkdemadnaaMarkO
import Derived.Lib.Hide
namespace Go.Proofs.Ytjcbffkdemadnaa
open Go.RowKit

set_option maxHeartbeats 2000000 in
theorem fnExactLeastSwitches_walk (k : Int) (_ : -9223372036854775808 ≤ k ∧ k ≤ 9223372036854775807) (ao : Option Addr) (n cap : Nat) (L : List (Int × Int)) (w : World) (wf : RdS w ao L ∧ L.length = n ∧ n ≤ maxLen) :
    Calls Try.prog 3 #[.int .i64 k, .slice ao n cap] w fun e w' => e = .returned (.bool true) ∧ Below w.heap.size w w' := by
  obtain ⟨hr, hn, hm⟩ := wf
  have HSZ := Lib.hid (fun W => szSlotS_any ao n cap W hm)
  by_cases hbig : n ≤ 1048576
  rotate_left
  · rw [if_neg hbig] at HSZ
    go_enter Try.func3, Try.ntmps3
    go_wp2_with (go_at_call 5; refine (HSZ.out _).mono ?_; rintro e w1 ⟨rfl, rfl⟩)
    go_ret
    exact ⟨rfl, Below.refl _ _⟩
  rw [if_pos hbig] at HSZ
  have hd0 : decide ((1048576 : Int) - (n : Int) < 0) = false := by simp; omega
  have hle := lsL_le k L
  have CS := Lib.hid (fun ao c W h => LeastSwitchesS_any k ao n c L W h hn hbig)
  have CI := Lib.hid (fun ao c W h => LeastSwitchesI_any k ao n c L W h hn hbig)
  generalize lsL k L = F at *
  generalize lsN k L = r0 at *
  generalize lsB k L = r1 at *
  have HN := Lib.hid hn
  have CT := Lib.hid (fun W h => toSlotS_any ao n cap L W h hn hbig)
  clear hn
  have t1 : True := trivial
  have t2 : True := trivial
  have t3 : True := trivial
  have t4 : True := trivial
  have t5 : True := trivial
  have t6 : True := trivial
  have t7 : True := trivial
  have t8 : True := trivial
  have t9 : True := trivial
  have t10 : True := trivial
  have t11 : True := trivial
  have t12 : True := trivial
  have t13 : True := trivial
  have t14 : True := trivial
  have t15 : True := trivial
  have t16 : True := trivial
  have hA1 := @cellAlloc; have hA2 := @frozenAlloc; have hA3 := @setCellAlloc; go_enter Try.func3, Try.ntmps3
  go_wp2_with (first
  | (go_at_call 5; refine (HSZ.out _).mono ?_; rintro e w1 ⟨rfl, rfl⟩)
  | (go_at_call 7; clear t1; refine (CT.out _ hr).mono ?_; rintro e w1 ⟨g1, rfl, ho1, B0_1⟩)
  | (go_at_call 6; clear t2; refine (CS.out _ _ _ (RdS_owns ho1)).mono ?_; rintro e w2 ⟨bo2, cb2, rfl, hr2, hb2⟩; have B0_2 := belowThen B0_1 hb2)
  | (go_at_call 7; clear t3; refine (CT.out _ (RdS_below hr B0_2)).mono ?_; rintro e w3 ⟨g3, rfl, ho3, B2_3⟩; have B0_3 := belowThen B0_2 B2_3)
  | (go_at_call 8; clear t4; refine (CI.out _ _ _ (RdS_owns ho3)).mono ?_; rintro e w4 ⟨bo4, cb4, rfl, ho4, B3_4⟩; have B0_4 := belowThen B0_3 B3_4; have B2_4 := belowThen B2_3 B3_4)
  | (go_at_call 9; clear t5; refine (eqSlotS_same _ _ _ _ _ F _ (RdS_owns ho4) (RdS_below hr2 B2_4) rfl (by unfold maxLen; omega)).mono ?_; rintro e w5 ⟨rfl, B4_5⟩; have B0_5 := belowThen B0_4 B4_5; have B2_5 := belowThen B2_4 B4_5; have B3_5 := belowThen B3_4 B4_5)
  | (go_at_call 7; clear t6; refine (CT.out _ (RdS_below hr B0_5)).mono ?_; rintro e w6 ⟨g6, rfl, ho6, B5_6⟩; have B0_6 := belowThen B0_5 B5_6; have B2_6 := belowThen B2_5 B5_6; have B3_6 := belowThen B3_5 B5_6; have B4_6 := belowThen B4_5 B5_6)
  | (go_at_call 9; clear t7; refine (eqSlotS_same _ _ n _ _ L _ (RdS_below (RdS_owns ho3) B3_6) (RdS_owns ho6) HN.out (by unfold maxLen; omega)).mono ?_; rintro e w7 ⟨rfl, B6_7⟩; have B0_7 := belowThen B0_6 B6_7; have B2_7 := belowThen B2_6 B6_7; have B3_7 := belowThen B3_6 B6_7; have B4_7 := belowThen B4_6 B6_7)
  | (go_at_call 10; clear t8; refine (markSlotS_only _ _ n n L _ (ownsS_below ho3 B3_7 (Nat.le_refl _)) HN.out hbig).mono ?_; rintro e w8 ⟨rfl, hmk8, hon8, hbx8⟩; have B0_8 := B0_7.trans (hbx8.mono B0_2.size); have B2_8 := B2_7.trans hbx8; have ow8 : ownsS w8 w3.heap.size (.slice bo4 (List.length F) cb4) F := ownsG_only (ownsS_below ho4 B4_7 (Nat.le_refl _)) hon8 (own_ltS ho3 HN.out (Nat.le_refl _)))
  | (go_at_call 9; clear t9; refine (eqSlotS_same _ _ _ _ _ F _ (RdS_owns ow8) (RdS_below hr2 B2_8) rfl (by unfold maxLen; omega)).mono ?_; rintro e w9 ⟨rfl, B8_9⟩; have B0_9 := belowThen B0_8 B8_9; have B2_9 := belowThen B2_8 B8_9)
  | (go_at_call 10; clear t10; refine (markSlotS_any _ _ _ _ F _ (ownsS_below ow8 B8_9 (Nat.le_refl _)) rfl (by omega)).mono ?_; rintro e w10 ⟨rfl, hr10, hbx10⟩; have B0_10 := B0_9.trans (hbx10.mono B0_3.size); have B2_10 := B2_9.trans (hbx10.mono B2_3.size))
  | (go_at_call 11; clear t11; refine (heldSlotS_any _ _ _ _ hr10 (by omega)).mono ?_; rintro e w11 ⟨rfl, rfl⟩)
  | (go_at_call 7; clear t12; refine (CT.out _ (RdS_below hr B0_10)).mono ?_; rintro e w12 ⟨g12, rfl, ho12, B10_12⟩; have B0_12 := belowThen B0_10 B10_12; have B2_12 := belowThen B2_10 B10_12)
  | (go_at_call 8; clear t13; refine (CI.out _ _ _ (RdS_owns ho12)).mono ?_; rintro e w13 ⟨bo13, cb13, rfl, ho13, B12_13⟩; have B0_13 := belowThen B0_12 B12_13; have B2_13 := belowThen B2_12 B12_13; have B10_13 := belowThen B10_12 B12_13)
  | (go_at_call 9; clear t14; refine (eqSlotS_same _ _ _ _ _ F _ (RdS_owns ho13) (RdS_below hr2 B2_13) rfl (by unfold maxLen; omega)).mono ?_; rintro e w14 ⟨rfl, B13_14⟩; have B0_14 := belowThen B0_13 B13_14; have B10_14 := belowThen B10_13 B13_14)
  | (go_at_call 11; clear t15; refine (heldSlotS_any _ _ _ _ (RdS_below hr10 B10_14) (by omega)).mono ?_; rintro e w15 ⟨rfl, rfl⟩))
  go_ret
  exact ⟨rfl, B0_14⟩
end Go.Proofs.Ytjcbffkdemadnaa
namespace Go.Proofs.Ytjcbffkdemadnaa.fnExactLeastSwitches
open Go.ChangeShapes Go.WideShapes Go.ChangeAt Go.RowKit Go.Joins
open Go.ChangeMaps (open_string shut_string)
set_option linter.unusedVariables false
theorem own : ownKnob Try.prog.godebug = none := by kernel_rfl
theorem laidOut : laidOutB Try.prog = true := by kernel_rfl
set_option maxRecDepth 100000 in
theorem lifted (os : Os) (started : os.Started) (H : Type) (enc : TypeId × Value → H) :
    ReturnsInHanded {} Try.checked os 3 .any (Rows.fnExactLeastSwitchesSpec.pre6 enc Try.prog Try.f3 Rows.fnExactLeastSwitchesRow.domain false) (Rows.fnExactLeastSwitchesSpec.post enc Try.prog Try.f3 false true false false) := by
  refine returnsInHanded_of_change (C := Try.checked) own started (by kernel_rfl) Try.func3
    (ChangeSpec.witness6 (enc := enc) (C := Try.checked) false ⟨#[], #[.int .i64 0, .slice none 0 0], []⟩ 8 (by kernel_rfl) (by kernel_rfl) (by kernel_rfl) (by kernel_rfl)) ?_
  intro W base args ds gs before hval0 hW hcnd _
  have hval : ∀ (j : Nat) t v, Try.f3.params[j]? = some t → args[j]? = some v → Value.okWide Try.prog W .any base t v := hval0
  have hW' := hW
  obtain ⟨p, q, hA0, hV, rfl, hfz, hnd⟩ := hW
  have hA : DataW.TrodAll enc Try.prog W 0 (fun _ => true) true Try.f3.params.toList args.toList ds p := hA0
  rw [Try.params3] at hA hval
  obtain ⟨v0, vs0, d0, ds0, p0, q0, hargs, rfl, rfl, h0, r0⟩ := trodAll_cons hA
  obtain ⟨v1, vs1, d1, ds1, p1, q1, rfl, rfl, rfl, h1, r1⟩ := trodAll_cons r0
  obtain ⟨rfl, rfl, rfl⟩ := trodAll_nil r1
  obtain rfl : args = #[v0, v1] := by cases args; simp_all
  obtain ⟨rfl, rfl⟩ := trodVars_none hV
  have k0 := h0
  have lt0 : ∀ x ∈ p0, x.block < W.heap.size := by obtain ⟨m, hm⟩ := k0; exact DataW.trod_lt m _ _ _ hm
  have k1 := h1
  have lt1 : ∀ x ∈ p1, x.block < W.heap.size := by obtain ⟨m, hm⟩ := k1; exact DataW.trod_lt m _ _ _ hm
  obtain ⟨x0, hv0, w0⟩ : ∃ x : Int, v0 = .int .i64 x ∧ (Lit.int .i64 x).wf = true := by obtain ⟨x, hx, _, _, wx⟩ := open_int Try.underlying3 (hval 0 3 v0 rfl rfl) h0; exact ⟨x, hx, wx⟩
  subst hv0
  obtain ⟨a1, len1, cap1, rfl⟩ := okWide_slice Try.underlying22 (hval 1 22 v1 rfl rfl)
  obtain ⟨z1, w1⟩ : ∃ l : List (Int × Int), RdS W a1 l ∧ l.length = len1 ∧ len1 ≤ maxLen := by obtain ⟨fuel, hf⟩ := h1; exact slots_open hf
  clear hA0 hval0
  refine (fnExactLeastSwitches_walk x0 (by simpa [Lit.wf, IntKind.min, IntKind.max, IntKind.signed, IntKind.bits] using w0) a1 len1 cap1 z1 W w1).mono fun e W' ⟨he, bel⟩ => ?_
  subst he
  exact ⟨_, rfl, _, _, _, [], _, [], hW', trodAll_mk1 (shut_bool Try.underlying4 _), (trodAll_cons_mk (Below.trod laidOut (by kernel_rfl) (of_decide_eq_true (by kernel_rfl)) k0 bel lt0) (trodAll_cons_mk (Below.trod laidOut (by kernel_rfl) (of_decide_eq_true (by kernel_rfl)) k1 bel lt1) trodAll_mk0)), rfl, bel.frame _, fun h => by cases h⟩
theorem over : Rows.fnExactLeastSwitchesRow.holds Try.pinned (OpenSpec.ofChange Rows.fnExactLeastSwitchesSpec) :=
  OpenClaim.holds_of_wide 3 Try.f3 rfl rfl rfl rfl rfl rfl rfl ⟨rfl, rfl, rfl, rfl, rfl⟩ rfl rfl rfl rfl rfl (by kernel_rfl) Try.func3 (by kernel_rfl)
    (of_decide_eq_true (by kernel_rfl)) (by unfold Func.isWrapper; first | (rw [if_pos (by decide +kernel)]; kernel_rfl) | (rw [if_neg (by decide +kernel)]; exact ⟨rfl, rfl⟩))
    (fun os started H enc _ => lifted os started H enc)
theorem proved : Rows.FnExactLeastSwitchesSaid := over
end Go.Proofs.Ytjcbffkdemadnaa.fnExactLeastSwitches
