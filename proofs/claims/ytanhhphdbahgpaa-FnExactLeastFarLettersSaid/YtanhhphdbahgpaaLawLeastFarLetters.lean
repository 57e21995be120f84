/- LeastFarLetters of the program and of the reference agree; what the program returns is memory of its own. No conditions. -/
import Derived.Test.YtanhhphdbahgpaaLeastF
import Derived.Lib.Hide
namespace Go.Proofs.Ytanhhphdbahgpaa
open Go.RowKit

set_option maxHeartbeats 1000000 in
theorem fnExactLeastFarLetters_walk (w : World) : Calls Try.prog 3 #[] w fun e w' => e = .returned (.bool true) ∧ Below w.heap.size w w' := by
  have HS := Lib.hid LeastFarS_any
  have HI := Lib.hid LeastFarI_any
  have HLen : Hid ((lfR.map nm).length ≤ 1000) := Lib.hid (by rw [List.length_map]; exact Nat.le_trans lfR_len (by decide))
  have HEq := Lib.hid (fun ao bo ca cb W h1 h2 => eqStringS_same ao bo (lfR.map nm).length ca cb (lfR.map nm) W h1 h2 rfl (by have := HLen.out; unfold maxLen; omega))
  have HMk := Lib.hid (fun B ao cap W h1 h2 => markStringS_any B ao (lfR.map nm).length cap (lfR.map nm) W h1 rfl HLen.out h2)
  have HHe := Lib.hid (fun ao cap W h1 => heldStringS_any ao (lfR.map nm).length cap W h1 HLen.out)
  unfold RetLF at HS HI
  have HLt : Hid (∀ (W : World) (B : Nat) (ao : Option Addr) (n cap : Nat) (S : List ByteArray), ownsV W B 9 (.slice ao n cap) (strV S) → RdV W ao (strV S)) := Lib.hid (fun W B ao n cap S h => by
    obtain ⟨ao', cap', he, h2⟩ := ownsV_shape h
    simp only [Value.slice.injEq] at he
    obtain ⟨rfl, -, -⟩ := he
    exact h2)
  generalize lfR.map nm = T at *
  generalize T.length = n at *
  have hA1 := @cellAlloc; have hA2 := @frozenAlloc; have hA3 := @setCellAlloc; go_enter Try.func3, Try.ntmps3
  go_wp2_with (first
    | (go_at_call 4; refine (HS.out _).mono ?_; rintro e w1 ⟨a1, c1, rfl, ho1, hb1⟩)
    | (go_at_call 5; first
        | (refine (HI.out w1).mono ?_; rintro e w2 ⟨a2, c2, rfl, ho2, hb2⟩; have hr0 := HLt.out _ _ _ _ _ _ ho1; have hr1 := RdV_below hr0 hb2; have hr2 := HLt.out _ _ _ _ _ _ ho2)
        | (refine (HI.out _).mono ?_; rintro e w6 ⟨a6, c6, rfl, ho6, hb6⟩; have hr6 := HLt.out _ _ _ _ _ _ ho6; replace hr1 := RdV_below hr1 hb6; replace hr4 := RdV_below hr4 hb6))
    | (go_at_call 6; first
        | (refine (HEq.out _ _ _ _ w2 hr2 hr1).mono ?_; rintro e w3 ⟨rfl, hb3⟩; replace hr1 := RdV_below hr1 hb3; replace ho2 := ownsG_below ho2 hb3 (Nat.le_refl _))
        | (refine (HEq.out _ _ _ _ w6 hr6 hr1).mono ?_; rintro e w7 ⟨rfl, hb7⟩; replace hr4 := RdV_below hr4 hb7))
    | (go_at_call 7; refine (HMk.out w1.heap.size _ _ _ ho2 (Nat.le_trans hb2.size hb3.size)).mono ?_; rintro e w4 ⟨rfl, ho4, hb4⟩; have hr4 := HLt.out _ _ _ _ _ _ ho4; have hbT : Below w1.heap.size w1 w4 := (hb2.trans (hb3.mono hb2.size)).trans hb4; replace hr1 := RdV_below hr0 hbT)
    | (go_at_call 8; first
        | (refine (HHe.out _ _ w4 hr4).mono ?_; rintro e w5 ⟨rfl, hb5⟩; replace hr1 := RdV_below hr1 hb5; replace hr4 := RdV_below hr4 hb5)
        | (refine (HHe.out _ _ w7 hr4).mono ?_; rintro e w8 ⟨rfl, hb8⟩)))
  go_ret
  exact ⟨rfl, (((((hb1.trans (hbT.mono hb1.size)).trans (hb5.mono (by have := hb1.size; have := hbT.size; omega))).trans (hb6.mono (by have := hb1.size; have := hbT.size; have := hb5.size; omega))).trans (hb7.mono (by have := hb1.size; have := hbT.size; have := hb5.size; have := hb6.size; omega))).trans (hb8.mono (by have := hb1.size; have := hbT.size; have := hb5.size; have := hb6.size; have := hb7.size; omega)))⟩
end Go.Proofs.Ytanhhphdbahgpaa
namespace Go.Proofs.Ytanhhphdbahgpaa.fnExactLeastFarLetters
open Go.ChangeShapes Go.WideShapes Go.ChangeAt Go.RowKit Go.Joins
open Go.ChangeMaps (open_string shut_string)
set_option linter.unusedVariables false
theorem own : ownKnob Try.prog.godebug = none := by kernel_rfl
theorem laidOut : laidOutB Try.prog = true := by kernel_rfl
set_option maxRecDepth 100000 in
theorem lifted (os : Os) (started : os.Started) (H : Type) (enc : TypeId × Value → H) :
    ReturnsInHanded {} Try.checked os 3 .any (Rows.fnExactLeastFarLettersSpec.pre6 enc Try.prog Try.f3 Rows.fnExactLeastFarLettersRow.domain false) (Rows.fnExactLeastFarLettersSpec.post enc Try.prog Try.f3 false true false false) := by
  refine returnsInHanded_of_change (C := Try.checked) own started (by kernel_rfl) Try.func3
    (ChangeSpec.witness6 (enc := enc) (C := Try.checked) false ⟨#[], #[], []⟩ 8 (by kernel_rfl) (by kernel_rfl) (by kernel_rfl) (by kernel_rfl)) ?_
  intro W base args ds gs before hval0 hW hcnd _
  have hval : ∀ (j : Nat) t v, Try.f3.params[j]? = some t → args[j]? = some v → Value.okWide Try.prog W .any base t v := hval0
  have hW' := hW
  obtain ⟨p, q, hA0, hV, rfl, hfz, hnd⟩ := hW
  have hA : DataW.TrodAll enc Try.prog W 0 (fun _ => true) true Try.f3.params.toList args.toList ds p := hA0
  obtain ⟨hargs, rfl, rfl⟩ := trodAll_none hA
  obtain rfl : args = #[] := by cases args; simp_all
  obtain ⟨rfl, rfl⟩ := trodVars_none hV
  clear hA0 hval0
  refine (fnExactLeastFarLetters_walk W).mono fun e W' ⟨he, bel⟩ => ?_
  subst he
  exact ⟨_, rfl, _, _, _, [], _, [], hW', trodAll_mk1 (shut_bool Try.underlying4 _), trodAll_mk0, rfl, bel.frame _, fun h => by cases h⟩
theorem over : Rows.fnExactLeastFarLettersRow.holds Try.pinned (OpenSpec.ofChange Rows.fnExactLeastFarLettersSpec) :=
  OpenClaim.holds_of_wide 3 Try.f3 rfl rfl rfl rfl rfl rfl rfl ⟨rfl, rfl, rfl, rfl, rfl⟩ rfl rfl rfl rfl rfl (by kernel_rfl) Try.func3 (by kernel_rfl)
    (of_decide_eq_true (by kernel_rfl)) (by unfold Func.isWrapper; first | (rw [if_pos (by decide +kernel)]; kernel_rfl) | (rw [if_neg (by decide +kernel)]; exact ⟨rfl, rfl⟩))
    (fun os started H enc _ => lifted os started H enc)
theorem proved : Rows.FnExactLeastFarLettersSaid := over
end Go.Proofs.Ytanhhphdbahgpaa.fnExactLeastFarLetters
