/- Without vain slots the same is seen, the fewest switches are no more than others, and duties lie between the greatest and the least, whatever is drawn. No conditions. -/
import Derived.Test.YtjcbffkdemadnaaSlotsM
import Derived.Test.YtjcbffkdemadnaaDropS
import Derived.Test.YtjcbffkdemadnaaDrawT
import Derived.Test.YtjcbffkdemadnaaLeastI
import Derived.Test.YtjcbffkdemadnaaLeastS
import Derived.Test.YtjcbffkdemadnaaBrightS
import Derived.Test.YtjcbffkdemadnaaRInts
import Derived.Test.YtjcbffkdemadnaaRdYS
import Derived.Lib.Hide
import Derived.Deep.Cut
namespace Go.Proofs.Ytjcbffkdemadnaa
open Go.RowKit

set_option maxRecDepth 100000 in
set_option maxHeartbeats 8000000 in
theorem fnSlots_walk (ao : Option Addr) (n cap : Nat) (z : List Int) (w : World) (hw : RowIn .u8 w ao n cap z) :
    Calls Try.prog 4 #[.slice ao n cap] w fun e w' => e = .returned (.bool true) ∧ Below w.heap.size w w' := by
  have HY := Lib.hid (RdY_row hw)
  clear hw z
  by_cases hbig : n ≤ 65536
  rotate_left
  · have hA1 := @cellAlloc; have hA2 := @frozenAlloc; have hA3 := @setCellAlloc; go_enter Try.func4, Try.ntmps4
    have hd : decide ((65536 : Int) < (n : Int)) = true := decide_eq_true (by omega)
    go_wp2_with (go_at_call 12; refine (rBig_any _ _ _ _).mono ?_; rw [hd]; rintro e w' ⟨rfl, rfl⟩)
    go_ret
    exact ⟨rfl, Below.refl _ _⟩
  have hd : decide ((65536 : Int) < (n : Int)) = false := decide_eq_false (by omega)
  have t1 : True := trivial
  have hA1 := @cellAlloc; have hA2 := @frozenAlloc; have hA3 := @setCellAlloc; go_enter Try.func4, Try.ntmps4
  go_upto_region 23 with (first
    | (go_at_call 12; refine (rBig_any _ _ _ _).mono ?_; rw [hd]; rintro e w' ⟨rfl, rfl⟩)
    | (go_at_call 13; refine (DrawDropVain_any ao n cap w HY.out).mono ?_; rintro e w1 ⟨⟨k, g, off, c, l, rfl, hk0, hk7, hl, ho1, hg1⟩, hB1⟩; have hF1 := RdS_owns ho1; have HC := Lib.hid (fun h => ownsS_cap ho1 h); have hl2 : l.length ≤ 1048576 := (by omega); have hlm : (dvL k l).length ≤ 1000 := (by have := dvL_le k l; omega); have hvm := vsL_le k l; clear ho1 hg1)
    | (go_at_call 14; refine (DropVainI_any k _ _ c l w1 hF1 rfl hl2).mono ?_; rintro e w2 ⟨a2, c2, rfl, hR2, hb2⟩; have hB2 := belowThen hB1 hb2; have hF2 := RdS_below hF1 hb2; clear hb2 hF1)
    | (go_at_call 15; refine (DropVainS_any k g off _ c l w2 hF2 rfl hl2).mono ?_; rintro e w3 ⟨a3, c3, rfl, hQ3, hb3⟩; have hB3 := belowThen hB2 hb3; have hF3 := RdS_below hF2 hb3; have hR3 := RdS_below hR2 hb3; clear hb3 hF2 hR2)
    | (go_at_call 16; clear t1; refine (rSlots_same _ _ _ c2 c3 (dvL k l) w3 hR3 hQ3 rfl (by unfold maxLen; omega)).mono ?_; rintro e w4 ⟨rfl, hb4⟩; have hB4 := belowThen hB3 hb4; have hF4 := RdS_below hF3 hb4; have hR4 := RdS_below hR3 hb4; clear hb4 hF3 hR3 hQ3; have t2 : True := trivial)
    | (go_at_call 17; refine (VainSlotsI_any k _ _ c l w4 hF4 rfl hl2).mono ?_; rintro e w5 ⟨a5, c5, rfl, hv5, hb5⟩; have hB5 := belowThen hB4 hb5; have hF5 := RdS_below hF4 hb5; have hR5 := RdS_below hR4 hb5; have hV5 := RdI_owns hv5; clear hb5 hF4 hR4 hv5)
    | (go_at_call 18; refine (VainSlotsS_any k g off _ c l w5 hF5 rfl hl2 HC.out).mono ?_; rintro e w6 ⟨a6, c6, rfl, hv6, hb6⟩; have hB6 := belowThen hB5 hb6; have hF6 := RdS_below hF5 hb6; have hR6 := RdS_below hR5 hb6; have hV6 := RdI_below hV5 hb6; have hU6 := RdI_owns hv6; clear hb6 hF5 hR5 hV5 hv6)
    | (go_at_call 19; refine (rInts_same _ _ _ c5 c6 (vsL k l) w6 hV6 hU6 rfl (by unfold maxLen; omega)).mono ?_; rintro e w7 ⟨rfl, hb7⟩; have hB7 := belowThen hB6 hb7; have hF7 := RdS_below hF6 hb7; have hR7 := RdS_below hR6 hb7; clear hb7 hF6 hR6 hV6 hU6)
    | (go_at_call 20; refine (DrawLeastSwitches_any ao n cap w7 (RdY_below HY.out hB7)).mono ?_; rintro e w8 ⟨⟨q, g8, off8, c8, s, rfl, hq0, hq7, hs, ho8, hg8⟩, hb8⟩; have hB8 := belowThen hB7 hb8; have hF8 := RdS_below hF7 hb8; have hR8 := RdS_below hR7 hb8; have hS8 := RdS_owns ho8; have hs2 : s.length ≤ 1048576 := (by omega); have hlm8 := lsL_le q s; clear hb8 hF7 hR7 ho8 hg8)
    | (go_at_call 8; refine (LeastSwitchesI_any q _ _ c8 s w8 hS8 rfl hs2).mono ?_; rintro e w9 ⟨a9, c9, rfl, ho9, hb9⟩; have hB9 := belowThen hB8 hb9; have hF9 := RdS_below hF8 hb9; have hR9 := RdS_below hR8 hb9; have hS9 := RdS_below hS8 hb9; have hL9 := RdS_owns ho9; clear hb9 hF8 hR8 hS8 ho9)
    | (go_at_call 6; refine (LeastSwitchesS_any q _ _ c8 s w9 hS9 rfl hs2).mono ?_; rintro e w10 ⟨a10, c10, rfl, hM10, hb10⟩; have hB10 := belowThen hB9 hb10; have hF10 := RdS_below hF9 hb10; have hR10 := RdS_below hR9 hb10; have hS10 := RdS_below hS9 hb10; have hL10 := RdS_below hL9 hb10; clear hb10 hF9 hR9 hS9 hL9)
    | (go_at_call 16; clear t2; refine (rSlots_same _ _ _ c9 c10 (lsL q s) w10 hL10 hM10 rfl (by unfold maxLen; omega)).mono ?_; rintro e w11 ⟨rfl, hb11⟩; have hB11 := belowThen hB10 hb11; have hF11 := RdS_below hF10 hb11; have hR11 := RdS_below hR10 hb11; have hS11 := RdS_below hS10 hb11; have hL11 := RdS_below hL10 hb11; clear hb11 hF10 hR10 hS10 hL10 hM10)
    | (go_at_call 21; refine (SwitchesOfI_any q _ _ c8 s w11 hS11 rfl hs2).mono ?_; rintro e w12 ⟨rfl, hb12⟩; have hB12 := belowThen hB11 hb12; have hF12 := RdS_below hF11 hb12; have hR12 := RdS_below hR11 hb12; have hS12 := RdS_below hS11 hb12; have hL12 := RdS_below hL11 hb12; clear hb12 hF11 hR11 hS11 hL11)
    | (go_at_call 22; refine (SwitchesOfS_any q _ _ c8 s w12 hS12 rfl hs2).mono ?_; rintro e w13 ⟨rfl, hb13⟩; have hB13 := belowThen hB12 hb13; have hF13 := RdS_below hF12 hb13; have hR13 := RdS_below hR12 hb13; have hS13 := RdS_below hS12 hb13; have hL13 := RdS_below hL12 hb13; clear hb13 hF12 hR12 hS12 hL12)
    | (go_at_call 23; refine (BrightestBarsI_any q _ _ c8 s w13 hS13 rfl hs2).mono ?_; rintro e w14 ⟨rfl, hb14⟩; have hB14 := belowThen hB13 hb14; have hF14 := RdS_below hF13 hb14; have hR14 := RdS_below hR13 hb14; have hS14 := RdS_below hS13 hb14; have hL14 := RdS_below hL13 hb14; clear hb14 hF13 hR13 hS13 hL13)
    | (go_at_call 24; refine (BrightestBarsS_any q _ _ c8 s w14 hS14 rfl hs2).mono ?_; rintro e w15 ⟨rfl, hb15⟩; have hB15 := belowThen hB14 hb15; have hF15 := RdS_below hF14 hb15; have hR15 := RdS_below hR14 hb15; have hS15 := RdS_below hS14 hb15; have hL15 := RdS_below hL14 hb15; clear hb15 hF14 hR14 hS14 hL14))
  go_cut [25, 26, 27, 28, 29, 30, 194] from 43 (fun _ _ _ _ _ _ s194 wx => s194 = .bool false ∧ w15 = wx)
  case first =>
    as_aux_lemma =>
      cases hf : brB q s with
      | true =>
        obtain ⟨d1, d2, d3⟩ := four_facts q s hf
        generalize (brN q s).1 = m1 at *
        generalize (brN q s).2 = m2 at *
        have n1 : ¬ (m2 < 1) := by rw [decide_eq_false_iff_not] at d1; omega
        have n2 : ¬ (m1 < m2) := by rw [decide_eq_false_iff_not] at d2; omega
        have n3 : ¬ (s.length < m1) := by rw [decide_eq_false_iff_not] at d3; omega
        have n4 : ¬ (m2 = 0) := by omega
        clear hf
        go_wp2
        go_meet
        exact ⟨rfl, rfl⟩
      | false =>
        clear hf
        go_wp2
        go_meet
        exact ⟨rfl, rfl⟩
  case rest =>
  obtain ⟨rfl, rfl⟩ := hcut
  go_upto_if 195 with fail
  have hBw := hB15.size
  go_cut [15, 16, 17, 18, 19, 20, 21, 22, 23, 24] from 43 (fun _ _ _ _ _ _ _ _ _ _ wx => Below w15.heap.size w15 wx)
  case first =>
    as_aux_lemma =>
      cases h2 : lsB q s with
      | false =>
        go_wp2
        go_meet
        exact Below.refl _ _
      | true =>
        obtain ⟨g1, g2, g3, g4, g5, g6⟩ := two_facts h2
        have hsl : (soL q s).length ≤ 1000 := soL_le q s
        have C1 := Lib.hid (fun W h => SwitchesOfI_any q a9 (lsL q s).length c9 (lsL q s) W h rfl (by omega))
        have C2 := Lib.hid (fun W h => SeenOfI_any q (some ⟨g8, off8, none⟩) s.length c8 s W h rfl hs2)
        have C3 := Lib.hid (fun W h => SeenOfI_any q a9 (lsL q s).length c9 (lsL q s) W h rfl (by omega))
        rw [g2, g3] at C1
        rw [g1] at C2
        rw [g2, g6] at C3
        rw [g1]
        generalize lsL q s = B at *
        generalize lsN q s = r at *
        generalize soN q s = sw at *
        generalize soL q s = SO at *
        rw [g5] at C1 C3 ⊢
        have hd4 : decide (sw < r) = false := decide_eq_false (by omega)
        have t5 : True := trivial
        clear g1 g2 g3 g4 g6 h2 hF15 hR15
        go_wp2_with (first
          | (go_at_call 21; refine (C1.out _ hL15).mono ?_; rintro e w16 ⟨rfl, hb16⟩; have hS16 := RdS_below hS15 hb16; have hL16 := RdS_below hL15 hb16)
          | (go_at_call 25; clear t5; refine (C2.out _ hS16).mono ?_; rintro e w17 ⟨a17, c17, rfl, ho17, hb17⟩; have hV17 := RdI_owns ho17; have hL17 := RdS_below hL16 hb17)
          | (go_at_call 25; refine (C3.out _ hL17).mono ?_; rintro e w18 ⟨a18, c18, rfl, ho18, hb18⟩; have hV18 := RdI_below hV17 hb18; have hU18 := RdI_owns ho18)
          | (go_at_call 19; refine (rInts_same _ _ _ c17 c18 SO w18 hV18 hU18 rfl (by unfold maxLen; omega)).mono ?_; rintro e w19 ⟨rfl, hb19⟩))
        go_meet
        exact belowThen (belowThen (belowThen hb16 hb17) hb18) hb19
  case rest =>
  have hFc := RdS_below hF15 hcut
  have hRc := RdS_below hR15 hcut
  have hBc := belowThen hB15 hcut
  clear hF15 hR15 hS15 hL15 hB15 hcut
  cases hok : goodS k l with
  | false =>
    as_aux_lemma =>
      go_wp2
      go_ret
      exact ⟨rfl, hBc⟩
  | true =>
    as_aux_lemma =>
      obtain ⟨g1, g2, g3, g4⟩ := ok_facts hok
      have hsl : (soL k l).length ≤ 1000 := soL_le k l
      have C1 := Lib.hid (fun W h => SeenOfI_any k (some ⟨g, off, none⟩) l.length c l W h rfl hl2)
      have C2 := Lib.hid (fun W h => SeenOfI_any k a2 (dvL k l).length c2 (dvL k l) W h rfl (by omega))
      have C3 := Lib.hid (fun W h => VainSlotsI_any k a2 (dvL k l).length c2 (dvL k l) W h rfl (by omega))
      rw [hok] at C1
      rw [g1, g2] at C2
      rw [g1, g3] at C3
      generalize dvL k l = D at *
      generalize vsL k l = V at *
      generalize soL k l = SO at *
      have t6 : True := trivial
      clear g1 g2 g3 hok
      go_wp2_with (first
        | (go_at_call 25; clear t6; refine (C1.out _ hFc).mono ?_; rintro e w17 ⟨a17, c17, rfl, ho17, hb17⟩; have hV17 := RdI_owns ho17; have hR17 := RdS_below hRc hb17)
        | (go_at_call 25; refine (C2.out _ hR17).mono ?_; rintro e w18 ⟨a18, c18, rfl, ho18, hb18⟩; have hV18 := RdI_below hV17 hb18; have hU18 := RdI_owns ho18; have hR18 := RdS_below hR17 hb18)
        | (go_at_call 17; refine (C3.out _ hR18).mono ?_; rintro e w19 ⟨a19, c19, rfl, ho19, hb19⟩; have hV19 := RdI_below hV18 hb19; have hU19 := RdI_below hU18 hb19)
        | (go_at_call 19; refine (rInts_same _ _ _ c17 c18 SO w19 hV19 hU19 rfl (by unfold maxLen; omega)).mono ?_; rintro e w20 ⟨rfl, hb20⟩))
      go_ret
      exact ⟨by first | (rw [g4]; rfl) | (congr 2) | rfl, belowThen (belowThen (belowThen (belowThen hBc hb17) hb18) hb19) hb20⟩
end Go.Proofs.Ytjcbffkdemadnaa
namespace Go.Proofs.Ytjcbffkdemadnaa.fnSlots
open Go.ChangeShapes Go.WideShapes Go.ChangeAt Go.RowKit Go.Joins
open Go.ChangeMaps (open_string shut_string)
set_option linter.unusedVariables false
theorem own : ownKnob Try.prog.godebug = none := by kernel_rfl
theorem laidOut : laidOutB Try.prog = true := by kernel_rfl
set_option maxRecDepth 100000 in
theorem lifted (os : Os) (started : os.Started) (H : Type) (enc : TypeId × Value → H) :
    ReturnsInHanded {} Try.checked os 4 .any (Rows.fnSlotsSpec.pre6 enc Try.prog Try.f4 Rows.fnSlotsRow.domain false) (Rows.fnSlotsSpec.post enc Try.prog Try.f4 false true false false) := by
  refine returnsInHanded_of_change (C := Try.checked) own started (by kernel_rfl) Try.func4
    (ChangeSpec.witness6 (enc := enc) (C := Try.checked) false ⟨#[], #[.slice none 0 0], []⟩ 8 (by kernel_rfl) (by kernel_rfl) (by kernel_rfl) (by kernel_rfl)) ?_
  intro W base args ds gs before hval0 hW hcnd _
  have hval : ∀ (j : Nat) t v, Try.f4.params[j]? = some t → args[j]? = some v → Value.okWide Try.prog W .any base t v := hval0
  have hW' := hW
  obtain ⟨p, q, hA0, hV, rfl, hfz, hnd⟩ := hW
  have hA : DataW.TrodAll enc Try.prog W 0 (fun _ => true) true Try.f4.params.toList args.toList ds p := hA0
  rw [Try.params4] at hA hval
  obtain ⟨v0, vs0, d0, ds0, p0, q0, hargs, rfl, rfl, h0, r0⟩ := trodAll_cons hA
  obtain ⟨rfl, rfl, rfl⟩ := trodAll_nil r0
  obtain rfl : args = #[v0] := by cases args; simp_all
  obtain ⟨rfl, rfl⟩ := trodVars_none hV
  have k0 := h0
  have lt0 : ∀ x ∈ p0, x.block < W.heap.size := by obtain ⟨m, hm⟩ := k0; exact DataW.trod_lt m _ _ _ hm
  obtain ⟨a0, len0, cap0, rfl⟩ := okWide_slice Try.underlying31 (hval 0 31 v0 rfl rfl)
  obtain ⟨z0, w0⟩ : ∃ zs, RowIn .u8 W a0 len0 cap0 zs := by
    obtain ⟨fuel, hf⟩ := h0
    rcases open_ints Try.underlying31 Try.underlying5 (by kernel_rfl) hf with ⟨hcs, _⟩ | ⟨x, l, c, zs, hcs, _, hl, hm, hz, _, hcell, hwz⟩
    · simp [Value.cells] at hcs
      obtain ⟨rfl, rfl, rfl⟩ := hcs
      exact ⟨[], .inl ⟨rfl, rfl, rfl, rfl⟩⟩
    · simp [Value.cells] at hcs
      obtain ⟨rfl, rfl, rfl⟩ := hcs
      exact ⟨zs, .inr ⟨_, rfl, hl, hm, by simpa using hz, hcell, hwz⟩⟩
  clear hA0 hval0
  refine (fnSlots_walk a0 len0 cap0 z0 W w0).mono fun e W' ⟨he, bel⟩ => ?_
  subst he
  exact ⟨_, rfl, _, _, _, [], _, [], hW', trodAll_mk1 (shut_bool Try.underlying4 _), (trodAll_cons_mk (Below.trod laidOut (by kernel_rfl) (of_decide_eq_true (by kernel_rfl)) k0 bel lt0) trodAll_mk0), rfl, bel.frame _, fun h => by cases h⟩
theorem over : Rows.fnSlotsRow.holds Try.pinned (OpenSpec.ofChange Rows.fnSlotsSpec) :=
  OpenClaim.holds_of_wide 4 Try.f4 rfl rfl rfl rfl rfl rfl rfl ⟨rfl, rfl, rfl, rfl, rfl⟩ rfl rfl rfl rfl rfl (by kernel_rfl) Try.func4 (by kernel_rfl)
    (of_decide_eq_true (by kernel_rfl)) (by unfold Func.isWrapper; first | (rw [if_pos (by decide +kernel)]; kernel_rfl) | (rw [if_neg (by decide +kernel)]; exact ⟨rfl, rfl⟩))
    (fun os started H enc _ => lifted os started H enc)
theorem proved : Rows.FnSlotsSaid := over
end Go.Proofs.Ytjcbffkdemadnaa.fnSlots
