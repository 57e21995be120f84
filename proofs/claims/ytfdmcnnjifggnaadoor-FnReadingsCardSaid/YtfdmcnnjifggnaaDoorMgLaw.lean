/- Joined texts: LawReadings. -/
import Derived.Test.YtfdmcnnjifggnaaDoorMg04
import Derived.Test.YtfdmcnnjifggnaaDoorMg08
import Derived.Test.YtfdmcnnjifggnaaDoorMg10
import Derived.Test.YtfdmcnnjifggnaaDoorMg12
import Derived.Test.YtfdmcnnjifggnaaDoorMg15
import Derived.Test.YtfdmcnnjifggnaaDoorMg17
import Derived.Test.YtfdmcnnjifggnaaDoorMg18
import Derived.Test.YtfdmcnnjifggnaaDoorMg19
import Derived.Test.YtfdmcnnjifggnaaDoorMg11
import Derived.Test.YtfdmcnnjifggnaaDoorCards
import Derived.Test.YtfdmcnnjifggnaaDoorTie
import Derived.Lay
import Derived.LaidOnce
import Derived.SevenTiedAt
import Derived.LaidMore
import Derived.Lib.Hide
import Derived.Laws.Cover1
import Derived.Deep.Cut
import Derived.Deep.CutRange
import Derived.Deep.RegionHeld3
import Derived.Deep.QuietTactic
import Derived.BigQuiet
namespace Go.Proofs.YtfdmcnnjifggnaaDoor
open Go.RowKit

theorem raS_big {L : List Int} {k : Int} (h : raB L k = true) : (raS L k).size ≤ maxLen := by
  have h1 := (wordB_all (reading_row h).1).2
  unfold maxLen; omega
theorem noText {s : ByteArray} (h : ¬ 0 < s.size) : s.toList.isEmpty = true := by
  have h0 : s.data.size = 0 := by
    have : s.data.size = s.size := rfl
    omega
  rw [ByteArray.toList_eq, List.isEmpty_iff]
  exact List.length_eq_zero_iff.1 (by rw [Array.length_toList]; exact h0)
theorem full_of {s : ByteArray} (h : 0 < s.size) : s.toList.isEmpty = false := by
  rw [ByteArray.toList_eq]
  cases h2 : s.data.toList with
  | nil =>
    have h3 := congrArg List.length h2
    rw [Array.length_toList, List.length_nil] at h3
    have : s.data.size = s.size := rfl
    omega
  | cons a l => rfl
set_option maxRecDepth 100000 in
set_option maxHeartbeats 8000000 in
theorem fnReadings_walk (ao : Option Addr) (n cap : Nat) (z : List Int) (w : World) (hw : RowIn .u8 w ao n cap z) :
    Calls Tryd.prog 3 #[.slice ao n cap] w fun e w' => e = .returned (.bool true) ∧ Below w.heap.size w w' := by
  have HY := Lib.hid (RdY_row hw)
  clear hw z
  have HLS := Lib.hid LeastFarS_any
  have HLI := Lib.hid LeastFarI_any
  have HLen : Hid ((lfR.map nm).length ≤ 1000) := Lib.hid (by rw [List.length_map]; exact Nat.le_trans lfR_len (by decide))
  have HEq := Lib.hid (fun ao bo ca cb W h1 h2 => rTexts_same ao bo (lfR.map nm).length ca cb (lfR.map nm) W h1 h2 rfl (by have := HLen.out; unfold maxLen; omega))
  unfold RetLF at HLS HLI
  have HLt : Hid (∀ (W : World) (B : Nat) (ao : Option Addr) (n cap : Nat) (S : List ByteArray), ownsV W B 9 (.slice ao n cap) (strV S) → RdV W ao (strV S)) := Lib.hid (fun W B ao n cap S h => by
    obtain ⟨ao', cap', he, h2⟩ := ownsV_shape h
    simp only [Value.slice.injEq] at he
    obtain ⟨rfl, -, -⟩ := he
    exact h2)
  generalize lfR.map nm = T at *
  generalize T.length = tn at *
  by_cases hbig : n ≤ 65536
  rotate_left
  · have hA1 := @cellAlloc; have hA2 := @frozenAlloc; have hA3 := @setCellAlloc; go_enter Tryd.func3, Tryd.ntmps3
    have hd : decide ((65536 : Int) < (n : Int)) = true := decide_eq_true (by omega)
    go_wp2_with (go_at_call 4; refine (rBig_any _ _ _ _).mono ?_; rw [hd]; rintro e w' ⟨rfl, rfl⟩)
    go_ret
    exact ⟨rfl, Below.refl _ _⟩
  have hd : decide ((65536 : Int) < (n : Int)) = false := decide_eq_false (by omega)
  have hA1 := @cellAlloc; have hA2 := @frozenAlloc; have hA3 := @setCellAlloc; go_enter Tryd.func3, Tryd.ntmps3
  go_upto_region 13 with (first
    | (go_at_call 4; refine (rBig_any _ _ _ _).mono ?_; rw [hd]; rintro e w' ⟨rfl, rfl⟩)
    | (go_at_call 5; refine (DrawCountReadings_any ao n cap w HY.out).mono ?_; rintro e w1 ⟨⟨ar, cr, L, rfl, hL, ho1⟩, hB1⟩; have hr1 := RdI_owns ho1; have HR := Lib.hid (And.intro (big30 hL) (capOf ho1)); clear hL ho1)
    | (go_at_call 6; refine (CountReadingsI_any ar _ cr L w1 hr1 rfl HR.out.1 HR.out.2).mono ?_; rintro e w2 ⟨rfl, hb2⟩; have hB2 := belowThen hB1 hb2; have hr2 := RdI_below hr1 hb2; clear hB1 hb2 hr1)
    | (go_at_call 7; refine (CountReadingsS_any ar _ cr L w2 hr2 rfl HR.out.1 HR.out.2).mono ?_; rintro e w3 ⟨rfl, hb3⟩; have hB3 := belowThen hB2 hb3; have hr3 := RdI_below hr2 hb3; clear hB2 hb3 hr2)
    | (go_at_call 8; refine (IsRow_any ar _ cr L w3 hr3 rfl HR.out.1).mono ?_; rintro e w4 ⟨rfl, hb4⟩; have hB4 := belowThen hB3 hb4; have hr4 := RdI_below hr3 hb4; clear hB3 hb4 hr3)
    | (go_at_call 9; refine (DrawReadingAt_any ao n cap w4 (RdY_below HY.out hB4)).mono ?_; rintro e w5 ⟨⟨ax, cx, X, k, rfl, hX, ho5, hk1, hk2⟩, hb5⟩; have hB5 := belowThen hB4 hb5; have hr5 := RdI_below hr4 hb5; have hx5 := RdI_owns ho5; have HX := Lib.hid (And.intro (big30 hX) (capOf ho5)); have HK := Lib.hid (And.intro hk1 hk2); clear hX ho5 hB4 hb5 hr4 hk1 hk2)
    | (go_at_call 10; refine (ReadingAtI_any ax _ cx X k w5 hx5 rfl HX.out.1 HX.out.2).mono ?_; rintro e w6 ⟨rfl, hb6⟩; have hB6 := belowThen hB5 hb6; have hr6 := RdI_below hr5 hb6; have hx6 := RdI_below hx5 hb6; clear hB5 hb6 hr5 hx5)
    | (go_at_call 11; refine (ReadingAtS_any ax _ cx X k w6 hx6 rfl HX.out.1 HX.out.2).mono ?_; rintro e w7 ⟨rfl, hb7⟩; have hB7 := belowThen hB6 hb7; have hr7 := RdI_below hr6 hb7; have hx7 := RdI_below hx6 hb7; clear hB6 hb7 hr6 hx6))
  have HY7 := Lib.hid (RdY_below HY.out hB7)
  have HB7 := Lib.hid hB7
  have HR7 := Lib.hid hr7
  have HX7 := Lib.hid hx7
  clear hr7 hx7 hB7 HY
  go_upto_region 18 with (first
    | (go_at_call 12; refine (DrawScrollRows_any ao n cap w7 HY7.out).mono ?_; rintro e w8 ⟨⟨s, kc, hs, hk0, hk7, rfl⟩, hE8⟩; have HKc := Lib.hid (And.intro hk0 hk7); clear hk0 hk7)
    | (go_at_call 13; refine (ScrollRowsI_any s kc (big30 hs) w8).mono ?_; rintro e w9 ⟨a9, c9, gs, rfl, hS9, hb9⟩; have hE9 := belowThen hE8 hb9; clear hE8 hb9)
    | (go_at_call 14; refine (ScrollRowsS_any s kc (big30 hs) w9).mono ?_; rintro e w10 ⟨a10, c10, hs2, rfl, hT10, hb10⟩; have hE10 := belowThen hE9 hb10; have hS10 := scr_below hS9 hb10 (Nat.le_refl _); clear hE9 hb10 hS9))
  have HSc := Lib.hid (fun h h0 => scr_ends (s := s) (k := kc) h h0)
  have hM17 := scrN_le s kc
  have HSs := Lib.hid (fun W => ScrollChangesS_all s kc (big30 hs) W)
  have HSi := Lib.hid (fun W => ScrollChangesI_all s kc (big30 hs) W)
  have hKc : kc.toNat ≤ 7 := by have := HKc.out; omega
  generalize scrN s kc = M at *
  generalize scrB s kc = qS at *
  generalize schZ s kc = zS at *
  go_wp2_with fail
  go_loopw [20] (fun i wr => ∃ j : Nat, j ≤ M ∧ i = .int .i64 j ∧ Below w10.heap.size w10 wr) (fun i _ => M - (intOf i).toNat)
  case atStart => exact ⟨0, by omega, rfl, Below.refl _ _⟩
  case round =>
    obtain ⟨j, hj, rfl, hbw⟩ := hrel
    by_cases hlt : j < M
    · obtain ⟨ao', cap', he, h0 | ⟨g, rfl, hBg, hg, hcells⟩⟩ := scr_read (scr_below hS10 hbw (Nat.le_refl _))
      · omega
      simp only [Value.slice.injEq] at he
      obtain ⟨rfl, -, -⟩ := he
      obtain ⟨bo', cap'', he, h0 | ⟨g2, rfl, hBg2, hg2, hcells2⟩⟩ := scr_read (scr_below hT10 hbw (Nat.le_refl _))
      · omega
      simp only [Value.slice.injEq] at he
      obtain ⟨rfl, -, -⟩ := he
      obtain ⟨hx, hrd, hl⟩ := hcells j hlt
      obtain ⟨hy, hrd2, -⟩ := hcells2 j hlt
      have HM := Lib.hid (fun W (hW : Below wr.heap.size wr W) => rInts_same (some ⟨gs j, 0, none⟩) (some ⟨hs2 j, 0, none⟩) kc.toNat kc.toNat kc.toNat _ W (RdI_below hrd hW) (RdI_below hrd2 hW) hl (by unfold maxLen; omega))
      clear hS10 hT10 hcells hcells2 hrd hrd2 hl
      generalize gs j = u1 at hx HM
      generalize hs2 j = u2 at hy HM
      have hki : (j : Int) < (M : Int) := by omega
      go_wp2_with fail
      go_region_held3 (fun w' => w'.cell? ⟨g, j, none⟩ = some (.slice (some ⟨u1, 0, none⟩) kc.toNat kc.toNat) ∧ w'.cell? ⟨g2, j, none⟩ = some (.slice (some ⟨u2, 0, none⟩) kc.toNat kc.toNat) ∧ Below wr.heap.size wr w') (first | assumption | exact ⟨hx, hy, (Below.refl _ _).drew⟩ | exact keepSS hg hg2 ‹_› ‹_›) (first | (go_at_call 15; refine (HM.out _ (by obtain ⟨_, _, hh⟩ := ‹_ ∧ _ ∧ Below _ _ _›; exact hh)).mono ?_; rintro e w2 ⟨rfl, hb5⟩))
      rename_i hH
      have hbn := hH.2.2
      clear hH
      go_wp2
      go_roundw
      case rel => exact ⟨j + 1, by omega, by go_num, belowThen hbw hbn⟩
      case measure => simp [intOf]; omega
    · have hjM : j = M := by omega
      subst hjM
      have hS11 := Lib.hid (scr_below hS10 hbw (Nat.le_refl _))
      have hE11 := belowThen hE10 hbw
      clear hS10 hT10 hE10 hbw hlt
      go_upto_region 31 with (first
        | (go_at_call 16; refine (HSi.out _).mono ?_; rintro e w12 ⟨rfl, hG12⟩)
        | (go_at_call 17; refine (HSs.out w12).mono ?_; rintro e w13 ⟨rfl, hb13⟩; have hG13 := belowThen hG12 hb13; clear hb13 hG12)
        | (go_at_call 18; refine (HLI.out w13).mono ?_; rintro e w14 ⟨a14, c14, rfl, ho14, hb14⟩; have hG14 := belowThen hG13 hb14; have hv14 := HLt.out _ _ _ _ _ _ ho14; clear hG13 hb14 ho14)
        | (go_at_call 19; refine (HLS.out w14).mono ?_; rintro e w15 ⟨a15, c15, rfl, ho15, hb15⟩; have hG15 := belowThen hG14 hb15; have hv15 := HLt.out _ _ _ _ _ _ ho15; have hu15 := RdV_below hv14 hb15; clear hG14 hb15 ho15 hv14)
        | (go_at_call 20; refine (HEq.out _ _ _ _ w15 hu15 hv15).mono ?_; rintro e w16 ⟨rfl, hb16⟩; have hG16 := belowThen hG15 hb16; clear hG15 hb16 hu15 hv15))
      have hS16 := Lib.hid (scr_below hS11.out hG16 (Nat.le_refl _))
      have hE16 := belowThen hE11 hG16
      clear hG16 hE11 hS11
      go_cut [184] from 314 (fun s184 wx => s184 = .bool (qS && !s.toList.isEmpty) ∧ wx = w16)
      case first =>
        rcases qS with _ | _
        · go_wp2_with fail
          go_meet
          exact ⟨rfl, rfl⟩
        · go_wp2_with fail
          go_meet
          exact ⟨rfl, rfl⟩
      case rest =>
      obtain ⟨rfl, rfl⟩ := hcut
      go_upto_if 184 with fail
      go_cut [15, 16, 18, 20, 184] from 100 to 185 (fun _ _ _ _ _ wx => Below w7.heap.size w7 wx)
      case first =>
        by_cases hg : qS = true ∧ 0 < s.size
        rotate_left
        · have hq : (qS && !s.toList.isEmpty) = false := by
            rcases qS with _ | _
            · rfl
            · rw [noText (fun h9 => hg ⟨rfl, h9⟩)]; rfl
          rw [hq]
          go_wp2_with fail
          go_meet
          exact hE16
        · obtain ⟨rfl, h0⟩ := hg
          obtain ⟨K, rfl, hK1, hK6, hMe, hs12, l1, l2, l3, l4⟩ := HSc.out rfl h0
          obtain ⟨K', rfl⟩ : ∃ K', K = K' + 1 := ⟨K - 1, by omega⟩
          obtain ⟨S', hsz⟩ : ∃ S', s.size = S' + 1 := ⟨s.size - 1, by omega⟩
          have hM2 : j = S' + K' + 1 := by omega
          subst hM2
          rw [Int.toNat_natCast] at hS16
          obtain ⟨ao', cap', he, h9 | ⟨g, rfl, hBg, hg, hcells⟩⟩ := scr_read hS16.out
          · omega
          simp only [Value.slice.injEq] at he
          obtain ⟨rfl, -, -⟩ := he
          obtain ⟨hx0, hrd0, hl0⟩ := hcells 0 (by omega)
          obtain ⟨hx1, hrd1, hl1⟩ := hcells (S' + K') (by omega)
          rw [show s.size + (K' + 1) - 2 = S' + K' by omega] at l3 l4
          rw [show s.size - 1 = S' by omega, hsz] at l4
          rcases hrd0 with h9 | ⟨b0, o0, he0, hb0, hc0⟩
          · rw [h9] at hl0; simp at hl0
          rcases hrd1 with h9 | ⟨b1, o1, he1, hb1, hc1⟩
          · rw [h9] at hl1; simp at hl1
          simp only [Option.some.injEq, Addr.mk.injEq, and_true] at he0 he1
          obtain ⟨rfl, rfl⟩ := he0
          obtain ⟨rfl, rfl⟩ := he1
          have y0 := hc0 K' (by omega)
          have y1 := hc1 0 (by omega)
          rw [Nat.zero_add] at y0
          rw [Nat.add_sub_cancel] at l1 l2
          have ht := full_of h0
          generalize (scrR (rowW s) (K' + 1) 0).getD K' 0 = v0 at *
          generalize (scrR (rowW s) (K' + 1) (S' + K')).getD 0 0 = v1 at *
          have L1 := Lib.hid (fun W => LetterOfI_any v0 W)
          have L2 := Lib.hid (fun W => LetterOfI_any v1 W)
          rw [l1, l2] at L1
          rw [l3, l4] at L2
          clear hcells hc0 hc1 l1 l2 l3 l4 hl0 hl1 hS16
          rw [ht]
          generalize gs 0 = g0 at *
          generalize gs (S' + K') = g1 at *
          go_wp2_with (go_at_call 21; first
            | (refine (L2.out w17).mono ?_; rintro e w18 ⟨rfl, hb18⟩; have hE18 := belowThen hE17 hb18)
            | (refine (L1.out _).mono ?_; rintro e w17 ⟨rfl, hb17⟩; have hE17 := belowThen hE16 hb17; have hx3 := (hb17.cell (p := ⟨g, S' + K', none⟩) hg).trans hx1; have y3 := (hb17.cell (p := ⟨g1, 0, none⟩) hb1).trans y1))
          go_meet
          exact hE18
      case rest =>
      have hE19 := hcut
      clear hcut hE16 hS16 HSc HSi HSs HLI HLS
      have HRd := Lib.hid (fun h => reading_row (L := X) (k := k) h)
      have HNx := Lib.hid (fun h h2 => reading_next (L := X) (k := k) h h2)
      have HRb := Lib.hid (fun h => raS_big (L := X) (k := k) h)
      have hkw : IntKind.i64.wrap (k + 1) = k + 1 := IntWalk.i64_in _ (by have := HK.out; omega)
      have HA := Lib.hid (fun W (h : RdI W ax X) => ReadingAtI_any ax X.length cx X (k + 1) W h rfl HX.out.1 HX.out.2)
      generalize raS X k = T1 at *
      generalize raS X (k + 1) = T2 at *
      generalize raB X k = qA at *
      generalize raB X (k + 1) = qB at *
      go_upto_if 237 with fail
      go_cut [11] from 314 (fun _ wx => Below w7.heap.size w7 wx)
      case first =>
        rcases qA with _ | _
        · go_wp2_with fail
          go_meet
          exact hE19
        · obtain ⟨e1, e2, e3⟩ := HRd.out rfl
          have HO := Lib.hid (fun W => RowOfWordI_any T1 (HRb.out rfl) W)
          rw [e1] at HO
          unfold RetIntsB at HO
          generalize rowO T1 = RW at *
          rw [e2] at HO
          have hXb := HX.out.1
          unfold maxLen at hXb
          have HE2 := Lib.hid e2
          have HE3 := Lib.hid e3
          clear e1 e2 e3
          go_wp2_with (go_at_call 22; refine (HO.out _).mono ?_; rintro e w20 ⟨a20, c20, rfl, ho20, hb20⟩; have hE20 := belowThen hE19 hb20; have hr20 := RdI_owns ho20; clear hb20 ho20)
          go_loopw [35] (fun i wr => ∃ j : Nat, j ≤ X.length ∧ i = .int .i64 j ∧ Below w20.heap.size w20 wr) (fun i _ => X.length - (intOf i).toNat)
          case atStart => exact ⟨0, by omega, rfl, Below.refl _ _⟩
          case round =>
            obtain ⟨m, hm, rfl, hbw⟩ := hrel
            have hE21 := belowThen hE20 hbw
            have hx21 := RdI_below HX7.out hE21
            by_cases hlt : m < X.length
            · rcases RdI_below hr20 hbw with h9 | ⟨b1, o1, rfl, hb1, hc1⟩
              · have := HE2.out; rw [h9] at this; simp at this; omega
              rcases hx21 with h9 | ⟨b2, o2, rfl, hb2, hc2⟩
              · rw [h9] at hlt; simp at hlt
              have hx := hc1 m (by rw [HE2.out]; exact hlt)
              have hy := hc2 m hlt
              have hand := HE3.out m hlt
              have hli : (m : Int) < (X.length : Int) := by omega
              generalize RW.getD m 0 = v1 at *
              generalize X.getD m 0 = v2 at *
              clear hc1 hc2 hr20
              go_wp2_with fail
              go_quiet (fail)
              go_wp2
              go_roundw
              case rel => exact ⟨m + 1, by omega, by go_num, belowThen hbw (Go.Joins.below_draws _ _ _)⟩
              case measure => simp [intOf]; omega
            · have hmX : m = X.length := by omega
              subst hmX
              have HA' := Lib.hid (HA.out _ hx21)
              rcases qB with _ | _
              · go_wp2_with (go_at_call 10; refine HA'.out.mono ?_; rintro e w22 ⟨rfl, hb22⟩)
                go_meet
                exact belowThen hE21 hb22
              · have hnx := HNx.out (by first | rfl | trivial) (by first | rfl | trivial)
                rw [Bool.or_eq_false_iff] at hnx
                obtain ⟨hn1, hn2⟩ := hnx
                go_wp2_with (go_at_call 10; refine HA'.out.mono ?_; rintro e w22 ⟨rfl, hb22⟩)
                go_meet
                exact belowThen hE21 hb22
      case rest =>
      have hE23 := hcut
      clear hcut hE19
      have hr23 := RdI_below HR7.out hE23
      have hBf := belowThen HB7.out hE23
      by_cases hq : rowB L = true
      rotate_left
      · rw [Bool.not_eq_true] at hq
        rw [hq]
        go_wp2_with fail
        go_ret
        exact ⟨rfl, hBf⟩
      rw [hq]
      have HWm := Lib.hid (fun h => word_many (L := L) h)
      have HWo := Lib.hid (fun h h1 => word_only (L := L) h h1)
      have HW := Lib.hid (fun W h => WordOfRowI_any ar L.length cr L W h rfl HR.out.1 HR.out.2)
      have HA0 := Lib.hid (fun W h => ReadingAtI_any ar L.length cr L 0 W h rfl HR.out.1 HR.out.2)
      generalize worS L = TW at *
      generalize worB L = qW at *
      generalize crN L = cN at *
      rcases qW with _ | _
      · go_wp2_with (go_at_call 23; refine (HW.out _ hr23).mono ?_; rintro e w24 ⟨rfl, hb24⟩; have hB24 := belowThen hBf hb24)
        all_goals go_ret
        all_goals exact ⟨rfl, hB24⟩
      · have h0 := HWm.out rfl
        by_cases h1 : cN = 1
        · subst h1
          obtain ⟨e1, e2⟩ := HWo.out rfl rfl
          rw [e1, e2] at HA0
          go_wp2_with (first
            | (go_at_call 10; refine (HA0.out w24 hr24).mono ?_; rintro e w25 ⟨rfl, hb25⟩; have hB25 := belowThen hB24 hb25)
            | (go_at_call 23; refine (HW.out _ hr23).mono ?_; rintro e w24 ⟨rfl, hb24⟩; have hB24 := belowThen hBf hb24; have hr24 := RdI_below hr23 hb24))
          go_ret
          exact ⟨rfl, hB25⟩
        · have h2 : (cN != 1) = true := by rw [bne_iff_ne]; exact h1
          go_wp2_with (go_at_call 23; refine (HW.out _ hr23).mono ?_; rintro e w24 ⟨rfl, hb24⟩; have hB24 := belowThen hBf hb24)
          all_goals go_ret
          all_goals exact ⟨rfl, hB24⟩
end Go.Proofs.YtfdmcnnjifggnaaDoor
namespace Go.Proofs.YtfdmcnnjifggnaaDoor.fnReadings
open Go.ChangeShapes Go.WideShapes Go.ChangeAt Go.RowKit Go.Joins
open Go.ChangeMaps (open_string shut_string)
set_option linter.unusedVariables false
theorem own : ownKnob Tryd.prog.godebug = none := by kernel_rfl
theorem laidOut : laidOutB Tryd.prog = true := by kernel_rfl
set_option maxRecDepth 100000 in
theorem lifted (os : Os) (started : os.Started) (H : Type) (enc : TypeId × Value → H) :
    ReturnsInHanded {} Tryd.checked os 3 .any (fun w args => (Rows.fnReadingsSpec.pre enc Tryd.prog Tryd.f3 [] false w args ∧ laidMetH Tryd.prog Rows.fnReadingsRow.laid w) ∧ sizedMet enc Tryd.prog Tryd.f3 (OpenSpec.ofChange Rows.fnReadingsSpec) false w args)
      (Rows.fnReadingsSpec.post enc Tryd.prog Tryd.f3 false true false false) := by
  refine returnsInHanded_of_change_and (C := Tryd.checked) (X := fun w _ => laidMetH Tryd.prog Rows.fnReadingsRow.laid w) (fun _ _ _ hh h => h.of_heap hh) own started (by kernel_rfl) Tryd.func3
    (ChangeSpec.witness_shaped (enc := enc) (C := Tryd.checked) (os := os) (X := fun w _ => laidMetH Tryd.prog Rows.fnReadingsRow.laid w) false (World.laidAll Tryd.prog os Rows.fnReadingsRow.laid) #[.slice none 0 0] 8 (World.laidAll_os _ _ _)
      (World.shaped_of_ZipB (by kernel_rfl) (by kernel_rfl)) (by kernel_rfl) (by kernel_rfl) (by kernel_rfl)
      (by rw [MakeChecks.laidMetH_plain _ _ _ (by kernel_rfl)]; exact laidMet_laidAll _ (by kernel_rfl) (by kernel_rfl))) ?_
  intro W base args ds gs before hval0 hW _ _ hL _
  have hval : ∀ (j : Nat) t v, Tryd.f3.params[j]? = some t → args[j]? = some v → Value.okWide Tryd.prog W .any base t v := hval0
  have hW' := hW
  obtain ⟨p, q, hA0, hV, rfl, hfz, hnd⟩ := hW
  have hA : DataW.TrodAll enc Tryd.prog W 0 (fun _ => true) true Tryd.f3.params.toList args.toList ds p := hA0
  rw [Tryd.params3] at hA hval
  obtain ⟨v0, vs0, d0, ds0, p0, q0, hargs, rfl, rfl, h0, r0⟩ := trodAll_cons hA
  obtain ⟨rfl, rfl, rfl⟩ := trodAll_nil r0
  obtain rfl : args = #[v0] := by cases args; simp_all
  obtain ⟨rfl, rfl⟩ := trodVars_none hV
  have k0 := h0
  have lt0 : ∀ x ∈ p0, x.block < W.heap.size := by obtain ⟨m, hm⟩ := k0; exact DataW.trod_lt m _ _ _ hm
  obtain ⟨a0, len0, cap0, rfl⟩ := okWide_slice Tryd.underlying22 (hval 0 22 v0 rfl rfl)
  obtain ⟨z0, w0⟩ : ∃ zs, RowIn .u8 W a0 len0 cap0 zs := by
    obtain ⟨fuel, hf⟩ := h0
    rcases open_ints Tryd.underlying22 Tryd.underlying5 (by kernel_rfl) hf with ⟨hcs, _⟩ | ⟨x, l, c, zs, hcs, _, hl, hm, hz, _, hcell, hwz⟩
    · simp [Value.cells] at hcs
      obtain ⟨rfl, rfl, rfl⟩ := hcs
      exact ⟨[], .inl ⟨rfl, rfl, rfl, rfl⟩⟩
    · simp [Value.cells] at hcs
      obtain ⟨rfl, rfl, rfl⟩ := hcs
      exact ⟨zs, .inr ⟨_, rfl, hl, hm, by simpa using hz, hcell, hwz⟩⟩
  clear hA0 hval0
  refine (fnReadings_walk a0 len0 cap0 z0 W w0).mono fun e W' ⟨he, bel⟩ => ?_
  subst he
  exact ⟨_, rfl, _, _, _, [], _, [], hW', trodAll_mk1 (shut_bool Tryd.underlying4 _), (trodAll_cons_mk (Below.trod laidOut (by kernel_rfl) (of_decide_eq_true (by kernel_rfl)) k0 bel lt0) trodAll_mk0), rfl, bel.frame _, fun h => by cases h⟩
theorem over : Rows.fnReadingsRow.holds Tryd.pinned (OpenSpec.ofChange Rows.fnReadingsSpec) :=
  OpenClaim.holds_of_wide 3 Tryd.f3 rfl rfl rfl rfl rfl rfl rfl ⟨rfl, rfl, rfl, rfl, rfl⟩ rfl rfl rfl rfl rfl (by kernel_rfl) Tryd.func3 (by kernel_rfl)
    (of_decide_eq_true (by kernel_rfl)) (by unfold Func.isWrapper; first | (rw [if_pos (by decide +kernel)]; kernel_rfl) | (rw [if_neg (by decide +kernel)]; exact ⟨rfl, rfl⟩))
    (fun os started H enc _ => lifted os started H enc)
theorem proved : Rows.FnReadingsCardSaid :=
  Claim7.holds_tied_plain_at .later [] [.data, .pinned] true (true, "db1d4848f677ebeecb7b8ff0c3baa6d5db0c72ed9d73a62c650c365d494391e9") false
    over (fun _ h => by cases h) (by kernel_rfl) (fun _ h => by cases h) fnReadings_row_tie rfl ⟨rfl, rfl⟩ (by kernel_rfl) rfl
    (fun f fn hf hfn => by
      obtain rfl : f = 3 := Option.some.inj ((show Tryd.prog.funcNamed "loop.example/g01265/laws.FnReadings" = some 3 by kernel_rfl).symm.trans hf) |>.symm
      obtain rfl : fn = Tryd.f3 := (Option.some.inj (Tryd.func3.symm.trans hfn)).symm
      exact ⟨by kernel_rfl, fun j t ht => by
        rw [Tryd.params3] at ht
        have hm : t ∈ [22] := by simpa using Array.mem_of_getElem? ht
        have hall : ([22].all fun u => !(Tryd.prog).wantsStandIn u) = true := by kernel_rfl
        exact (show (Tryd.prog).wantsStandIn t = false by simpa using List.all_eq_true.1 hall t hm)⟩)
    (by kernel_rfl)
end Go.Proofs.YtfdmcnnjifggnaaDoor.fnReadings
