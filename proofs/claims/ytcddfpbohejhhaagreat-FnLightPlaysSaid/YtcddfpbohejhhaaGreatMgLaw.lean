/- Joined texts: LawLightPlays. -/
import Derived.Test.YtcddfpbohejhhaaGreatMg22
import Derived.Test.YtcddfpbohejhhaaGreatMg23
import Derived.Test.YtcddfpbohejhhaaGreatMg24
import Derived.Test.YtcddfpbohejhhaaGreatMg13
import Derived.Lib.Hide
import Derived.Deep.Cut
import Derived.Deep.CutRange
namespace Go.Proofs.YtcddfpbohejhhaaGreat
open Go.RowKit

set_option maxRecDepth 100000 in
set_option maxHeartbeats 8000000 in
theorem fnLightPlays_walk (ao : Option Addr) (n cap : Nat) (z : List Int) (w : World) (hw : RowIn .u8 w ao n cap z) :
    Calls Tryz.prog 3 #[.slice ao n cap] w fun e w' => e = .returned (.bool true) ∧ Below w.heap.size w w' := by
  have HY := Lib.hid (RdY_row hw)
  clear hw z
  by_cases hbig : n ≤ 65536
  rotate_left
  · have hA1 := @cellAlloc; have hA2 := @frozenAlloc; have hA3 := @setCellAlloc; go_enter Tryz.func3, Tryz.ntmps3
    have hd : decide ((65536 : Int) < (n : Int)) = true := decide_eq_true (by omega)
    go_wp2_with (go_at_call 4; refine (rBig_any _ _ _ _).mono ?_; rw [hd]; rintro e w' ⟨rfl, rfl⟩)
    go_ret
    exact ⟨rfl, Below.refl _ _⟩
  have hd : decide ((65536 : Int) < (n : Int)) = false := decide_eq_false (by omega)
  have hA1 := @cellAlloc; have hA2 := @frozenAlloc; have hA3 := @setCellAlloc; go_enter Tryz.func3, Tryz.ntmps3
  go_upto_region 4 with (first
    | (go_at_call 4; refine (rBig_any _ _ _ _).mono ?_; rw [hd]; rintro e w' ⟨rfl, rfl⟩)
    | (go_at_call 5; refine (DrawLastCells_any ao n cap w HY.out).mono ?_; rintro e w1 ⟨⟨c, ag, cg, G, rfl, hG11, hog⟩, hb1⟩))
  have hr1 := RdI_owns hog
  have hcg := capOf hog
  have hmG : G.length ≤ maxLen := by unfold maxLen; omega
  have HYC1 := Lib.hid (RdY_below HY.out hb1)
  have hpt := play_facts (c := c) (L := G) (n := G.length)
  have hpn := play_none (c := c) (L := G) (n := G.length)
  have hro : raceOk c G G.length = true → playB c G G.length = true := by intro h; unfold raceOk at h; rw [Bool.and_eq_true] at h; exact h.1
  have HI := Lib.hid (fun W h => LastCellsI_any c ag G.length cg G W h rfl hmG hcg)
  have HS := Lib.hid (fun W h => LastCellsS_any c ag G.length cg G W h rfl hmG hcg)
  have HLI := Lib.hid (fun W h => LongestPlayI_any c ag G.length cg G W h rfl hmG hcg)
  have HLS := Lib.hid (fun W h => LongestPlayS_any c ag G.length cg G W h rfl hmG hcg)
  have HSI := Lib.hid (fun W h => ShortestPlayI_any c ag G.length cg G W h rfl hmG hcg)
  have HSS := Lib.hid (fun W h => ShortestPlayS_any c ag G.length cg G W h rfl hmG hcg)
  have HCI := Lib.hid (fun W h => CountPlaysI_any c ag G.length cg G W h rfl hmG hcg)
  have HCS := Lib.hid (fun W h => CountPlaysS_any c ag G.length cg G W h rfl hmG hcg)
  have HMI := Lib.hid (fun W h => MissWinsI_any c ag G.length cg G W h rfl hmG hcg)
  have HMS := Lib.hid (fun W h => MissWinsS_any c ag G.length cg G W h rfl hmG hcg)
  have HRI := Lib.hid (fun W h => RaceWinsI_any c ag G.length cg G W h rfl hmG hcg)
  have HRS := Lib.hid (fun W h => RaceWinsS_any c ag G.length cg G W h rfl hmG hcg)
  have HHas := Lib.hid (fun x W h => rHas_any ag G.length cg G x W h rfl hmG)
  clear hog hcg hmG hG11
  generalize lastL c G G.length = l at *
  generalize valOfI longF c G G.length = vg at *
  generalize valOfI shortF c G G.length = vs at *
  generalize valOfI playsF c G G.length = vp at *
  generalize valOfB missF c G G.length = vm at *
  generalize raceR c G G.length = rr at *
  generalize raceOk c G G.length = ro at *
  generalize playB c G G.length = p at *
  have hfacts : decide (vg < vs) = false ∧ decide ((7 : Int) < vg) = false ∧ decide (vp < (l.length : Int)) = false ∧ l.length ≤ 128 := by
    rcases p with _ | _
    · obtain ⟨h1, h2, h3, h4, _⟩ := hpn rfl
      rw [h1, h2, h3, h4]
      simp
    · obtain ⟨C, _, _, h1, _, h2, h3, h4, h5, h6, _⟩ := hpt rfl
      rw [h1, ints_length]
      refine ⟨decide_eq_false (by omega), decide_eq_false (by omega), decide_eq_false (by omega), h2⟩
  obtain ⟨hd1, hd2, hd3, hl128⟩ := hfacts
  have HT := Lib.hid hpt
  have hlm : l.length ≤ maxLen := by unfold maxLen; omega
  clear hpt hpn HYC1
  go_upto_region 14 with (first
    | (go_at_call 6; refine (HI.out _ hr1).mono ?_; rintro e w2 ⟨bl, cl, rfl, ho2, hb2⟩; have hB2 := belowThen hb1 hb2; have hr2 := RdI_below hr1 hb2; have hl2 := RdI_owns ho2; clear ho2)
    | (go_at_call 7; refine (HS.out _ hr2).mono ?_; rintro e w3 ⟨bl3, cl3, rfl, ho3, hb3⟩; have hB3 := belowThen hB2 hb3; have hr3 := RdI_below hr2 hb3; have hl3 := RdI_below hl2 hb3; have hk3 := RdI_owns ho3; clear ho3)
    | (go_at_call 8; refine (rInts_same bl bl3 _ cl cl3 l _ hl3 hk3 rfl hlm).mono ?_; rintro e w4 ⟨rfl, hb4⟩; have hB4 := belowThen hB3 hb4; have hr4 := RdI_below hr3 hb4; have hl4 := RdI_below hl3 hb4)
    | (go_at_call 9; refine (HLI.out _ hr4).mono ?_; rintro e w5 ⟨rfl, hb5⟩; have hB5 := belowThen hB4 hb5; have hr5 := RdI_below hr4 hb5; have hl5 := RdI_below hl4 hb5)
    | (go_at_call 10; refine (HLS.out _ hr5).mono ?_; rintro e w6 ⟨rfl, hb6⟩; have hB6 := belowThen hB5 hb6; have hr6 := RdI_below hr5 hb6; have hl6 := RdI_below hl5 hb6)
    | (go_at_call 11; refine (HSI.out _ hr6).mono ?_; rintro e w7 ⟨rfl, hb7⟩; have hB7 := belowThen hB6 hb7; have hr7 := RdI_below hr6 hb7; have hl7 := RdI_below hl6 hb7)
    | (go_at_call 12; refine (HSS.out _ hr7).mono ?_; rintro e w8 ⟨rfl, hb8⟩; have hB8 := belowThen hB7 hb8; have hr8 := RdI_below hr7 hb8; have hl8 := RdI_below hl7 hb8))
  clear hr1 hr2 hr3 hr4 hr5 hr6 hr7 hl2 hl3 hl4 hl5 hl6 hl7 hk3 hB2 hB3 hB4 hB5 hB6 hB7 hb1 hb2 hb3 hb4 hb5 hb6 hb7 hb8
  go_cut [137] from 369 (fun s wx => s = .bool false ∧ RdI wx ag G ∧ RdI wx bl l ∧ Below w.heap.size w wx)
  case first =>
    rcases p with _ | _
    all_goals
      go_wp2_with fail
      go_meet
      exact ⟨rfl, hr8, hl8, hB8⟩
  case rest =>
  obtain ⟨rfl, hr9, hl9, hB9⟩ := hcut
  clear hr8 hl8 hB8
  go_upto_region 18 with (first
    | (go_at_call 13; refine (HCI.out _ hr9).mono ?_; rintro e w10 ⟨rfl, hb10⟩; have hB10 := belowThen hB9 hb10; have hr10 := RdI_below hr9 hb10; have hl10 := RdI_below hl9 hb10)
    | (go_at_call 14; refine (HCS.out _ hr10).mono ?_; rintro e w11 ⟨rfl, hb11⟩; have hB11 := belowThen hB10 hb11; have hr11 := RdI_below hr10 hb11; have hl11 := RdI_below hl10 hb11))
  clear hr9 hl9 hB9 hr10 hl10 hB10 hb10 hb11
  go_cut [171] from 369 (fun s wx => s = .bool false ∧ RdI wx ag G ∧ RdI wx bl l ∧ Below w.heap.size w wx)
  case first =>
    rcases p with _ | _
    all_goals
      go_wp2_with fail
      go_meet
      exact ⟨rfl, hr11, hl11, hB11⟩
  case rest =>
  obtain ⟨rfl, hr12, hl12, hB12⟩ := hcut
  clear hr11 hl11 hB11
  go_upto_region 26 with (first
    | (go_at_call 15; refine (HMI.out _ hr12).mono ?_; rintro e w13 ⟨rfl, hb13⟩; have hB13 := belowThen hB12 hb13; have hr13 := RdI_below hr12 hb13; have hl13 := RdI_below hl12 hb13)
    | (go_at_call 16; refine (HMS.out _ hr13).mono ?_; rintro e w14 ⟨rfl, hb14⟩; have hB14 := belowThen hB13 hb14; have hr14 := RdI_below hr13 hb14; have hl14 := RdI_below hl13 hb14)
    | (go_at_call 17; refine (HRI.out _ hr14).mono ?_; rintro e w15 ⟨rfl, hb15⟩; have hB15 := belowThen hB14 hb15; have hr15 := RdI_below hr14 hb15; have hl15 := RdI_below hl14 hb15)
    | (go_at_call 18; refine (HRS.out _ hr15).mono ?_; rintro e w16 ⟨rfl, hb16⟩; have hB16 := belowThen hB15 hb16; have hr16 := RdI_below hr15 hb16; have hl16 := RdI_below hl15 hb16))
  clear hr12 hl12 hB12 hr13 hl13 hB13 hr14 hl14 hB14 hr15 hl15 hB15 hb13 hb14 hb15 hb16
  go_cut [223] from 369 (fun s wx => s = .bool false ∧ RdI wx ag G ∧ RdI wx bl l ∧ Below w.heap.size w wx)
  case first =>
    rcases ro with _ | _
    · go_wp2_with fail
      go_meet
      exact ⟨rfl, hr16, hl16, hB16⟩
    · obtain rfl := hro rfl
      go_wp2_with fail
      go_meet
      exact ⟨rfl, hr16, hl16, hB16⟩
  case rest =>
  obtain ⟨rfl, hr17, hl17, hB17⟩ := hcut
  clear hr16 hl16 hB16
  have HYC14 := Lib.hid (RdY_below HY.out hB17)
  clear HY
  go_upto_region 31 with (first
    | (go_at_call 19; refine (DrawPlayGame_any ao n cap wc HYC14.out).mono ?_; rintro e w18 ⟨⟨ad, ag2, cr, cg2, R, G2, rfl, hR6, hG11, hor, hog⟩, hb18⟩; have hB18 := belowThen hB17 hb18; have hr18 := RdI_below hr17 hb18; have hl18 := RdI_below hl17 hb18; have hx18 := RdI_owns hor; have hy18 := RdI_owns hog; have hcr := capOf hor; have hcg := capOf hog; have hmR : R.length ≤ maxLen := (by unfold maxLen; omega); have hmG : G2.length ≤ maxLen := (by unfold maxLen; omega); have HR := Lib.hid (And.intro hR6 (And.intro hcr hmR)); have HG := Lib.hid (And.intro hG11 (And.intro hcg hmG)); clear hor hog hR6 hG11 hcr hcg hmR hmG)
    | (go_at_call 20; refine (PlayGameI_any ad _ cr R ag2 _ cg2 G2 w18 hx18 rfl HR.out.2.2 HR.out.2.1 hy18 rfl HG.out.2.2 HG.out.2.1).mono ?_; rintro e w19 ⟨am, cm, rfl, hom, hb19⟩; have hB19 := belowThen hB18 hb19; have hr19 := RdI_below hr18 hb19; have hl19 := RdI_below hl18 hb19; have hx19 := RdI_below hx18 hb19; have hy19 := RdI_below hy18 hb19; have hm19 := RdI_pairs hom; clear hom)
    | (go_at_call 21; refine (PlayGameS_any ad _ cr R ag2 _ cg2 G2 w19 hx19 rfl HR.out.2.2 HR.out.2.1 hy19 rfl HG.out.2.2 HG.out.2.1).mono ?_; rintro e w20 ⟨am2, cm2, rfl, hom, hb20⟩; have hB20 := belowThen hB19 hb20; have hr20 := RdI_below hr19 hb20; have hl20 := RdI_below hl19 hb20; have hx20 := RdI_below hx19 hb20; have hy20 := RdI_below hy19 hb20; have hm20 := RdI_below hm19 hb20; have hn20 := RdI_pairs hom; clear hom))
  clear hr17 hl17 hB17 hr18 hl18 hB18 hx18 hy18 hr19 hl19 hB19 hx19 hy19 hm19 hb18 hb19 hb20
  have hgl := gameF_len R G2 G2.length
  have hgn := gameN_le R G2 G2.length
  have hgw := game_wins (R := R) (L := G2) (m := G2.length)
  have HLW := Lib.hid (fun W h1 h2 => LightWinsI_any (some ad) _ cr R ag2 _ cg2 G2 W h1 rfl HR.out.2.2 HR.out.2.1 h2 rfl HG.out.2.2 HG.out.2.1)
  have hgood : goodRow R G2 G2.length = false → winB R G2 G2.length = false := fun h => by unfold winB; rw [h]; rfl
  generalize gameF R G2 G2.length = gf at *
  generalize gameN R G2 G2.length = gn at *
  generalize winB R G2 G2.length = gw at *
  generalize goodRow R G2 G2.length = gg at *
  go_upto_region 33 with (go_at_call 22; refine (rPairs_same am am2 gn cm cm2 gf _ hm20 hn20 hgl (by unfold maxLen; omega)).mono ?_; rintro e w21 ⟨rfl, hb21⟩; have hB21 := belowThen hB20 hb21; have hr21 := RdI_below hr20 hb21; have hl21 := RdI_below hl20 hb21; have hx21 := RdI_below hx20 hb21; have hy21 := RdI_below hy20 hb21)
  clear hr20 hl20 hx20 hy20 hB20 hm20 hn20 hb21 hgl
  go_upto_if 257 with fail
  go_cut [37, 38] from 369 (fun _ _ wx => RdI wx ag G ∧ RdI wx bl l ∧ Below w.heap.size w wx)
  case first =>
    rcases gg with _ | _
    · go_wp2_with fail
      go_meet
      exact ⟨hr21, hl21, hB21⟩
    · have hg2 := hgw rfl
      have hcast : ((gn % 2 : Nat) : Int) = (gn : Int) % 2 := by omega
      rw [hcast] at hg2
      subst hg2
      clear hcast hgw
      have hrem : Int.tmod (gn : Int) 2 = (gn : Int) % 2 := Int.tmod_eq_emod_of_nonneg (by omega)
      generalize (gn : Int) % 2 = lo at *
      go_wp2_with (go_at_call 23; refine (HLW.out _ hx21 hy21).mono ?_; rintro e w22 ⟨rfl, hb22⟩)
      go_meet
      exact ⟨RdI_below hr21 hb22, RdI_below hl21 hb22, belowThen hB21 hb22⟩
  case rest =>
  obtain ⟨hr23, hl23, hB23⟩ := hcut
  clear hr21 hl21 hx21 hy21 hB21 HLW HR HG hgw hgood hgn
  rcases p with _ | _
  · go_wp2_with fail
    go_ret
    exact ⟨rfl, hB23⟩
  clear HI HS HLI HLS HSI HSS HCI HCS HMI HMS HRI HRS hd1 hd2 hd3 hro
  obtain ⟨C, rfl, hC, hl, hpos, hl8, h0s, hsg, hg7, _, hes, heg, hmiss, hcells⟩ := HT.out rfl
  clear HT hl128 hlm
  subst hl
  have hnl := ints_length (lastP G C 128)
  have hgd := ints_getD (lastP G C 128)
  generalize lastP G C 128 = lp at *
  have HM := Lib.hid hmiss
  have HE := Lib.hid (And.intro hes heg)
  have HC := Lib.hid hcells
  have HGD := Lib.hid hgd
  have hcn := cnt_le C
  clear hmiss hes heg hcells hgd
  generalize hll : (ints lp).length = nl at *
  have hn128 : nl ≤ 128 := by omega
  have hn0 : 0 < nl := by omega
  have hne : ((nl : Int) == 0) = false := by rw [beq_eq_false_iff_ne]; omega
  have HL := Lib.hid hll
  have HNL := Lib.hid hnl
  clear hll hnl
  go_wp2_with (go_at_call 24; refine (CountBarsI_any C hC _).mono ?_; rintro e w24 ⟨rfl, hb24⟩)
  have hfew0 : ((fewU lp 0 : Nat) : Int) = 8 := by simp [fewU]
  have hmost0 : ((mostU lp 0 : Nat) : Int) = 0 := by simp [mostU]
  have HF0 := Lib.hid (And.intro hfew0 hmost0)
  clear hfew0 hmost0
  go_loopw [41, 42, 43] (fun a b i wx => ∃ k : Nat, k ≤ nl ∧ i = .int .i64 k ∧ a = .int .i64 (fewU lp k) ∧ b = .int .i64 (mostU lp k) ∧ RdI wx ag G ∧ RdI wx bl (ints lp) ∧ Below w.heap.size w wx) (fun _ _ i _ => nl - (intOf i).toNat)
  case atStart => exact ⟨0, by omega, rfl, by rw [HF0.out.1], by rw [HF0.out.2], RdI_below hr23 hb24, RdI_below hl23 hb24, belowThen hB23 hb24⟩
  case round =>
    obtain ⟨k, hk, rfl, rfl, rfl, hra, hrb, hbw⟩ := hrel
    by_cases hlt : k < nl
    · have hklp : k < lp.length := by rw [← HNL.out]; exact hlt
      have hmem : lp.getD k 0 ∈ lp := by
        rw [List.getD_eq_getElem?_getD, List.getElem?_eq_getElem hklp]; exact List.getElem_mem _
      obtain ⟨hx8, hand, d, hd10, hcon, hxd⟩ := HC.out _ hmem
      have hf := fewU_succ lp k hklp
      have hm := mostU_succ lp k hklp
      rcases hrb with h | ⟨b1, o1, rfl, hb1, hc1⟩
      · have := HL.out; rw [h] at this; simp at this; omega
      have hx := hc1 k (by rw [HL.out]; exact hlt)
      rw [HGD.out] at hx
      have HCC := Lib.hid hc1
      generalize lp.getD k 0 = x at *
      subst hxd
      have HCB := Lib.hid (fun W => CountBarsI_any (digC d) hx8 W)
      have HDO := Lib.hid (fun W => DigitOfI_any d hd10 W)
      have hc7 := cnt_le (digC d)
      obtain ⟨cb, hcb⟩ : ∃ cb, cnt (digC d) = cb := ⟨_, rfl⟩
      obtain ⟨y, hy⟩ : ∃ y, digC d = y := ⟨_, rfl⟩
      obtain ⟨f0, hf0⟩ : ∃ f0, fewU lp k = f0 := ⟨_, rfl⟩
      obtain ⟨m0, hm0⟩ : ∃ m0, mostU lp k = m0 := ⟨_, rfl⟩
      rw [hcb] at hf hm HCB hc7
      rw [hf0] at hf ⊢
      rw [hm0] at hm ⊢
      rw [hy] at hx HCB HDO hand hx8
      clear hcb hy hf0 hm0
      have HF := Lib.hid hf
      have HMM := Lib.hid hm
      have hHd := HHas.out (d : Int)
      rw [hcon] at hHd
      have HHd := Lib.hid hHd
      clear hHd
      clear hf hm hc1 hmem hcon HHas hr23 hl23 hB23
      by_cases h1 : cb < f0
      all_goals by_cases h2 : m0 < cb
      all_goals
        (first
          | (have e1 : decide ((cb : Int) < (f0 : Int)) = true := decide_eq_true (by omega))
          | (have e1 : decide ((cb : Int) < (f0 : Int)) = false := decide_eq_false (by omega)))
        (first
          | (have e2 : decide ((m0 : Int) < (cb : Int)) = true := decide_eq_true (by omega))
          | (have e2 : decide ((m0 : Int) < (cb : Int)) = false := decide_eq_false (by omega)))
        have HF1 := HF.out
        have HM1 := HMM.out
        (first | rw [if_pos h1] at HF1 | rw [if_neg h1] at HF1)
        (first | rw [if_pos h2] at HM1 | rw [if_neg h2] at HM1)
        have HF2 := Lib.hid HF1
        have HM2 := Lib.hid HM1
        clear HF1 HM1
        go_wp2_with (first
          | (go_at_call 25; refine (HDO.out _).mono ?_; rintro e wa ⟨rfl, hba⟩; have hxa := (hba.cell (p := ⟨b1, o1 + k, none⟩) hb1).trans hx; have hba1 : b1 < wa.heap.size := Nat.lt_of_lt_of_le hb1 hba.size)
          | (go_at_call 24; refine (HCB.out _).mono ?_; rintro e wb ⟨rfl, hbb⟩; have hxb := (hbb.cell (p := ⟨b1, o1 + k, none⟩) hba1).trans hxa; have hrab := RdI_below (RdI_below hra hba) hbb)
          | (go_at_call 26; refine (HHd.out _ hrab).mono ?_; rintro e wd ⟨rfl, rfl⟩))
        go_roundw
        case rel => exact ⟨k + 1, by omega, by go_num, by rw [HF2.out], by rw [HM2.out], hrab, RdI_below (RdI_below (.inr ⟨b1, o1, rfl, hb1, HCC.out⟩) hba) hbb, belowThen hbw (belowThen hba hbb)⟩
        case measure => simp [intOf]; omega
    · have hkn : k = nl := by omega
      subst hkn
      have HE1 := HE.out.1
      have HE2 := HE.out.2
      rw [← HNL.out] at HE1 HE2
      obtain ⟨f0, hf0⟩ : ∃ f0, fewU lp k = f0 := ⟨_, rfl⟩
      obtain ⟨m0, hm0⟩ : ∃ m0, mostU lp k = m0 := ⟨_, rfl⟩
      obtain ⟨c0, hc0⟩ : ∃ c0, cnt C = c0 := ⟨_, rfl⟩
      rw [hf0, hc0] at HE1
      rw [hm0, hc0] at HE2
      rw [hf0, hm0, hc0]
      rw [hc0] at hcn
      clear hf0 hm0 hc0
      clear HC HGD HHas hr23 hl23 hB23 hra hrb
      have e1 : (vs == (f0 : Int) - (c0 : Int)) = true := by rw [beq_iff_eq]; exact HE1
      have e2 : (vg == (m0 : Int) - (c0 : Int)) = true := by rw [beq_iff_eq]; exact HE2
      by_cases hne : vs = vg
      · have hvm := HM.out hne
        subst hne
        have hf : f0 = m0 := by omega
        subst hf
        subst HE2
        have hvm2 : vm = (((f0 : Int) - (c0 : Int)) % 2 == 0) := by rw [hvm, Bool.eq_iff_iff, decide_eq_true_eq, beq_iff_eq]
        subst hvm2
        clear HM hvm e1 e2 HE1
        go_wp2
        go_ret
        exact ⟨rfl, hbw⟩
      · have e3 : (vs != vg) = true := by rw [bne_iff_ne]; exact hne
        clear HM
        go_wp2
        go_ret
        exact ⟨rfl, hbw⟩
end Go.Proofs.YtcddfpbohejhhaaGreat
namespace Go.Proofs.YtcddfpbohejhhaaGreat.fnLightPlays
open Go.ChangeShapes Go.WideShapes Go.ChangeAt Go.RowKit Go.Joins
open Go.ChangeMaps (open_string shut_string)
set_option linter.unusedVariables false
theorem own : ownKnob Tryz.prog.godebug = none := by kernel_rfl
theorem laidOut : laidOutB Tryz.prog = true := by kernel_rfl
set_option maxRecDepth 100000 in
theorem lifted (os : Os) (started : os.Started) (H : Type) (enc : TypeId × Value → H) :
    ReturnsInHanded {} Tryz.checked os 3 .any (Rows.fnLightPlaysSpec.pre6 enc Tryz.prog Tryz.f3 Rows.fnLightPlaysRow.domain false) (Rows.fnLightPlaysSpec.post enc Tryz.prog Tryz.f3 false true false false) := by
  refine returnsInHanded_of_change (C := Tryz.checked) own started (by kernel_rfl) Tryz.func3
    (ChangeSpec.witness6 (enc := enc) (C := Tryz.checked) false ⟨#[], #[.slice none 0 0], []⟩ 8 (by kernel_rfl) (by kernel_rfl) (by kernel_rfl) (by kernel_rfl)) ?_
  intro W base args ds gs before hval0 hW hcnd _
  have hval : ∀ (j : Nat) t v, Tryz.f3.params[j]? = some t → args[j]? = some v → Value.okWide Tryz.prog W .any base t v := hval0
  have hW' := hW
  obtain ⟨p, q, hA0, hV, rfl, hfz, hnd⟩ := hW
  have hA : DataW.TrodAll enc Tryz.prog W 0 (fun _ => true) true Tryz.f3.params.toList args.toList ds p := hA0
  rw [Tryz.params3] at hA hval
  obtain ⟨v0, vs0, d0, ds0, p0, q0, hargs, rfl, rfl, h0, r0⟩ := trodAll_cons hA
  obtain ⟨rfl, rfl, rfl⟩ := trodAll_nil r0
  obtain rfl : args = #[v0] := by cases args; simp_all
  obtain ⟨rfl, rfl⟩ := trodVars_none hV
  have k0 := h0
  have lt0 : ∀ x ∈ p0, x.block < W.heap.size := by obtain ⟨m, hm⟩ := k0; exact DataW.trod_lt m _ _ _ hm
  obtain ⟨a0, len0, cap0, rfl⟩ := okWide_slice Tryz.underlying22 (hval 0 22 v0 rfl rfl)
  obtain ⟨z0, w0⟩ : ∃ zs, RowIn .u8 W a0 len0 cap0 zs := by
    obtain ⟨fuel, hf⟩ := h0
    rcases open_ints Tryz.underlying22 Tryz.underlying5 (by kernel_rfl) hf with ⟨hcs, _⟩ | ⟨x, l, c, zs, hcs, _, hl, hm, hz, _, hcell, hwz⟩
    · simp [Value.cells] at hcs
      obtain ⟨rfl, rfl, rfl⟩ := hcs
      exact ⟨[], .inl ⟨rfl, rfl, rfl, rfl⟩⟩
    · simp [Value.cells] at hcs
      obtain ⟨rfl, rfl, rfl⟩ := hcs
      exact ⟨zs, .inr ⟨_, rfl, hl, hm, by simpa using hz, hcell, hwz⟩⟩
  clear hA0 hval0
  refine (fnLightPlays_walk a0 len0 cap0 z0 W w0).mono fun e W' ⟨he, bel⟩ => ?_
  subst he
  exact ⟨_, rfl, _, _, _, [], _, [], hW', trodAll_mk1 (shut_bool Tryz.underlying4 _), (trodAll_cons_mk (Below.trod laidOut (by kernel_rfl) (of_decide_eq_true (by kernel_rfl)) k0 bel lt0) trodAll_mk0), rfl, bel.frame _, fun h => by cases h⟩
theorem over : Rows.fnLightPlaysRow.holds Tryz.pinned (OpenSpec.ofChange Rows.fnLightPlaysSpec) :=
  OpenClaim.holds_of_wide 3 Tryz.f3 rfl rfl rfl rfl rfl rfl rfl ⟨rfl, rfl, rfl, rfl, rfl⟩ rfl rfl rfl rfl rfl (by kernel_rfl) Tryz.func3 (by kernel_rfl)
    (of_decide_eq_true (by kernel_rfl)) (by unfold Func.isWrapper; first | (rw [if_pos (by decide +kernel)]; kernel_rfl) | (rw [if_neg (by decide +kernel)]; exact ⟨rfl, rfl⟩))
    (fun os started H enc _ => lifted os started H enc)
theorem proved : Rows.FnLightPlaysSaid := over
end Go.Proofs.YtcddfpbohejhhaaGreat.fnLightPlays
