/- Words are told by their rows, numbers turn to words and back, and a word that is mirrored twice is the same, whatever is drawn. No conditions. -/
import Derived.Test.YtfdmcnnjifggnabGreatDoorRdYR
import Derived.Test.YtfdmcnnjifggnabGreatDoorDrawB
import Derived.Test.YtfdmcnnjifggnabGreatDoorDrawBr
import Derived.Test.YtfdmcnnjifggnabGreatDoorRInts
import Derived.Test.YtfdmcnnjifggnabGreatDoorBarM2
import Derived.Test.YtfdmcnnjifggnabGreatDoorWLit
import Derived.Test.YtfdmcnnjifggnabGreatDoorTab10
import Derived.Lib.Hide
import Derived.Deep.Cut
namespace Go.Proofs.YtfdmcnnjifggnabGreatDoor
open Go.RowKit

theorem nw_size {s : ByteArray} (h : nwB s = true) : s.size ≤ maxLen := by
  unfold nwB nwIn at h
  simp only [Bool.and_eq_true, decide_eq_true_eq] at h
  have := (wordB_parts h.1.1).2
  unfold maxLen; omega
theorem mir_size {s : ByteArray} (h : mirB s = true) : s.size ≤ maxLen := by
  unfold mirB at h
  rw [Bool.and_eq_true] at h
  have := (wordB_parts h.1).2
  unfold maxLen; omega
theorem rowO_big (s : ByteArray) : (rowO s).length ≤ maxLen := by have := rowO_le s; unfold maxLen; omega
set_option maxRecDepth 100000 in
set_option maxHeartbeats 8000000 in
theorem fnBarWords_walk (ao : Option Addr) (n cap : Nat) (z : List Int) (w : World) (hw : RowIn .u8 w ao n cap z) (htab : Lib.TabIs Tryz.prog w "internal/strconv.uint64pow10" .u64 Lib.pow10Tab) :
    Calls Tryz.prog 3 #[.slice ao n cap] w fun e w' => e = .returned (.bool true) ∧ Below w.heap.size w w' := by
  have HY := Lib.hid (RdY_row hw)
  have HT := Lib.hid htab
  clear hw z htab
  by_cases hbig : n ≤ 65536
  rotate_left
  · have hA1 := @cellAlloc; have hA2 := @frozenAlloc; have hA3 := @setCellAlloc; go_enter Tryz.func3, Tryz.ntmps3
    have hd : decide ((65536 : Int) < (n : Int)) = true := decide_eq_true (by omega)
    go_wp2_with (go_at_call 4; refine (rBig_any _ _ _ _).mono ?_; rw [hd]; rintro e w' ⟨rfl, rfl⟩)
    go_ret
    exact ⟨rfl, Below.refl _ _⟩
  have hd : decide ((65536 : Int) < (n : Int)) = false := decide_eq_false (by omega)
  have hA1 := @cellAlloc; have hA2 := @frozenAlloc; have hA3 := @setCellAlloc; go_enter Tryz.func3, Tryz.ntmps3
  go_upto_region 8 with (first
    | (go_at_call 4; refine (rBig_any _ _ _ _).mono ?_; rw [hd]; rintro e w' ⟨rfl, rfl⟩)
    | (go_at_call 5; refine (DrawRowOfWord_any ao n cap w HY.out).mono ?_; rintro e w1 ⟨⟨s, hs, rfl⟩, hb1⟩)
    | (go_at_call 6; refine (RowOfWordI_any s (big30 hs) w1).mono ?_; rintro e w2 ⟨ar, cr, rfl, hor, hb2⟩; have hB2 := belowThen hb1 hb2; have hr2 := RdI_owns hor; have HCr := Lib.hid (capOf hor); clear hb1 hb2 hor)
    | (go_at_call 7; refine (RowOfWordS_any s (big30 hs) w2).mono ?_; rintro e w3 ⟨ar2, cr2, rfl, hor, hb3⟩; have hB3 := belowThen hB2 hb3; have hr3 := RdI_below hr2 hb3; have hq3 := RdI_owns hor; clear hB2 hb3 hr2 hor)
    | (go_at_call 8; refine (rInts_same ar ar2 _ cr cr2 (rowO s) w3 hr3 hq3 rfl (rowO_big s)).mono ?_; rintro e w4 ⟨rfl, hb4⟩; have hB4 := belowThen hB3 hb4; have hr4 := RdI_below hr3 hb4; clear hB3 hb4 hr3 hq3))
  have HY4 := Lib.hid (RdY_below HY.out hB4)
  have HT4 := Lib.hid (TabIs_keep HT.out hB4)
  have HR4 := Lib.hid hr4
  have HB4 := Lib.hid hB4
  clear hr4 hB4 HY HT
  go_upto_if 255 with (first
    | (go_at_call 9; refine (DrawWordOfRow_any ao n cap w4 HY4.out).mono ?_; rintro e w5 ⟨⟨a5, c5, L5, rfl, hL5, ho5⟩, hC5⟩; have hr5 := RdI_owns ho5; have hc5 := capOf ho5; clear ho5)
    | (go_at_call 10; refine (WordOfRowI_any a5 _ c5 L5 w5 hr5 rfl (big30 hL5) hc5).mono ?_; rintro e w6 ⟨rfl, hb6⟩; have hC6 := belowThen hC5 hb6; have hr6 := RdI_below hr5 hb6; clear hb6 hC5 hr5)
    | (go_at_call 11; refine (WordOfRowS_any a5 _ c5 L5 w6 hr6 rfl (big30 hL5) hc5).mono ?_; rintro e w7 ⟨rfl, hb7⟩; have hC7 := belowThen hC6 hb7; clear hb7 hC6 hr6)
    | (go_at_call 12; refine (DrawWordOfNumber_any ao n cap w7 (RdY_below HY4.out hC7)).mono ?_; rintro e w8 ⟨⟨x, rfl⟩, hb8⟩; have hC8 := belowThen hC7 hb8; clear hb8 hC7)
    | (go_at_call 13; refine (WordOfNumberI_any x w8 (TabIs_keep HT4.out hC8)).mono ?_; rintro e w9 ⟨rfl, hb9⟩; have hC9 := belowThen hC8 hb9; clear hb9 hC8)
    | (go_at_call 14; refine (WordOfNumberS_any x w9).mono ?_; rintro e w10 ⟨rfl, hb10⟩; have hC10 := belowThen hC9 hb10; clear hb10 hC9)
    | (go_at_call 15; refine (DrawNumberOfWord_any ao n cap w10 (RdY_below HY4.out hC10)).mono ?_; rintro e w11 ⟨⟨s2, hs2, rfl⟩, hb11⟩; have hC11 := belowThen hC10 hb11; clear hb11 hC10)
    | (go_at_call 16; refine (NumberOfWordI_any s2 (big30 hs2) w11 (TabIs_keep HT4.out hC11)).mono ?_; rintro e w12 ⟨rfl, hb12⟩; have hC12 := belowThen hC11 hb12; clear hb12 hC11)
    | (go_at_call 17; refine (NumberOfWordS_any s2 (big30 hs2) w12).mono ?_; rintro e w13 ⟨rfl, hb13⟩; have hC13 := belowThen hC12 hb13; clear hb13 hC12)
    | (go_at_call 18; refine (DrawMirroredWord_any ao n cap w13 (RdY_below HY4.out hC13)).mono ?_; rintro e w14 ⟨⟨s3, hs3, rfl⟩, hb14⟩; have hC14 := belowThen hC13 hb14; clear hb14 hC13)
    | (go_at_call 19; refine (MirroredWordI_any s3 (big30 hs3) w14).mono ?_; rintro e w15 ⟨rfl, hb15⟩; have hC15 := belowThen hC14 hb15; clear hb15 hC14)
    | (go_at_call 20; refine (MirroredWordS_any s3 (big30 hs3) w15).mono ?_; rintro e w16 ⟨rfl, hb16⟩; have hC16 := belowThen hC15 hb16; clear hb16 hC15)
    | (go_at_call 21; refine (DrawLetterCell_any ao n cap w16 (RdY_below HY4.out hC16)).mono ?_; rintro e w17 ⟨⟨s4, hs4, rfl⟩, hb17⟩; have hC17 := belowThen hC16 hb17; clear hb17 hC16)
    | (go_at_call 22; refine (LetterCellI_any s4 (big30 hs4) w17).mono ?_; rintro e w18 ⟨rfl, hb18⟩; have hC18 := belowThen hC17 hb18; clear hb18 hC17)
    | (go_at_call 23; refine (LetterCellS_any s4 (big30 hs4) w18).mono ?_; rintro e w19 ⟨rfl, hb19⟩; have hC19 := belowThen hC18 hb19; clear hb19 hC18)
    | (go_at_call 24; refine (DrawLetterOf_any ao n cap w19 (RdY_below HY4.out hC19)).mono ?_; rintro e w20 ⟨⟨x5, rfl⟩, hb20⟩; have hC20 := belowThen hC19 hb20; clear hb20 hC19)
    | (go_at_call 25; refine (LetterOfI_any x5 w20).mono ?_; rintro e w21 ⟨rfl, hb21⟩; have hC21 := belowThen hC20 hb21; clear hb21 hC20)
    | (go_at_call 26; refine (LetterOfS_any x5 w21).mono ?_; rintro e w22 ⟨rfl, hb22⟩; have hC22 := belowThen hC21 hb22; clear hb22 hC21)
    | (go_at_call 27; refine (DrawWordLit_any ao n cap w22 (RdY_below HY4.out hC22)).mono ?_; rintro e w23 ⟨⟨s6, hs6, rfl⟩, hb23⟩; have hC23 := belowThen hC22 hb23; clear hb23 hC22)
    | (go_at_call 28; refine (WordLitI_any s6 (big30 hs6) w23).mono ?_; rintro e w24 ⟨rfl, hb24⟩; have hC24 := belowThen hC23 hb24; clear hb24 hC23)
    | (go_at_call 29; refine (WordLitS_any s6 (big30 hs6) w24).mono ?_; rintro e w25 ⟨rfl, hb25⟩; have hC25 := belowThen hC24 hb25; clear hb25 hC24)
    | (go_at_call 30; refine (IsWordI_any s6 w25 (big30 hs6)).mono ?_; rintro e w26 ⟨rfl, hb26⟩; have hC26 := belowThen hC25 hb26; clear hb26 hC25)
    | (go_at_call 31; refine (DrawWordChanges_any ao n cap w26 (RdY_below HY4.out hC26)).mono ?_; rintro e w27 ⟨⟨s7, t7, hs7, ht7, rfl⟩, hb27⟩; have hC27 := belowThen hC26 hb27; clear hb27 hC26)
    | (go_at_call 32; refine (WordChangesI_any s7 t7 (big30 hs7) (big30 ht7) w27).mono ?_; rintro e w28 ⟨rfl, hb28⟩; have hC28 := belowThen hC27 hb28; clear hb28 hC27)
    | (go_at_call 33; refine (WordChangesS_any s7 t7 (big30 hs7) (big30 ht7) w28).mono ?_; rintro e w29 ⟨rfl, hb29⟩; have hC29 := belowThen hC28 hb29; clear hb29 hC28))
  have HN := Lib.hid (fun h => back_number (n := x) h)
  have HW := Lib.hid (fun h => back_nword (s := s2) h)
  have HM := Lib.hid (fun h => back_mirror (s := s3) h)
  have HL := Lib.hid (fun h => back_letter (s := s4) h)
  have HC := Lib.hid (fun h => back_changes (a := s7) (b := t7) h)
  have HO := Lib.hid (fun h => back_word (s := s) h)
  generalize wnS x = vN at *
  generalize wnB x = qN at *
  generalize nwZ s2 = vW at *
  generalize nwB s2 = qW at *
  generalize mirS s3 = vM at *
  generalize mirB s3 = qM at *
  generalize letZ s4 = vL at *
  generalize letB s4 = qL at *
  generalize wchZ s7 t7 = vC at *
  generalize wchB s7 t7 = qC at *
  go_cut [15] from 342 (fun _ wx => Below w4.heap.size w4 wx)
  case first =>
    rcases qN with _ | _
    · go_wp2_with fail
      go_meet
      exact hC29
    · obtain ⟨e1, e2⟩ := HN.out rfl
      go_wp2_with (go_at_call 16; refine (NumberOfWordI_any vN (nw_size e1) w29 (TabIs_keep HT4.out hC29)).mono ?_; rw [e1, e2]; rintro e w30 ⟨rfl, hb30⟩)
      go_meet
      exact belowThen hC29 hb30
  case rest =>
  have hC30 := hcut
  clear hcut hC29 HN
  go_upto_if 268 with fail
  go_cut [20] from 342 (fun _ wx => Below w4.heap.size w4 wx)
  case first =>
    rcases qW with _ | _
    · go_wp2_with fail
      go_meet
      exact hC30
    · obtain ⟨e1, e2⟩ := HW.out rfl
      go_wp2_with (go_at_call 13; refine (WordOfNumberI_any vW _ (TabIs_keep HT4.out hC30)).mono ?_; rw [e1, e2]; rintro e w31 ⟨rfl, hb31⟩)
      go_meet
      exact belowThen hC30 hb31
  case rest =>
  have hC31 := hcut
  clear hcut hC30 HW
  go_upto_if 281 with fail
  go_cut [25] from 342 (fun _ wx => Below w4.heap.size w4 wx)
  case first =>
    rcases qM with _ | _
    · go_wp2_with fail
      go_meet
      exact hC31
    · obtain ⟨e1, e2⟩ := HM.out rfl
      go_wp2_with (go_at_call 19; refine (MirroredWordI_any vM (mir_size e1) _).mono ?_; rw [e1, e2]; rintro e w32 ⟨rfl, hb32⟩)
      go_meet
      exact belowThen hC31 hb32
  case rest =>
  have hC32 := hcut
  clear hcut hC31 HM
  go_upto_if 294 with fail
  go_cut [30] from 342 (fun _ wx => Below w4.heap.size w4 wx)
  case first =>
    rcases qL with _ | _
    · go_wp2_with fail
      go_meet
      exact hC32
    · obtain ⟨e1, e2⟩ := HL.out rfl
      go_wp2_with (go_at_call 25; refine (LetterOfI_any vL _).mono ?_; rw [e1, e2]; rintro e w33 ⟨rfl, hb33⟩)
      go_meet
      exact belowThen hC32 hb33
  case rest =>
  have hC33 := hcut
  clear hcut hC32 HL
  go_upto_if 307 with fail
  go_cut [46] from 342 (fun _ wx => Below w4.heap.size w4 wx)
  case first =>
    rcases qC with _ | _
    · go_wp2_with fail
      go_meet
      exact hC33
    · obtain ⟨e1, e2, e3⟩ := HC.out rfl
      rw [beq_toListBytes] at e3
      go_wp2_with (go_at_call 32; refine (WordChangesI_any t7 s7 (big30 ht7) (big30 hs7) _).mono ?_; rw [e1, e2]; rintro e w34 ⟨rfl, hb34⟩)
      go_meet
      exact belowThen hC33 hb34
  case rest =>
  have hC34 := hcut
  clear hcut hC33 HC
  have hrw := RdI_below HR4.out hC34
  have hBf := belowThen HB4.out hC34
  have hlen := rowO_big s
  by_cases hq : wordB s 6 = true
  rotate_left
  · rw [Bool.not_eq_true] at hq
    rw [hq]
    go_wp2_with fail
    go_ret
    exact ⟨rfl, hBf⟩
  · obtain ⟨e1, e2⟩ := HO.out hq
    rw [hq]
    have HLen := Lib.hid (And.intro hlen HCr.out)
    clear hlen
    go_wp2_with (go_at_call 10; refine (WordOfRowI_any ar _ cr (rowO s) wc hrw rfl HLen.out.1 HLen.out.2).mono ?_; rw [e1, e2]; rintro e w35 ⟨rfl, hb35⟩)
    go_ret
    exact ⟨rfl, belowThen hBf hb35⟩
end Go.Proofs.YtfdmcnnjifggnabGreatDoor
namespace Go.Proofs.YtfdmcnnjifggnabGreatDoor.fnBarWords
open Go.ChangeShapes Go.WideShapes Go.ChangeAt Go.RowKit Go.Joins
open Go.ChangeMaps (open_string shut_string)
set_option linter.unusedVariables false
theorem own : ownKnob Tryz.prog.godebug = none := by kernel_rfl
theorem laidOut : laidOutB Tryz.prog = true := by kernel_rfl
set_option maxRecDepth 100000 in
theorem lifted (os : Os) (started : os.Started) (H : Type) (enc : TypeId × Value → H) :
    ReturnsInHanded {} Tryz.checked os 3 .any (fun w args => (Rows.fnBarWordsSpec.pre enc Tryz.prog Tryz.f3 [] false w args ∧ laidMetH Tryz.prog Rows.fnBarWordsRow.laid w) ∧ sizedMet enc Tryz.prog Tryz.f3 (OpenSpec.ofChange Rows.fnBarWordsSpec) false w args)
      (Rows.fnBarWordsSpec.post enc Tryz.prog Tryz.f3 false true false false) := by
  refine returnsInHanded_of_change_and (C := Tryz.checked) (X := fun w _ => laidMetH Tryz.prog Rows.fnBarWordsRow.laid w) (fun _ _ _ hh h => h.of_heap hh) own started (by kernel_rfl) Tryz.func3
    (ChangeSpec.witness_shaped (enc := enc) (C := Tryz.checked) (os := os) (X := fun w _ => laidMetH Tryz.prog Rows.fnBarWordsRow.laid w) false (World.laidAll Tryz.prog os Rows.fnBarWordsRow.laid) #[.slice none 0 0] 8 (World.laidAll_os _ _ _)
      (World.shaped_of_ZipB (by kernel_rfl) (by kernel_rfl)) (by kernel_rfl) (by kernel_rfl) (by kernel_rfl)
      (by rw [MakeChecks.laidMetH_plain _ _ _ (by kernel_rfl)]; exact laidMet_laidAll _ (by kernel_rfl) (by kernel_rfl))) ?_
  intro W base args ds gs before hval0 hW _ _ hL _
  have hval : ∀ (j : Nat) t v, Tryz.f3.params[j]? = some t → args[j]? = some v → Value.okWide Tryz.prog W .any base t v := hval0
  have hW' := hW
  obtain ⟨p, q, hA0, hV, rfl, hfz, hnd⟩ := hW
  have hA : DataW.TrodAll enc Tryz.prog W 0 (fun _ => true) true Tryz.f3.params.toList args.toList ds p := hA0
  rw [Tryz.params3] at hA hval
  obtain ⟨v0, vs0, d0, ds0, p0, q0, hargs, rfl, rfl, h0, r0⟩ := trodAll_cons hA
  obtain ⟨rfl, rfl, rfl⟩ := trodAll_nil r0
  obtain rfl : args = #[v0] := by cases args; simp_all
  obtain ⟨rfl, rfl⟩ := trodVars_none hV
  have k0 := h0
  have lt0 : ∀ x ∈ p0, x.block < W.heap.size := by obtain ⟨m, hm⟩ := k0; exact DataW.trod_lt m _ _ _ hm
  obtain ⟨a0, len0, cap0, rfl⟩ := okWide_slice Tryz.underlying22 (hval 0 22 v0 rfl rfl)
  obtain ⟨z0, w0⟩ : ∃ zs, RowIn .u8 W a0 len0 cap0 zs := by
    obtain ⟨fuel, hf⟩ := h0
    rcases open_ints Tryz.underlying22 Tryz.underlying5 (by kernel_rfl) hf with ⟨hcs, _⟩ | ⟨x, l, c, zs, hcs, _, hl, hm, hz, _, hcell, hwz⟩
    · simp [Value.cells] at hcs
      obtain ⟨rfl, rfl, rfl⟩ := hcs
      exact ⟨[], .inl ⟨rfl, rfl, rfl, rfl⟩⟩
    · simp [Value.cells] at hcs
      obtain ⟨rfl, rfl, rfl⟩ := hcs
      exact ⟨zs, .inr ⟨_, rfl, hl, hm, by simpa using hz, hcell, hwz⟩⟩
  clear hA0 hval0
  have htab := pow10_of (l := Rows.fnBarWordsRow.laid) (by rw [MakeChecks.laidMetH_plain _ _ _ (by kernel_rfl)] at hL; exact hL) (by simp [Rows.fnBarWordsRow])
  refine (fnBarWords_walk a0 len0 cap0 z0 W w0 htab).mono fun e W' ⟨he, bel⟩ => ?_
  subst he
  exact ⟨_, rfl, _, _, _, [], _, [], hW', trodAll_mk1 (shut_bool Tryz.underlying4 _), (trodAll_cons_mk (Below.trod laidOut (by kernel_rfl) (of_decide_eq_true (by kernel_rfl)) k0 bel lt0) trodAll_mk0), rfl, bel.frame _, fun h => by cases h⟩
theorem over : Rows.fnBarWordsRow.holds Tryz.pinned (OpenSpec.ofChange Rows.fnBarWordsSpec) :=
  OpenClaim.holds_of_wide 3 Tryz.f3 rfl rfl rfl rfl rfl rfl rfl ⟨rfl, rfl, rfl, rfl, rfl⟩ rfl rfl rfl rfl rfl (by kernel_rfl) Tryz.func3 (by kernel_rfl)
    (of_decide_eq_true (by kernel_rfl)) (by unfold Func.isWrapper; first | (rw [if_pos (by decide +kernel)]; kernel_rfl) | (rw [if_neg (by decide +kernel)]; exact ⟨rfl, rfl⟩))
    (fun os started H enc _ => lifted os started H enc)
theorem proved : Rows.FnBarWordsCardSaid :=
  Claim7.holds_tied_plain_at .later [] [.data, .data, .data, .data, .pinned] true (true, "5eae75b21a03723f1868498a117bcffaf2af50a10f6d9be657bbe7b31b038487") false
    over (fun _ h => by cases h) (by kernel_rfl) (fun _ h => by cases h) fnBarWords_row_tie rfl ⟨rfl, rfl⟩ (by kernel_rfl) rfl
    (fun f fn hf hfn => by
      obtain rfl : f = 3 := Option.some.inj ((show Tryz.prog.funcNamed "loop.example/g01265/laws.FnBarWords" = some 3 by kernel_rfl).symm.trans hf) |>.symm
      obtain rfl : fn = Tryz.f3 := (Option.some.inj (Tryz.func3.symm.trans hfn)).symm
      exact ⟨by kernel_rfl, fun j t ht => by
        rw [Tryz.params3] at ht
        have hm : t ∈ [22] := by simpa using Array.mem_of_getElem? ht
        have hall : ([22].all fun u => !(Tryz.prog).wantsStandIn u) = true := by kernel_rfl
        exact (show (Tryz.prog).wantsStandIn t = false by simpa using List.all_eq_true.1 hall t hm)⟩)
    (by kernel_rfl)
end Go.Proofs.YtfdmcnnjifggnabGreatDoor.fnBarWords
