/- Who wins has a winning move, behind which the other one does not win, and numbers are those that no next cell has, whatever is drawn. No conditions. -/
import Derived.Test.YtpcmlfohblglaabDrawL
import Derived.Test.YtpcmlfohblglaabNimM
import Derived.Test.YtpcmlfohblglaabLightL
import Derived.Test.YtpcmlfohblglaabOnWC
import Derived.Test.YtpcmlfohblglaabLBarsC
import Derived.Test.YtpcmlfohblglaabFive
import Derived.Test.YtpcmlfohblglaabMarks
import Derived.Test.YtpcmlfohblglaabLetP
import Derived.Lib.Hide
import Derived.Deep.Cut
namespace Go.Proofs.Ytpcmlfohblglaab
open Go.RowKit

theorem RdY_row {w : World} {ao : Option Addr} {len cap : Nat} {zs : List Int} (h : RowIn .u8 w ao len cap zs) : RdY w ao len := by
  rcases h with ⟨rfl, rfl, rfl, rfl⟩ | ⟨x, rfl, hl, hm, hz, hc, hw⟩
  · exact ⟨Nat.zero_le _, .inl rfl⟩
  · refine ⟨by omega, ?_⟩
    by_cases h0 : len = 0
    · exact .inl h0
    · right
      obtain ⟨b, off, rfl, hcell⟩ := ints_at hc (by omega)
      have h00 := hcell 0 (by omega)
      refine ⟨b, off, rfl, World.block_lt_of_cell? w _ h00, fun j hj => ?_⟩
      have hwf := hw (zs.getD j 0) (by rw [List.getD_eq_getElem?_getD, List.getElem?_eq_getElem (by omega)]; exact List.getElem_mem _)
      have hb : 0 ≤ zs.getD j 0 ∧ zs.getD j 0 ≤ 255 := by simpa [Lit.wf, IntKind.min, IntKind.max, IntKind.signed, IntKind.bits] using hwf
      obtain ⟨x, hx⟩ := Int.eq_ofNat_of_zero_le hb.1
      refine ⟨x, by omega, ?_⟩
      rw [hcell j (by omega), hx]
theorem capOf {w : World} {B n cap : Nat} {ao : Option Addr} {L : List Int} (h : ownsInts w B (.slice ao n cap) L) : L.length ≤ cap := by
  rcases own_cap h with h9 | h9
  · exact h9
  · rw [h9]; exact Nat.zero_le _
theorem wins_false (R L : List Int) (m : Nat) (h : goodRow R L m = true) : (decide ((0 : Int) < (winN R L m : Int)) != winB R L m) = false := by
  rw [← wins_iff R L m h]
  have : decide ((0 : Int) < (winN R L m : Int)) = decide (0 < winN R L m) := by rw [decide_eq_decide]; omega
  rw [this]
  simp
theorem made8 (x : Nat) (hx : x < 8) : (madeCells #[Value.bool false] 8)[x]? = some (.bool false) := by
  rw [← Array.getElem?_toList, toList_madeCells_one]
  match x, hx with
  | 0, _ => rfl
  | 1, _ => rfl
  | 2, _ => rfl
  | 3, _ => rfl
  | 4, _ => rfl
  | 5, _ => rfl
  | 6, _ => rfl
  | 7, _ => rfl
  | n + 8, h => omega
set_option maxRecDepth 100000 in
set_option maxHeartbeats 8000000 in
theorem fnLighting_walk (ao : Option Addr) (n cap : Nat) (z : List Int) (w : World) (hw : RowIn .u8 w ao n cap z) :
    Calls Try.prog 3 #[.slice ao n cap] w fun e w' => e = .returned (.bool true) ∧ Below w.heap.size w w' := by
  have HY := Lib.hid (RdY_row hw)
  clear hw z
  have hmx : (1000 : Nat) ≤ maxLen := by unfold maxLen; omega
  have HMx := Lib.hid hmx
  clear hmx
  by_cases hbig : n ≤ 65536
  rotate_left
  · have hA1 := @cellAlloc; have hA2 := @frozenAlloc; have hA3 := @setCellAlloc; go_enter Try.func3, Try.ntmps3
    have hd : decide ((65536 : Int) < (n : Int)) = true := decide_eq_true (by omega)
    go_wp2_with (go_at_call 4; refine (rBig_any _ _ _ _).mono ?_; rw [hd]; rintro e w' ⟨rfl, rfl⟩)
    go_ret
    exact ⟨rfl, Below.refl _ _⟩
  have hd : decide ((65536 : Int) < (n : Int)) = false := decide_eq_false (by omega)
  have hA1 := @cellAlloc; have hA2 := @frozenAlloc; have hA3 := @setCellAlloc; go_enter Try.func3, Try.ntmps3
  go_upto_region 10 with (first
    | (go_at_call 4; refine (rBig_any _ _ _ _).mono ?_; rw [hd]; rintro e w' ⟨rfl, rfl⟩)
    | (go_at_call 5; refine (DrawLightWins_any ao n cap w HY.out).mono ?_; rintro e w1 ⟨⟨ar, ag, cr, cg, R, G, rfl, hR6, hG11, hor, hog⟩, hb1⟩; have hr1 := RdI_owns hor; have hg1 := RdI_owns hog; have hcr := capOf hor; have hcg := capOf hog; have hmR : R.length ≤ maxLen := (by have := HMx.out; omega); have hmG : G.length ≤ maxLen := (by have := HMx.out; omega); have HR := Lib.hid (And.intro hR6 (And.intro hcr hmR)); have HG := Lib.hid (And.intro hG11 (And.intro hcg hmG)); clear hor hog hR6 hG11 hcr hcg hmR hmG)
    | (go_at_call 6; refine (LightWinsI_any ar _ cr R ag _ cg G w1 hr1 rfl HR.out.2.2 HR.out.2.1 hg1 rfl HG.out.2.2 HG.out.2.1).mono ?_; rintro e w2 ⟨rfl, hb2⟩; have hB2 := belowThen hb1 hb2; have hr2 := RdI_below hr1 hb2; have hg2 := RdI_below hg1 hb2; clear hr1 hg1 hb1 hb2)
    | (go_at_call 7; refine (LightWinsS_any ar _ cr R ag _ cg G w2 hr2 rfl HR.out.2.2 HR.out.2.1 hg2 rfl HG.out.2.2 HG.out.2.1).mono ?_; rintro e w3 ⟨rfl, hb3⟩; have hB3 := belowThen hB2 hb3; have hr3 := RdI_below hr2 hb3; have hg3 := RdI_below hg2 hb3; clear hr2 hg2 hB2 hb3)
    | (go_at_call 8; refine (WinningMovesI_any ar _ cr R ag _ cg G w3 hr3 rfl HR.out.2.2 HR.out.2.1 hg3 rfl HG.out.2.2 HG.out.2.1).mono ?_; rintro e w4 ⟨am, cm, rfl, hom, hb4⟩; have hB4 := belowThen hB3 hb4; have hr4 := RdI_below hr3 hb4; have hg4 := RdI_below hg3 hb4; have hm4 := RdI_pairs hom; clear hr3 hg3 hB3 hb4 hom)
    | (go_at_call 9; refine (WinningMovesS_any ar _ cr R ag _ cg G w4 hr4 rfl HR.out.2.2 HR.out.2.1 hg4 rfl HG.out.2.2 HG.out.2.1).mono ?_; rintro e w5 ⟨am5, cm5, rfl, hom, hb5⟩; have hB5 := belowThen hB4 hb5; have hr5 := RdI_below hr4 hb5; have hg5 := RdI_below hg4 hb5; have hm5 := RdI_below hm4 hb5; have hn5 := RdI_pairs hom; clear hr4 hg4 hB4 hb5 hom hm4))
  go_cut [6, 8, 10, 12, 101] from 39 (fun s6 _ _ _ s101 wx => s6 = .bool (goodRow R G G.length) ∧ s101 = .bool false ∧ RdI wx ar R ∧ RdI wx ag G ∧ RdI wx am (winF R G G.length) ∧ Below w.heap.size w wx)
  case first =>
    go_wp2_with (go_at_call 10; refine (rPairs_same am am5 (winN R G G.length) cm cm5 (winF R G G.length) w5 hm5 hn5 (winF_len R G G.length) (by have := winN_le R G G.length; have := HMx.out; omega)).mono ?_; rintro e w6 ⟨rfl, hb6⟩; have hB6 := belowThen hB5 hb6; have hr6 := RdI_below hr5 hb6; have hg6 := RdI_below hg5 hb6; have hm6 := RdI_below hm5 hb6)
    · rename_i hgood
      have hwf := wins_false R G G.length hgood
      go_meet
      exact ⟨by rw [hgood], by first | rw [hwf] | (simp at hwf ⊢; exact hwf), hr6, hg6, hm6, hB6⟩
    · rename_i hgood
      rw [Bool.not_eq_true] at hgood
      go_meet
      exact ⟨by rw [hgood], rfl, hr6, hg6, hm6, hB6⟩
  case rest =>
  obtain ⟨rfl, rfl, hr6, hg6, hm6, hB6⟩ := hcut
  have HYC := Lib.hid (RdY_below HY.out hB6)
  clear hr5 hg5 hm5 hn5 hB5
  go_upto_if 184 with (first
    | (go_at_call 11; refine (DrawCellNumber_any ao n cap wc HYC.out).mono ?_; rintro e w7 ⟨⟨c, a2, c2, G2, rfl, hL2, ho2⟩, hb7⟩; have hg7 := RdI_owns ho2; have hcp := capOf ho2; have hmG : G2.length ≤ maxLen := (by have := HMx.out; omega); have HG2 := Lib.hid (And.intro hL2 (And.intro hcp hmG)); have hB7 := belowThen hB6 hb7; have hbc7 := hb7; clear hb7 ho2 hL2 hcp hmG)
    | (go_at_call 12; refine (CellNumberI_any c a2 _ c2 G2 w7 hg7 rfl HG2.out.2.2 HG2.out.2.1).mono ?_; rintro e w8 ⟨rfl, hb8⟩; have hB8 := belowThen hbc7 hb8; have hg8 := RdI_below hg7 hb8; clear hb8)
    | (go_at_call 13; refine (CellNumberS_any c a2 _ c2 G2 w8 hg8 rfl HG2.out.2.2 HG2.out.2.1).mono ?_; rintro e w9 ⟨rfl, hb9⟩; have hB9 := belowThen hB8 hb9; have hg9 := RdI_below hg8 hb9; clear hb9)
    | (go_at_call 14; refine (LightableBarsI_any c a2 _ c2 G2 w9 hg9 rfl HG2.out.2.2 HG2.out.2.1).mono ?_; rintro e w10 ⟨rfl, hb10⟩; have hB10 := belowThen hB9 hb10; have hg10 := RdI_below hg9 hb10; clear hb10)
    | (go_at_call 15; refine (LightableBarsS_any c a2 _ c2 G2 w10 hg10 rfl HG2.out.2.2 HG2.out.2.1).mono ?_; rintro e w11 ⟨rfl, hb11⟩; have hB11 := belowThen hB10 hb11; have hg11 := RdI_below hg10 hb11; clear hb11)
    | (go_at_call 16; refine (DrawIsOnWay_any ao n cap w11 (RdY_below HYC.out hB11)).mono ?_; rintro e w12 ⟨⟨x, a3, c3, G3, rfl, hL3, ho3⟩, hb12⟩; have hx12 := RdI_owns ho3; have hcp := capOf ho3; have hmG : G3.length ≤ maxLen := (by have := HMx.out; omega); have HG3 := Lib.hid (And.intro hL3 (And.intro hcp hmG)); have hB12 := belowThen hB11 hb12; have hg12 := RdI_below hg11 hb12; clear hb12 ho3 hL3 hcp hmG)
    | (go_at_call 17; refine (IsOnWayI_any x a3 _ c3 G3 w12 hx12 rfl HG3.out.2.2 HG3.out.2.1).mono ?_; rintro e w13 ⟨rfl, hb13⟩; have hB13 := belowThen hB12 hb13; have hg13 := RdI_below hg12 hb13; have hx13 := RdI_below hx12 hb13; clear hb13)
    | (go_at_call 18; refine (IsOnWayS_any x a3 _ c3 G3 w13 hx13 rfl HG3.out.2.2 HG3.out.2.1).mono ?_; rintro e w14 ⟨rfl, hb14⟩; have hB14 := belowThen hB13 hb14; have hg14 := RdI_below hg13 hb14; clear hb14)
    | (go_at_call 19; refine (DrawIsGoal_any ao n cap w14 (RdY_below HYC.out hB14)).mono ?_; rintro e w15 ⟨⟨a4, c4, G4, rfl, hL4, ho4⟩, hb15⟩; have hx15 := RdI_owns ho4; have hcp := capOf ho4; have hmG : G4.length ≤ maxLen := (by have := HMx.out; omega); have HG4 := Lib.hid (And.intro hL4 (And.intro hcp hmG)); have hB15 := belowThen hB14 hb15; have hg15 := RdI_below hg14 hb15; clear hb15 ho4 hL4 hcp hmG)
    | (go_at_call 20; refine (IsGoalI_any a4 _ c4 G4 w15 hx15 rfl HG4.out.2.2 HG4.out.2.1).mono ?_; rintro e w' ⟨rfl, rfl⟩)
    | (go_at_call 21; refine (IsGoalS_any a4 _ c4 G4 w15 hx15 rfl HG4.out.2.2 HG4.out.2.1).mono ?_; rintro e w16 ⟨rfl, hb16⟩; have hB16 := belowThen hB15 hb16; have hg16 := RdI_below hg15 hb16; clear hb16))
  clear hg7 hg8 hg9 hg10 hg11 hg12 hg13 hg14 hg15 hx12 hx13 hx15 hbc7 hB7 hB8 hB9 hB10 hB11 hB12 hB13 hB14 hB15 HG3 HG4
  have hr16 := RdI_below hr6 hB16
  have hq16 := RdI_below hg6 hB16
  have hm16 := RdI_below hm6 hB16
  have hT16 := belowThen hB6 hB16
  clear hr6 hg6 hm6 hB6 hB16 HYC
  go_cut [6, 8, 10, 12] from 39 (fun _ _ _ _ wx => RdI wx a2 G2 ∧ Below w.heap.size w wx)
  case first =>
    by_cases hgood : goodRow R G G.length = true
    · rw [hgood]
      have HW := Lib.hid (fun k h => win_next R G G.length k hgood h)
      have hnl := winN_le R G G.length
      have hfl := winF_len R G G.length
      generalize winN R G G.length = N at *
      generalize winF R G G.length = F at *
      clear hgood
      go_wp2_with fail
      go_loopw [30] (fun i wr => ∃ k : Nat, k ≤ N ∧ i = .int .i64 k ∧ Below w16.heap.size w16 wr) (fun i _ => N - (intOf i).toNat)
      case atStart => exact ⟨0, by omega, rfl, Below.refl _ _⟩
      case round =>
        obtain ⟨k, hk, rfl, hbw⟩ := hrel
        by_cases hlt : k < N
        · obtain ⟨i, b, c', hi, hb, hc', hRi, hf0, hf1, hgn, hwn⟩ := HW.out k hlt
          have hrr := RdI_below hr16 hbw
          have hqq := RdI_below hq16 hbw
          have HQ := Lib.hid hqq
          rcases RdI_below hm16 hbw with h9 | ⟨bm, om, rfl, hbm, hcm⟩
          · rw [h9] at hfl; simp at hfl; omega
          have x0 := hcm (k * 2) (by omega)
          have x1 := hcm (k * 2 + 1) (by omega)
          rw [hf0] at x0
          rw [hf1, ← Nat.add_assoc] at x1
          have HGw := Lib.hid (And.intro hgn hwn)
          have HRR := Lib.hid hrr
          have HRi := Lib.hid hRi
          have hR6 := HR.out.1
          clear hcm hf0 hf1 hgn hwn hrr hqq hRi hfl
          have hsh := shl_fact b hb
          have hpl := pow_lt b hb
          have hor := or64 c' (2 ^ b) (by omega) (by omega)
          generalize (2 ^ b : Nat) = pb at hsh hpl hor HGw
          have hk3 : (k : Int) < (N : Int) := by omega
          have hi3 : (i : Int) < (R.length : Int) := by omega
          go_wp2_with (at_builtin; refine stepSpreadI _ (by rfl) _ _ (by rfl) _ _ _ _ R (by rfl) (by rfl) rfl (by omega) (RdI_below HRR.out (Go.Joins.below_alloc1 _ _)) ?_; intro co cc w20 ho20 hb20)
          have hsz20 : wr.heap.size + 1 ≤ w20.heap.size := by have := hb20.size; rw [heapAlloc] at this; exact this
          have hbT : Below wr.heap.size wr w20 := (Go.Joins.below_alloc1 wr _).trans (hb20.mono (by rw [heapAlloc]; omega))
          obtain ⟨g, rfl, hgB, hg, hgc⟩ := own_first ho20 (by omega)
          rw [heapAlloc] at hgB
          have z0 := hgc i hi
          rw [HRi.out] at z0
          have zf := ownsInts_frozen ho20 (by omega) i
          have y0 := (hbT.cell (p := ⟨bm, om + k * 2, none⟩) hbm).trans x0
          have y1 := (hbT.cell (p := ⟨bm, om + k * 2 + 1, none⟩) hbm).trans x1
          have HO := Lib.hid ho20
          have HBT := Lib.hid hbT
          clear x0 x1 hgc ho20 hb20 hbT
          go_region
          have ho21 := ownsInts_set HO.out rfl i ((c' ||| pb : Nat) : Int)
          have hbS : Below wr.heap.size wr (w20.setCell ⟨g, i, none⟩ (.int .i64 ((c' ||| pb : Nat) : Int))).drew := (HBT.out.setCell (by show wr.heap.size ≤ g; omega) _).drew
          have hRd := RdI_owns (ownsInts_drew ho21)
          have hgG := RdI_below HQ.out hbS
          have hcc := capOf HO.out
          have hlen : (R.set i ((c' ||| pb : Nat) : Int)).length = R.length := List.length_set
          clear z0 zf y0 y1 ho21 HO hg hsz20
          generalize (w20.setCell ⟨g, i, none⟩ (.int .i64 ((c' ||| pb : Nat) : Int))).drew = W21 at hbS hRd hgG ⊢
          generalize hR2 : R.set i ((c' ||| pb : Nat) : Int) = R2 at hRd hlen HGw
          clear hR2
          go_wp2_with (go_at_call 6; refine (LightWinsI_any (some ⟨g, 0, none⟩) _ cc R2 ag _ cg G W21 hRd hlen HR.out.2.2 hcc hgG rfl HG.out.2.2 HG.out.2.1).mono ?_; rw [HGw.out.1, HGw.out.2]; rintro e w22 ⟨rfl, hb22⟩)
          go_roundw
          case rel => exact ⟨k + 1, by omega, by go_num, belowThen (belowThen hbw hbS) hb22⟩
          case measure => simp [intOf]; omega
        · have hkn : k = N := by omega
          subst hkn
          go_wp2_with fail
          go_meet
          exact ⟨RdI_below hg16 hbw, belowThen hT16 hbw⟩
    · rw [Bool.not_eq_true] at hgood
      rw [hgood]
      go_wp2_with fail
      go_meet
      exact ⟨hg16, hT16⟩
  case rest =>
  obtain ⟨hg2, hT⟩ := hcut
  clear hr16 hg16 hq16 hm16 hT16
  by_cases hplay : playB c G2 G2.length = true
  rotate_left
  · rw [Bool.not_eq_true] at hplay
    rw [hplay]
    go_wp2_with fail
    go_ret
    exact ⟨rfl, hT⟩
  obtain ⟨C, rfl, hC, hval, hnum, hls, hnext⟩ := play_facts c G2 G2.length hplay
  rw [hplay, hval, hls]
  have HNx := Lib.hid hnext
  have HLb := Lib.hid (fun j h => letters_byte (nextB G2 C) j h)
  have hsz := letters_size (nextB G2 C)
  have hsz7 := lettersP_size (nextB G2 C) 7
  have HFa := Lib.hid (fun x h => fndB_all G2 C x hC h)
  have HFs := Lib.hid (fun k x b h => fndB_succ G2 C k x b h)
  have hF0 : ∀ x, fndB G2 C 0 x = false := fun _ => rfl
  clear hval hls hnext hplay
  generalize numC G2 (C : Int) = num at *
  generalize hB : barL (nextB G2 C) 7 = BL at *
  generalize lettersP (nextB G2 C) 7 = S at *
  generalize fndB G2 C = F at *
  clear hB
  have hmk : (Instr.makeSlice 43 (.int .i64 8) (.int .i64 8)).run Try.prog wc = .ok (.slice (some ⟨wc.heap.size, 0, none⟩) 8 8) (wc.alloc (.cells (madeCells #[.bool false] 8) 4)) :=
    run_make_row' 43 4 (.bool false) 1 Try.underlying43 infoBool1 rfl .i64 .i64 8 (by omega) (by omega) wc
  have hc0 : ∀ x, x < 8 → (wc.alloc (.cells (madeCells #[.bool false] 8) 4)).cell? ⟨wc.heap.size, x, none⟩ = some (.bool (F 0 x)) := fun x hx => by
    rw [World.cell?_alloc_at _ _ _ _ rfl, hF0]
    exact made8 x hx
  have hf0 : ∀ x, (wc.alloc (.cells (madeCells #[.bool false] 8) 4)).frozen? ⟨wc.heap.size, x, none⟩ = false := fun x => World.frozen?_alloc_at _ _ _ _ rfl
  have HC0 := Lib.hid hc0
  have HF0 := Lib.hid hf0
  have hsW : (wc.alloc (.cells (madeCells #[.bool false] 8) 4)).heap.size = wc.heap.size + 1 := heapAlloc _ _
  have HT := Lib.hid (hT.trans ((Go.Joins.below_alloc1 wc (.cells (madeCells #[.bool false] 8) 4)).mono hT.size))
  have HG2w := Lib.hid (fun (W : World) (h : Below wc.heap.size (wc.alloc (.cells (madeCells #[.bool false] 8) 4)) W) => (by
    rcases hg2 with h9 | ⟨b1, o1, rfl, hl, hc⟩
    · exact .inl h9
    · refine .inr ⟨b1, o1, rfl, by have := h.size; omega, fun j hj => ?_⟩
      exact ((h.cell (p := ⟨b1, o1 + j, none⟩) hl).trans ((Go.Joins.below_alloc1 wc _).cell (p := ⟨b1, o1 + j, none⟩) hl)).trans (hc j hj) : RdI W a2 G2))
  have hTs := hT.size
  clear hc0 hf0 hF0 hT hg2
  generalize wc.alloc (.cells (madeCells #[.bool false] 8) 4) = W0 at *
  generalize wc.heap.size = g at *
  go_wp2_with fail
  clear hmk
  go_loopw [35] (fun i wr => ∃ k : Nat, k ≤ BL.length ∧ i = .int .i64 k ∧ (∀ x, x < 8 → wr.cell? ⟨g, x, none⟩ = some (.bool (F k x)) ∧ wr.frozen? ⟨g, x, none⟩ = false) ∧ Below g W0 wr) (fun i _ => BL.length - (intOf i).toNat)
  case atStart => exact ⟨0, Nat.zero_le _, rfl, fun x hx => ⟨HC0.out x hx, HF0.out x⟩, Below.refl _ _⟩
  case round =>
    obtain ⟨k, hk, rfl, hcl, hbw⟩ := hrel
    have HCl := Lib.hid hcl
    clear hcl
    have hwrs := hbw.size
    by_cases hlt : k < BL.length
    · have hks : k < S.size := by omega
      obtain ⟨b, hb, hnb, hbl, hby⟩ := HLb.out k hks
      obtain ⟨hp1, hv1, hn8, hne⟩ := HNx.out b hb hnb
      have HFk := Lib.hid (fun x => HFs.out k x b hbl)
      have HCN := Lib.hid (fun W h => by have h9 := CellNumberI_any ((C ||| 2 ^ b : Nat) : Int) a2 G2.length c2 G2 W h rfl HG2.out.2.2 HG2.out.2.1; rw [hp1, hv1] at h9; exact h9 : ∀ W, RdI W a2 G2 → Calls Try.prog 12 #[.int .i64 ((C ||| 2 ^ b : Nat) : Int), .slice a2 G2.length c2] W fun e w' => e = .returned (.tuple #[.int .i64 (numC G2 ((C ||| 2 ^ b : Nat) : Int) : Nat), .bool true]) ∧ Below W.heap.size W w')
      have hsh := shl_fact b hb
      have hpl := pow_lt b hb
      have hor := or64 C (2 ^ b) (by omega) (by omega)
      generalize numC G2 ((C ||| 2 ^ b : Nat) : Int) = nx at *
      generalize (2 ^ b : Nat) = pb at hsh hpl hor HCN
      clear hp1 hv1 hnb hbl
      have hnx := (HCl.out nx hn8).1
      have hnf := (HCl.out nx hn8).2
      have hgw : g < wr.heap.size := by omega
      have hks3 : (k : Int) < (S.size : Int) := by omega
      have hnei : ((nx : Int) == (num : Int)) = false := by simp <;> omega
      have hn0 : ¬ ((nx : Int) < 0) := by omega
      have hn7 : ¬ ((7 : Int) < (nx : Int)) := by omega
      have hn83 : (nx : Int) < 8 := by omega
      have hgr := HG2w.out wr hbw
      go_wp2_with (go_at_call 12; refine (HCN.out _ hgr).mono ?_; rintro e w31 ⟨rfl, hb31⟩; have hz := (hb31.cell (p := ⟨g, nx, none⟩) hgw).trans hnx; have hzf := (hb31.frozen (p := ⟨g, nx, none⟩) hgw).trans hnf)
      go_roundw
      case rel =>
        refine ⟨k + 1, by omega, by go_num, fun x hx => ⟨?_, ?_⟩, (hbw.trans (hb31.mono (by omega))).setCell (Nat.le_refl _) _⟩
        · rw [HFk.out x]
          by_cases hxn : x = nx
          · subst hxn
            rw [World.cell?_setCell_same _ _ _ hz]
            simp
          · rw [World.cell?_setCell_other _ _ _ _ (by simp <;> omega), (hb31.cell (p := ⟨g, x, none⟩) hgw), (HCl.out x hx).1]
            have : (nx == x) = false := by simp <;> omega
            rw [this, Bool.or_false]
        · rw [World.frozen?_setCell, (hb31.frozen (p := ⟨g, x, none⟩) hgw), (HCl.out x hx).2]
      case measure => simp [intOf]; omega
    · have hkn : k = BL.length := by omega
      subst hkn
      have hBf : Below w.heap.size w wr := HT.out.trans (hbw.mono hTs)
      have hgw : g < wr.heap.size := by omega
      clear hbw
      go_wp2_with fail
      go_loop [38] (fun i => ∃ j : Nat, j ≤ num ∧ i = .int .i64 j) (fun i => num - (intOf i).toNat)
      case atStart => exact ⟨0, Nat.zero_le _, rfl⟩
      case round =>
        obtain ⟨j, hj, rfl⟩ := hrel
        by_cases hjn : j < num
        · have hx := (HCl.out j (by omega)).1
          rw [HFa.out j hjn] at hx
          have hj3 : (j : Int) < (num : Int) := by omega
          have hj8 : (j : Int) < 8 := by omega
          go_wp2_with fail
          go_round
          case rel => exact ⟨j + 1, by omega, by go_num⟩
          case measure => simp [intOf]; omega
        · have hjn2 : j = num := by omega
          subst hjn2
          go_wp2_with fail
          go_ret
          exact ⟨rfl, hBf⟩
end Go.Proofs.Ytpcmlfohblglaab
namespace Go.Proofs.Ytpcmlfohblglaab.fnLighting
open Go.ChangeShapes Go.WideShapes Go.ChangeAt Go.RowKit Go.Joins
open Go.ChangeMaps (open_string shut_string)
set_option linter.unusedVariables false
theorem own : ownKnob Try.prog.godebug = none := by kernel_rfl
theorem laidOut : laidOutB Try.prog = true := by kernel_rfl
set_option maxRecDepth 100000 in
theorem lifted (os : Os) (started : os.Started) (H : Type) (enc : TypeId × Value → H) :
    ReturnsInHanded {} Try.checked os 3 .any (Rows.fnLightingSpec.pre6 enc Try.prog Try.f3 Rows.fnLightingRow.domain false) (Rows.fnLightingSpec.post enc Try.prog Try.f3 false true false false) := by
  refine returnsInHanded_of_change (C := Try.checked) own started (by kernel_rfl) Try.func3
    (ChangeSpec.witness6 (enc := enc) (C := Try.checked) false ⟨#[], #[.slice none 0 0], []⟩ 8 (by kernel_rfl) (by kernel_rfl) (by kernel_rfl) (by kernel_rfl)) ?_
  intro W base args ds gs before hval0 hW hcnd _
  have hval : ∀ (j : Nat) t v, Try.f3.params[j]? = some t → args[j]? = some v → Value.okWide Try.prog W .any base t v := hval0
  have hW' := hW
  obtain ⟨p, q, hA0, hV, rfl, hfz, hnd⟩ := hW
  have hA : DataW.TrodAll enc Try.prog W 0 (fun _ => true) true Try.f3.params.toList args.toList ds p := hA0
  rw [Try.params3] at hA hval
  obtain ⟨v0, vs0, d0, ds0, p0, q0, hargs, rfl, rfl, h0, r0⟩ := trodAll_cons hA
  obtain ⟨rfl, rfl, rfl⟩ := trodAll_nil r0
  obtain rfl : args = #[v0] := by cases args; simp_all
  obtain ⟨rfl, rfl⟩ := trodVars_none hV
  have k0 := h0
  have lt0 : ∀ x ∈ p0, x.block < W.heap.size := by obtain ⟨m, hm⟩ := k0; exact DataW.trod_lt m _ _ _ hm
  obtain ⟨a0, len0, cap0, rfl⟩ := okWide_slice Try.underlying22 (hval 0 22 v0 rfl rfl)
  obtain ⟨z0, w0⟩ : ∃ zs, RowIn .u8 W a0 len0 cap0 zs := by
    obtain ⟨fuel, hf⟩ := h0
    rcases open_ints Try.underlying22 Try.underlying5 (by kernel_rfl) hf with ⟨hcs, _⟩ | ⟨x, l, c, zs, hcs, _, hl, hm, hz, _, hcell, hwz⟩
    · simp [Value.cells] at hcs
      obtain ⟨rfl, rfl, rfl⟩ := hcs
      exact ⟨[], .inl ⟨rfl, rfl, rfl, rfl⟩⟩
    · simp [Value.cells] at hcs
      obtain ⟨rfl, rfl, rfl⟩ := hcs
      exact ⟨zs, .inr ⟨_, rfl, hl, hm, by simpa using hz, hcell, hwz⟩⟩
  clear hA0 hval0
  refine (fnLighting_walk a0 len0 cap0 z0 W w0).mono fun e W' ⟨he, bel⟩ => ?_
  subst he
  exact ⟨_, rfl, _, _, _, [], _, [], hW', trodAll_mk1 (shut_bool Try.underlying4 _), (trodAll_cons_mk (Below.trod laidOut (by kernel_rfl) (of_decide_eq_true (by kernel_rfl)) k0 bel lt0) trodAll_mk0), rfl, bel.frame _, fun h => by cases h⟩
theorem over : Rows.fnLightingRow.holds Try.pinned (OpenSpec.ofChange Rows.fnLightingSpec) :=
  OpenClaim.holds_of_wide 3 Try.f3 rfl rfl rfl rfl rfl rfl rfl ⟨rfl, rfl, rfl, rfl, rfl⟩ rfl rfl rfl rfl rfl (by kernel_rfl) Try.func3 (by kernel_rfl)
    (of_decide_eq_true (by kernel_rfl)) (by unfold Func.isWrapper; first | (rw [if_pos (by decide +kernel)]; kernel_rfl) | (rw [if_neg (by decide +kernel)]; exact ⟨rfl, rfl⟩))
    (fun os started H enc _ => lifted os started H enc)
theorem proved : Rows.FnLightingSaid := over
end Go.Proofs.Ytpcmlfohblglaab.fnLighting
