/- The contract of the program's function that plays the game. -/
import Derived.Test.YtincekchaolebaaPlayG
import Derived.Lib.Hide
import Derived.Deep.LoopGhost
import Derived.OwnWalk
import Derived.BigRegion
namespace Go.Proofs.Ytincekchaolebaa
open Go.RowKit

theorem movN_sub (R L : List Int) (m : Nat) : movN R L true m ≤ movN R L false m := by
  induction m with
  | zero => exact Nat.le_refl _
  | succ m ih =>
    unfold movN
    have h : movQ R L true (m / 7) (m % 7) = true → movQ R L false (m / 7) (m % 7) = true := by
      unfold movQ
      simp only [Bool.and_eq_true, Bool.not_true, Bool.false_or, Bool.not_false, Bool.true_or, and_true]
      exact fun h => h.1
    by_cases h1 : movQ R L true (m / 7) (m % 7) = true
    · rw [if_pos h1, if_pos (h h1)]; omega
    · rw [if_neg h1]; split <;> omega
theorem pairs_head {W : World} {B : Nat} {ao : Option Addr} {c N : Nat} {F : List Int} (hN : N ≠ 0) (h : ownsPairs W B (.slice ao N c) N F) :
    ∃ gm, ao = some ⟨gm, 0, none⟩ ∧ gm < W.heap.size ∧ W.cell? ⟨gm, 0, none⟩ = some (.int .i64 (F.getD 0 0)) ∧ W.cell? ⟨gm, 1, none⟩ = some (.int .i64 (F.getD 1 0)) := by
  obtain ⟨ca', cca', he, h0' | ⟨gm, rfl, hBm, hgm, _, hcm, _⟩⟩ := ownsPairs_shape h
  · omega
  simp only [Value.slice.injEq] at he
  obtain ⟨rfl, -, -⟩ := he
  exact ⟨gm, rfl, hgm, hcm 0 (by omega), hcm 1 (by omega)⟩
set_option maxHeartbeats 3200000 in
set_option maxRecDepth 100000 in
theorem PlayGameI_any (ad : Addr) (n cap : Nat) (R : List Int) (bo : Option Addr) (m capL : Nat) (L : List Int) (w : World) (hr : RdI w (some ad) R) (hn : R.length = n) (hm : n ≤ maxLen) (hcap : n ≤ cap) (hrL : RdI w bo L) (hnL : L.length = m) (hmL : m ≤ maxLen) (hcapL : m ≤ capL) :
    Calls Try.prog 44 #[.slice (some ad) n cap, .slice bo m capL] w (RetPairsIB (gameN R L m) (gameF R L m) ((gameN R L m % 2 : Nat) : Int) (goodRow R L m) w) := by
  have HG := Lib.hid (fun W h h2 => isPlayableRow_any (some ad) n cap R bo m capL L W h hn hm hcap h2 hnL hmL hcapL)
  have hdig := goodRow_dig (R := R) (L := L) (m := m)
  have hok := goodRow_ok (R := R) (L := L) (m := m)
  have hrow := goodRow_row (R := R) (L := L) (m := m)
  have hlen := gameF_len R L m
  have hle := gameN_le R L m
  have hdef : goodRow R L m = true → gameF R L m = playG L 762 R := fun h => by unfold gameF; rw [if_pos h]
  have hdef0 : goodRow R L m = false → gameF R L m = [] ∧ gameN R L m = 0 := fun h => by simp [gameN, gameF, h]
  have HN := Lib.hid hn
  have HNL := Lib.hid hnL
  generalize goodRow R L m = q at HG hdig hok hrow hdef hdef0 ⊢
  generalize gameF R L m = T at hlen hdef hdef0 ⊢
  generalize gameN R L m = t at hlen hle hdef0 ⊢
  clear hnL
  rcases q with _ | _
  · obtain ⟨rfl, rfl⟩ := hdef0 rfl
    clear hdig hok hrow hdef hdef0 hn
    have hA1 := @cellAlloc; have hA2 := @frozenAlloc; have hA3 := @setCellAlloc; go_enter Try.func44, Try.ntmps44
    go_wp2_with (first | (go_at_call 73; refine (HG.out _ hr hrL).mono ?_; rintro e w1 ⟨rfl, hb1⟩))
    go_ret3
    exact ⟨_, _, rfl, ownsPairs_nil _ _, by (repeat (first | assumption | exact Below.refl _ _ | refine belowThen ?_ (Go.Joins.below_alloc1 _ _) | apply Below.drew | refine belowThen ?_ (by assumption) | refine belowThen ?_ (Go.Joins.below_draws _ _ _) | refine Below.setCell ?_ (by first | exact Nat.le_refl _ | (simp; done) | (simp; omega)) _))⟩
  · have hn6 := rowB_len (hrow rfl)
    rw [hn] at hn6
    have hok1 := hok rfl
    have hdigL := hdig rfl
    have HT := Lib.hid (fun W h => tableI_any mexI 65 bo m capL L W h HNL.out hmL hdigL enters_least (fun c vs bo cb W _ hl hv _ => (leastAbsent_any c bo vs.length cb vs W (RdI_of_V hv) rfl (by omega)).mono fun e w' h => ⟨h.1, by rw [← h.2]; exact Below.refl _ _⟩))
    have HO := Lib.hid (fun W h => Clone_any ad n cap R W h HN.out (by omega))
    have HM := Lib.hid (fun (co : Option Addr) (cc : Nat) (R' : List Int) (b : Nat) (W : World) (h1 : RdI W co R') (h2 : RdI W bo L) (h3 : R'.length = n) (h4 : rowOk R' L) (h5 : mapV W b 128 (.int .i64 0) (tabF L)) => moves_any co n cc R' bo m capL L b 128 W h1 h3 hn6 h4 h2 HNL.out hmL hdigL h5)
    have HD := Lib.hid (hdef rfl)
    have HLen := Lib.hid hlen
    have hmus := mus_le R
    rw [hn] at hmus
    clear hdig hok hrow hdef hdef0 hn hlen
    have hA1 := @cellAlloc; have hA2 := @frozenAlloc; have hA3 := @setCellAlloc; go_enter Try.func44, Try.ntmps44
    go_wp2_with (first | (go_at_call 73; refine (HG.out _ hr hrL).mono ?_; rintro e w1 ⟨rfl, hb1⟩) | (go_at_call 75; refine (HT.out _ (RdI_below hrL hb1)).mono ?_; rintro e w2 ⟨rfl, hmap, hb2⟩; have hB2 := belowThen hb1 hb2) | (go_at_call 80; refine (HO.out _ (RdI_below hr hB2)).mono ?_; rintro e w3 ⟨co, cc, rfl, hown, hb3⟩))
    have hrL2 := RdI_below hrL hB2
    have hmp := mapV_lt hmap
    have hsz3 := hb3.size
    have hszw := hB2.size
    generalize w1.heap.size = mb at hmap hmp ⊢
    have hrowb : n = 0 ∨ ∃ gr, co = some ⟨gr, 0, none⟩ ∧ w2.heap.size ≤ gr ∧ gr < w3.heap.size := by
      obtain ⟨ao', cap', he, hL | ⟨g', h3, hBg, hg', _⟩⟩ := ownsInts_shape (show ownsInts w3 w2.heap.size (.slice co R.length cc) R by rw [HN.out]; exact hown)
      · left; have := HN.out; rw [hL] at this; simpa using this.symm
      · simp only [Value.slice.injEq] at he
        exact .inr ⟨g', he.1.trans h3, hBg, hg'⟩
    have hstart : ∃ (R' F : List Int) (nF : Nat), R'.length = n ∧ rowOk R' L ∧ mus R' ≤ 762 ∧ nF + 762 ≤ 762 ∧ F ++ playG L 762 R' = T ∧ ownsPairs w3 w2.heap.size (.slice none 0 0) nF F ∧ (∀ k, (Value.slice none 0 0).ownBlock = some k → k < w3.heap.size ∧ w3.heap.size ≤ k) ∧ ownsInts w3 w2.heap.size (.slice co n cc) R' ∧ w3.heap.size ≤ w3.heap.size ∧ Below w2.heap.size w2 w3 :=
      ⟨R, [], 0, HN.out, hok1, by omega, by omega, HD.out.symm, ownsPairs_nil _ _, fun k hk => by simp [Value.ownBlock] at hk, hown, Nat.le_refl _, hb3⟩
    clear hown hok1 hmus hb1 hb2 hb3
    go_loopg [9] 762 (fun gk v wr => ∃ (R' F : List Int) (nF : Nat), R'.length = n ∧ rowOk R' L ∧ mus R' ≤ gk ∧ nF + gk ≤ 762 ∧ F ++ playG L gk R' = T ∧ ownsPairs wr w2.heap.size v nF F ∧ (∀ k, v.ownBlock = some k → k < wr.heap.size ∧ w3.heap.size ≤ k) ∧ ownsInts wr w2.heap.size (.slice co n cc) R' ∧ w3.heap.size ≤ wr.heap.size ∧ Below w2.heap.size w2 wr)
    case atStart => exact hstart
    case round =>
      obtain ⟨R', F, nF, hl, hok', hmu, hnf, hF, hownF, hsepF, hownR, hszr, hbw⟩ := hrel
      clear hstart
      have hlF := ownsPairs_len hownF
      have HX := Lib.hid (HM.out co cc R' mb wr (RdI_owns hownR) (RdI_below hrL2 hbw) hl hok' (mapV_below hmap hbw))
      have hsub := movN_sub R' L (n * 7)
      by_cases h00 : movN R' L false (n * 7) = 0
      · have h0 : movN R' L true (n * 7) = 0 := by omega
        have hpN : pickN R' L = 0 := by unfold pickN; rw [hl, if_pos h0]; exact h00
        rw [h00, h0] at HX
        rw [playG_stop L R' gk hpN, List.append_nil] at hF
        subst hF
        have hnt : nF = t := by have := HLen.out; omega
        subst hnt
        generalize movF R' L true (n * 7) = F1 at HX
        generalize movF R' L false (n * 7) = F2 at HX
        clear hpN hok' hl h0 h00 HD hsub
        obtain ⟨oo, oc, rfl, -⟩ := ownsPairs_shape hownF
        go_wp2_with (first | (go_at_call 77; refine HX.out.mono ?_; rintro e w5 ⟨ca, cca, cw, ccw, rfl, hma, hmw, hb5⟩))
        go_ret3
        exact ⟨oo, oc, rfl, ownsPairs_below hownF hb5 (by omega), hB2.trans ((hbw.mono (by omega)).trans (hb5.mono (by omega)))⟩
      · by_cases h0 : movN R' L true (n * 7) = 0
        · have hpN : pickN R' L = movN R' L false (n * 7) := by unfold pickN; rw [hl, if_pos h0]
          have hpF : pickF R' L = movF R' L false (n * 7) := by unfold pickF; rw [hl, if_pos h0]
          have hne : pickN R' L ≠ 0 := by rw [hpN]; exact h00
          obtain ⟨i, b, C, hi, hb, hC, hCe, e0, e1, hl2, en, hok2, hmu2, hlen2⟩ := pick_facts hok' hne
          rw [hpF] at e0 e1
          have hgk : 0 < gk := by omega
          have hstep : playG L gk R' = (i : Int) :: (b : Int) :: playG L (gk - 1) (nextR R' L) := by
            obtain ⟨gq, rfl⟩ : ∃ gq, gk = gq + 1 := ⟨gk - 1, by omega⟩
            show (if pickN R' L = 0 then _ else _) = _
            rw [if_neg hne, hpF, e0, e1]; rfl
          rw [hstep] at hF
          have HF2 := Lib.hid hF
          rw [en] at hok2 hmu2 hlen2 hF
          have HOk2 := Lib.hid hok2
          have HEn := Lib.hid en
          obtain ⟨gr, hco, hgr1, hgr2⟩ := hrowb.resolve_left (by omega)
          subst hco
          clear hok2 hok' hstep hF hpF hpN hsub
          have HE0 := Lib.hid e0
          have HE1 := Lib.hid e1
          clear e0 e1
          rw [h0] at HX
          generalize movF R' L true (n * 7) = FW at HX
          generalize movF R' L false (n * 7) = FA at HX HE0 HE1
          have hNle : movN R' L false (n * 7) ≤ n * 7 := movN_le _ _ _ _
          generalize movN R' L false (n * 7) = NA at HX h00 hNle hne
          clear h0
          have hN1 : (0 : Int) < (NA : Int) := by omega
          have hN3 : ((NA : Int) == 0) = false := by simp; omega
          have hm1 := shl_fact b hb
          have hm2 := pow_lt b hb
          have hor := or64 C (2 ^ b) (by omega) (by omega)
          generalize C ||| 2 ^ b = X at hor hl2 hmu2 hlen2 HOk2 HEn
          generalize (2 ^ b : Nat) = mm at hm1 hm2 hor
          have hin : (i : Int) < (n : Int) := by omega
          go_wp2_with (first | (go_at_call 77; refine HX.out.mono ?_; rintro e w5 ⟨ca, cca, cw, ccw, rfl, hma, hmw, hb5⟩; obtain ⟨ga, rfl, hga, a0, a1⟩ := pairs_head h00 hma; rw [HE0.out] at a0; rw [HE1.out] at a1))
          have hrow6 := ownsInts_below (ownsInts_below hownR hb5 (Nat.le_refl _)) (Go.Joins.below_alloc1 w5 (.cells #[.int .i64 (i : Int), .int .i64 (b : Int)] 64)) (Nat.le_refl _)
          have hown6 := ownsPairs_below (ownsPairs_below hownF hb5 (Nat.le_refl _)) (Go.Joins.below_alloc1 w5 (.cells #[.int .i64 (i : Int), .int .i64 (b : Int)] 64)) (Nat.le_refl _)
          have hbox := pairBox w5 (i : Int) (b : Int) 64
          have hbw6 : Below w2.heap.size w2 (w5.alloc (.cells #[.int .i64 (i : Int), .int .i64 (b : Int)] 64)) := (hbw.trans (hb5.mono (by have := hbw.size; omega))).trans ((Go.Joins.below_alloc1 w5 _).mono (by have := hbw.size; have := hb5.size; omega))
          have hs6 : (w5.alloc (.cells #[.int .i64 (i : Int), .int .i64 (b : Int)] 64)).heap.size = w5.heap.size + 1 := heapAlloc _ _
          have hs5 := hb5.size
          generalize w5.alloc (.cells #[.int .i64 (i : Int), .int .i64 (b : Int)] 64) = w6 at hrow6 hown6 hbox hbw6 hs6 ⊢
          have c0 := hbox.cell (i := 0) (by omega)
          have c1 := hbox.cell (i := 1) (by omega)
          rw [if_pos rfl] at c0
          rw [if_neg (by decide)] at c1
          generalize hmvb : w5.heap.size = mvb at c0 c1 hbox hs6 hs5 ⊢
          obtain ⟨ao6, cap6, he6, h06 | ⟨g6, hg6, hBg6, hglt6, _, hc6⟩⟩ := ownsInts_shape hrow6
          · rw [h06] at hl; simp at hl; omega
          simp only [Value.slice.injEq] at he6
          obtain ⟨he6, -, -⟩ := he6
          rw [hg6] at he6
          simp only [Option.some.injEq, Addr.mk.injEq] at he6
          obtain ⟨rfl, -⟩ := he6
          have hx6 := hc6 i (by rw [hl]; omega)
          rw [hCe] at hx6
          have hfr6 := ownsInts_frozen hrow6 (by rw [hl]; omega) i
          clear hc6 hg6 hbox hownR hownF
          go_region
          have hq := fun k (hk : k ≠ gr) => Below.heap_setCell w6 ⟨gr, i, none⟩ (.int .i64 (X : Int)) k (by first | exact hk | exact Ne.symm hk | (show _ ≠ _; omega))
          have n0 : (w6.setCell ⟨gr, i, none⟩ (.int .i64 (X : Int))).drew.cell? ⟨mvb, 0, none⟩ = some (.int .i64 (i : Int)) := (World.cell?_of_block (a := ⟨mvb, 0, none⟩) (hq mvb (by omega))).trans c0
          have n1 : (w6.setCell ⟨gr, i, none⟩ (.int .i64 (X : Int))).drew.cell? ⟨mvb, 1, none⟩ = some (.int .i64 (b : Int)) := (World.cell?_of_block (a := ⟨mvb, 1, none⟩) (hq mvb (by omega))).trans c1
          have hown7 := ownsPairs_below (C := w2.heap.size) (show ownsPairs (w6.setCell ⟨gr, i, none⟩ (.int .i64 (X : Int))) w2.heap.size _ _ _ from ownsG_keepB hown6 (fun k hk hkb => hq k (by have := (hsepF k hkb).2; omega))) ((Below.refl _ _).drew) (Nat.le_refl _)
          have hrow7 := ownsInts_below (C := w2.heap.size) (ownsInts_set hrow6 hl i (X : Int)) ((Below.refl _ _).drew) (Nat.le_refl _)
          have hbw7 : Below w2.heap.size w2 (w6.setCell ⟨gr, i, none⟩ (.int .i64 (X : Int))).drew := Below.drew (hbw6.setCell (by show w2.heap.size ≤ gr; omega) _)
          have hs7 : (w6.setCell ⟨gr, i, none⟩ (.int .i64 (X : Int))).drew.heap.size = w6.heap.size := heapSet _ _ _
          clear hrow6 hown6 c0 c1 hx6 hfr6 hq
          generalize (w6.setCell ⟨gr, i, none⟩ (.int .i64 (X : Int))).drew = w7 at n0 n1 hown7 hrow7 hbw7 hs7 ⊢
          have HS7 := Lib.hid hs7
          clear hs7
          go_wp2_with (first | (at_builtin; go_must (refine wpAppendPair2 w7 (by rfl) _ _ (by rfl) w2.heap.size _ nF F (by rfl) hown7 _ _ 64 (by rfl) (by omega) hbw7.size ?_; intro oo oc w8 hown8 hb8 hkeep8 hnew8)))
          go_roundg (gk - 1)
          case measure => omega
          case rel =>
            have hs8 := hb8.size
            have hs7 := HS7.out
            refine ⟨R'.set i (X : Int), F ++ [(i : Int), (b : Int)], nF + 1, hlen2.trans hl, HOk2.out, by omega, by omega, by rw [← HF2.out, HEn.out]; simp, hown8, ?_, ?_, by omega, hbw7.trans hb8⟩
            · intro k hk
              refine ⟨(hnew8 k hk).1, ?_⟩
              rcases (hnew8 k hk).2 with h4 | h4
              · exact (hsepF k h4).2
              · omega
            · exact ownsG_keepB hrow7 (fun k hk hkb => hkeep8 k hk (fun hc => by have h3 := (hsepF k hc).2; simp only [Value.ownBlock, Option.some.injEq] at hkb; omega))
        · have hpN : pickN R' L = movN R' L true (n * 7) := by unfold pickN; rw [hl, if_neg h0]
          have hpF : pickF R' L = movF R' L true (n * 7) := by unfold pickF; rw [hl, if_neg h0]
          have hne : pickN R' L ≠ 0 := by rw [hpN]; exact h0
          obtain ⟨i, b, C, hi, hb, hC, hCe, e0, e1, hl2, en, hok2, hmu2, hlen2⟩ := pick_facts hok' hne
          rw [hpF] at e0 e1
          have hgk : 0 < gk := by omega
          have hstep : playG L gk R' = (i : Int) :: (b : Int) :: playG L (gk - 1) (nextR R' L) := by
            obtain ⟨gq, rfl⟩ : ∃ gq, gk = gq + 1 := ⟨gk - 1, by omega⟩
            show (if pickN R' L = 0 then _ else _) = _
            rw [if_neg hne, hpF, e0, e1]; rfl
          rw [hstep] at hF
          have HF2 := Lib.hid hF
          rw [en] at hok2 hmu2 hlen2 hF
          have HOk2 := Lib.hid hok2
          have HEn := Lib.hid en
          obtain ⟨gr, hco, hgr1, hgr2⟩ := hrowb.resolve_left (by omega)
          subst hco
          clear hok2 hok' hstep hF hpF hpN hsub
          have HE0 := Lib.hid e0
          have HE1 := Lib.hid e1
          clear e0 e1
          generalize movF R' L true (n * 7) = FW at HX HE0 HE1
          generalize movF R' L false (n * 7) = FA at HX
          have hNle : movN R' L true (n * 7) ≤ n * 7 := movN_le _ _ _ _
          have hNle2 : movN R' L false (n * 7) ≤ n * 7 := movN_le _ _ _ _
          generalize movN R' L true (n * 7) = NW at HX h0 hNle hne
          generalize movN R' L false (n * 7) = NA at HX h00 hNle2
          have hN1 : (0 : Int) < (NA : Int) := by omega
          have hN2 : (0 : Int) < (NW : Int) := by omega
          have hN3 : ((NA : Int) == 0) = false := by simp; omega
          have hm1 := shl_fact b hb
          have hm2 := pow_lt b hb
          have hor := or64 C (2 ^ b) (by omega) (by omega)
          generalize C ||| 2 ^ b = X at hor hl2 hmu2 hlen2 HOk2 HEn
          generalize (2 ^ b : Nat) = mm at hm1 hm2 hor
          have hin : (i : Int) < (n : Int) := by omega
          go_wp2_with (first | (go_at_call 77; refine HX.out.mono ?_; rintro e w5 ⟨ca, cca, cw, ccw, rfl, hma, hmw, hb5⟩; obtain ⟨ga, rfl, hga, a0, a1⟩ := pairs_head h00 hma; obtain ⟨gw, rfl, hgw, b0, b1⟩ := pairs_head h0 hmw; rw [HE0.out] at b0; rw [HE1.out] at b1; generalize FA.getD 0 0 = x0 at a0; generalize FA.getD 1 0 = x1 at a1))
          have hrow6 := ownsInts_below (ownsInts_below hownR hb5 (Nat.le_refl _)) (Go.Joins.below_alloc1 w5 (.cells #[.int .i64 (i : Int), .int .i64 (b : Int)] 64)) (Nat.le_refl _)
          have hown6 := ownsPairs_below (ownsPairs_below hownF hb5 (Nat.le_refl _)) (Go.Joins.below_alloc1 w5 (.cells #[.int .i64 (i : Int), .int .i64 (b : Int)] 64)) (Nat.le_refl _)
          have hbox := pairBox w5 (i : Int) (b : Int) 64
          have hbw6 : Below w2.heap.size w2 (w5.alloc (.cells #[.int .i64 (i : Int), .int .i64 (b : Int)] 64)) := (hbw.trans (hb5.mono (by have := hbw.size; omega))).trans ((Go.Joins.below_alloc1 w5 _).mono (by have := hbw.size; have := hb5.size; omega))
          have hs6 : (w5.alloc (.cells #[.int .i64 (i : Int), .int .i64 (b : Int)] 64)).heap.size = w5.heap.size + 1 := heapAlloc _ _
          have hs5 := hb5.size
          generalize w5.alloc (.cells #[.int .i64 (i : Int), .int .i64 (b : Int)] 64) = w6 at hrow6 hown6 hbox hbw6 hs6 ⊢
          have c0 := hbox.cell (i := 0) (by omega)
          have c1 := hbox.cell (i := 1) (by omega)
          rw [if_pos rfl] at c0
          rw [if_neg (by decide)] at c1
          generalize hmvb : w5.heap.size = mvb at c0 c1 hbox hs6 hs5 ⊢
          obtain ⟨ao6, cap6, he6, h06 | ⟨g6, hg6, hBg6, hglt6, _, hc6⟩⟩ := ownsInts_shape hrow6
          · rw [h06] at hl; simp at hl; omega
          simp only [Value.slice.injEq] at he6
          obtain ⟨he6, -, -⟩ := he6
          rw [hg6] at he6
          simp only [Option.some.injEq, Addr.mk.injEq] at he6
          obtain ⟨rfl, -⟩ := he6
          have hx6 := hc6 i (by rw [hl]; omega)
          rw [hCe] at hx6
          have hfr6 := ownsInts_frozen hrow6 (by rw [hl]; omega) i
          clear hc6 hg6 hbox hownR hownF
          go_region
          have hq := fun k (hk : k ≠ gr) => Below.heap_setCell w6 ⟨gr, i, none⟩ (.int .i64 (X : Int)) k (by first | exact hk | exact Ne.symm hk | (show _ ≠ _; omega))
          have n0 : (w6.setCell ⟨gr, i, none⟩ (.int .i64 (X : Int))).drew.cell? ⟨mvb, 0, none⟩ = some (.int .i64 (i : Int)) := (World.cell?_of_block (a := ⟨mvb, 0, none⟩) (hq mvb (by omega))).trans c0
          have n1 : (w6.setCell ⟨gr, i, none⟩ (.int .i64 (X : Int))).drew.cell? ⟨mvb, 1, none⟩ = some (.int .i64 (b : Int)) := (World.cell?_of_block (a := ⟨mvb, 1, none⟩) (hq mvb (by omega))).trans c1
          have hown7 := ownsPairs_below (C := w2.heap.size) (show ownsPairs (w6.setCell ⟨gr, i, none⟩ (.int .i64 (X : Int))) w2.heap.size _ _ _ from ownsG_keepB hown6 (fun k hk hkb => hq k (by have := (hsepF k hkb).2; omega))) ((Below.refl _ _).drew) (Nat.le_refl _)
          have hrow7 := ownsInts_below (C := w2.heap.size) (ownsInts_set hrow6 hl i (X : Int)) ((Below.refl _ _).drew) (Nat.le_refl _)
          have hbw7 : Below w2.heap.size w2 (w6.setCell ⟨gr, i, none⟩ (.int .i64 (X : Int))).drew := Below.drew (hbw6.setCell (by show w2.heap.size ≤ gr; omega) _)
          have hs7 : (w6.setCell ⟨gr, i, none⟩ (.int .i64 (X : Int))).drew.heap.size = w6.heap.size := heapSet _ _ _
          clear hrow6 hown6 c0 c1 hx6 hfr6 hq
          generalize (w6.setCell ⟨gr, i, none⟩ (.int .i64 (X : Int))).drew = w7 at n0 n1 hown7 hrow7 hbw7 hs7 ⊢
          have HS7 := Lib.hid hs7
          clear hs7
          go_wp2_with (first | (at_builtin; go_must (refine wpAppendPair2 w7 (by rfl) _ _ (by rfl) w2.heap.size _ nF F (by rfl) hown7 _ _ 64 (by rfl) (by omega) hbw7.size ?_; intro oo oc w8 hown8 hb8 hkeep8 hnew8)))
          go_roundg (gk - 1)
          case measure => omega
          case rel =>
            have hs8 := hb8.size
            have hs7 := HS7.out
            refine ⟨R'.set i (X : Int), F ++ [(i : Int), (b : Int)], nF + 1, hlen2.trans hl, HOk2.out, by omega, by omega, by rw [← HF2.out, HEn.out]; simp, hown8, ?_, ?_, by omega, hbw7.trans hb8⟩
            · intro k hk
              refine ⟨(hnew8 k hk).1, ?_⟩
              rcases (hnew8 k hk).2 with h4 | h4
              · exact (hsepF k h4).2
              · omega
            · exact ownsG_keepB hrow7 (fun k hk hkb => hkeep8 k hk (fun hc => by have h3 := (hsepF k hc).2; simp only [Value.ownBlock, Option.some.injEq] at hkb; omega))
end Go.Proofs.Ytincekchaolebaa
