/- Joined texts: PlayI, NumW, TabC. -/
import Derived.Test.YtcddfpbohejhhaaGreatMg15
import Derived.Lib.Hide
import Derived.Deep.LoopGhost
import Derived.OwnWalk
import Derived.BigRegion
import Derived.Test.YtcddfpbohejhhaaGreatMg02
import Derived.Test.YtcddfpbohejhhaaGreatMg03
import Derived.Test.YtcddfpbohejhhaaGreatMg11
import Derived.Deep.WholeRow
import Derived.Deep.QuietTactic
import Derived.BigQuiet
import Derived.Test.YtcddfpbohejhhaaGreatMg05
namespace Go.Proofs.YtcddfpbohejhhaaGreat
open Go.RowKit

theorem movN_sub (R L : List Int) (m : Nat) : movN R L true m ≤ movN R L false m := by
  induction m with
  | zero => exact Nat.le_refl _
  | succ m ih =>
    unfold movN
    have h : movQ R L true (m / 7) (m % 7) = true → movQ R L false (m / 7) (m % 7) = true := by
      unfold movQ
      simp only [Bool.and_eq_true, Bool.not_true, Bool.false_or, Bool.not_false, Bool.true_or, and_true]
      exact fun h => h.1
    by_cases h1 : movQ R L true (m / 7) (m % 7) = true
    · rw [if_pos h1, if_pos (h h1)]; omega
    · rw [if_neg h1]; split <;> omega
theorem pairs_head {W : World} {B : Nat} {ao : Option Addr} {c N : Nat} {F : List Int} (hN : N ≠ 0) (h : ownsPairs W B (.slice ao N c) N F) :
    ∃ gm, ao = some ⟨gm, 0, none⟩ ∧ gm < W.heap.size ∧ W.cell? ⟨gm, 0, none⟩ = some (.int .i64 (F.getD 0 0)) ∧ W.cell? ⟨gm, 1, none⟩ = some (.int .i64 (F.getD 1 0)) := by
  obtain ⟨ca', cca', he, h0' | ⟨gm, rfl, hBm, hgm, _, hcm, _⟩⟩ := ownsPairs_shape h
  · omega
  simp only [Value.slice.injEq] at he
  obtain ⟨rfl, -, -⟩ := he
  exact ⟨gm, rfl, hgm, hcm 0 (by omega), hcm 1 (by omega)⟩
set_option maxHeartbeats 3200000 in
set_option maxRecDepth 100000 in
theorem PlayGameI_any (ad : Addr) (n cap : Nat) (R : List Int) (bo : Option Addr) (m capL : Nat) (L : List Int) (w : World) (hr : RdI w (some ad) R) (hn : R.length = n) (hm : n ≤ maxLen) (hcap : n ≤ cap) (hrL : RdI w bo L) (hnL : L.length = m) (hmL : m ≤ maxLen) (hcapL : m ≤ capL) :
    Calls Tryz.prog 20 #[.slice (some ad) n cap, .slice bo m capL] w (RetPairsIB (gameN R L m) (gameF R L m) ((gameN R L m % 2 : Nat) : Int) (goodRow R L m) w) := by
  have HG := Lib.hid (fun W h h2 => isPlayableRow_any (some ad) n cap R bo m capL L W h hn hm hcap h2 hnL hmL hcapL)
  have hdig := goodRow_dig (R := R) (L := L) (m := m)
  have hok := goodRow_ok (R := R) (L := L) (m := m)
  have hrow := goodRow_row (R := R) (L := L) (m := m)
  have hlen := gameF_len R L m
  have hle := gameN_le R L m
  have hdef : goodRow R L m = true → gameF R L m = playG L 762 R := fun h => by unfold gameF; rw [if_pos h]
  have hdef0 : goodRow R L m = false → gameF R L m = [] ∧ gameN R L m = 0 := fun h => by simp [gameN, gameF, h]
  have HN := Lib.hid hn
  have HNL := Lib.hid hnL
  generalize goodRow R L m = q at HG hdig hok hrow hdef hdef0 ⊢
  generalize gameF R L m = T at hlen hdef hdef0 ⊢
  generalize gameN R L m = t at hlen hle hdef0 ⊢
  clear hnL
  rcases q with _ | _
  · obtain ⟨rfl, rfl⟩ := hdef0 rfl
    clear hdig hok hrow hdef hdef0 hn
    have hA1 := @cellAlloc; have hA2 := @frozenAlloc; have hA3 := @setCellAlloc; go_enter Tryz.func20, Tryz.ntmps20
    go_wp2_with (first | (go_at_call 51; refine (HG.out _ hr hrL).mono ?_; rintro e w1 ⟨rfl, hb1⟩))
    go_ret3
    exact ⟨_, _, rfl, ownsPairs_nil _ _, by (repeat (first | assumption | exact Below.refl _ _ | refine belowThen ?_ (Go.Joins.below_alloc1 _ _) | apply Below.drew | refine belowThen ?_ (by assumption) | refine belowThen ?_ (Go.Joins.below_draws _ _ _) | refine Below.setCell ?_ (by first | exact Nat.le_refl _ | (simp; done) | (simp; omega)) _))⟩
  · have hn6 := rowB_len (hrow rfl)
    rw [hn] at hn6
    have hok1 := hok rfl
    have hdigL := hdig rfl
    have HT := Lib.hid (fun W h => tableI_any mexI 53 bo m capL L W h HNL.out hmL hdigL enters_least (fun c vs bo cb W _ hl hv _ => (leastAbsent_any c bo vs.length cb vs W (RdI_of_V hv) rfl (by omega)).mono fun e w' h => ⟨h.1, by rw [← h.2]; exact Below.refl _ _⟩))
    have HO := Lib.hid (fun W h => Clone_any ad n cap R W h HN.out (by omega))
    have HM := Lib.hid (fun (co : Option Addr) (cc : Nat) (R' : List Int) (b : Nat) (W : World) (h1 : RdI W co R') (h2 : RdI W bo L) (h3 : R'.length = n) (h4 : rowOk R' L) (h5 : mapV W b 128 (.int .i64 0) (tabF L)) => moves_any co n cc R' bo m capL L b 128 W h1 h3 hn6 h4 h2 HNL.out hmL hdigL h5)
    have HD := Lib.hid (hdef rfl)
    have HLen := Lib.hid hlen
    have hmus := mus_le R
    rw [hn] at hmus
    clear hdig hok hrow hdef hdef0 hn hlen
    have hA1 := @cellAlloc; have hA2 := @frozenAlloc; have hA3 := @setCellAlloc; go_enter Tryz.func20, Tryz.ntmps20
    go_wp2_with (first | (go_at_call 51; refine (HG.out _ hr hrL).mono ?_; rintro e w1 ⟨rfl, hb1⟩) | (go_at_call 52; refine (HT.out _ (RdI_below hrL hb1)).mono ?_; rintro e w2 ⟨rfl, hmap, hb2⟩; have hB2 := belowThen hb1 hb2) | (go_at_call 54; refine (HO.out _ (RdI_below hr hB2)).mono ?_; rintro e w3 ⟨co, cc, rfl, hown, hb3⟩))
    have hrL2 := RdI_below hrL hB2
    have hmp := mapV_lt hmap
    have hsz3 := hb3.size
    have hszw := hB2.size
    generalize w1.heap.size = mb at hmap hmp ⊢
    have hrowb : n = 0 ∨ ∃ gr, co = some ⟨gr, 0, none⟩ ∧ w2.heap.size ≤ gr ∧ gr < w3.heap.size := by
      obtain ⟨ao', cap', he, hL | ⟨g', h3, hBg, hg', _⟩⟩ := ownsInts_shape (show ownsInts w3 w2.heap.size (.slice co R.length cc) R by rw [HN.out]; exact hown)
      · left; have := HN.out; rw [hL] at this; simpa using this.symm
      · simp only [Value.slice.injEq] at he
        exact .inr ⟨g', he.1.trans h3, hBg, hg'⟩
    have hstart : ∃ (R' F : List Int) (nF : Nat), R'.length = n ∧ rowOk R' L ∧ mus R' ≤ 762 ∧ nF + 762 ≤ 762 ∧ F ++ playG L 762 R' = T ∧ ownsPairs w3 w2.heap.size (.slice none 0 0) nF F ∧ (∀ k, (Value.slice none 0 0).ownBlock = some k → k < w3.heap.size ∧ w3.heap.size ≤ k) ∧ ownsInts w3 w2.heap.size (.slice co n cc) R' ∧ w3.heap.size ≤ w3.heap.size ∧ Below w2.heap.size w2 w3 :=
      ⟨R, [], 0, HN.out, hok1, by omega, by omega, HD.out.symm, ownsPairs_nil _ _, fun k hk => by simp [Value.ownBlock] at hk, hown, Nat.le_refl _, hb3⟩
    clear hown hok1 hmus hb1 hb2 hb3
    go_loopg [9] 762 (fun gk v wr => ∃ (R' F : List Int) (nF : Nat), R'.length = n ∧ rowOk R' L ∧ mus R' ≤ gk ∧ nF + gk ≤ 762 ∧ F ++ playG L gk R' = T ∧ ownsPairs wr w2.heap.size v nF F ∧ (∀ k, v.ownBlock = some k → k < wr.heap.size ∧ w3.heap.size ≤ k) ∧ ownsInts wr w2.heap.size (.slice co n cc) R' ∧ w3.heap.size ≤ wr.heap.size ∧ Below w2.heap.size w2 wr)
    case atStart => exact hstart
    case round =>
      obtain ⟨R', F, nF, hl, hok', hmu, hnf, hF, hownF, hsepF, hownR, hszr, hbw⟩ := hrel
      clear hstart
      have hlF := ownsPairs_len hownF
      have HX := Lib.hid (HM.out co cc R' mb wr (RdI_owns hownR) (RdI_below hrL2 hbw) hl hok' (mapV_below hmap hbw))
      have hsub := movN_sub R' L (n * 7)
      by_cases h00 : movN R' L false (n * 7) = 0
      · have h0 : movN R' L true (n * 7) = 0 := by omega
        have hpN : pickN R' L = 0 := by unfold pickN; rw [hl, if_pos h0]; exact h00
        rw [h00, h0] at HX
        rw [playG_stop L R' gk hpN, List.append_nil] at hF
        subst hF
        have hnt : nF = t := by have := HLen.out; omega
        subst hnt
        generalize movF R' L true (n * 7) = F1 at HX
        generalize movF R' L false (n * 7) = F2 at HX
        clear hpN hok' hl h0 h00 HD hsub
        obtain ⟨oo, oc, rfl, -⟩ := ownsPairs_shape hownF
        go_wp2_with (first | (go_at_call 55; refine HX.out.mono ?_; rintro e w5 ⟨ca, cca, cw, ccw, rfl, hma, hmw, hb5⟩))
        go_ret3
        exact ⟨oo, oc, rfl, ownsPairs_below hownF hb5 (by omega), hB2.trans ((hbw.mono (by omega)).trans (hb5.mono (by omega)))⟩
      · by_cases h0 : movN R' L true (n * 7) = 0
        · have hpN : pickN R' L = movN R' L false (n * 7) := by unfold pickN; rw [hl, if_pos h0]
          have hpF : pickF R' L = movF R' L false (n * 7) := by unfold pickF; rw [hl, if_pos h0]
          have hne : pickN R' L ≠ 0 := by rw [hpN]; exact h00
          obtain ⟨i, b, C, hi, hb, hC, hCe, e0, e1, hl2, en, hok2, hmu2, hlen2⟩ := pick_facts hok' hne
          rw [hpF] at e0 e1
          have hgk : 0 < gk := by omega
          have hstep : playG L gk R' = (i : Int) :: (b : Int) :: playG L (gk - 1) (nextR R' L) := by
            obtain ⟨gq, rfl⟩ : ∃ gq, gk = gq + 1 := ⟨gk - 1, by omega⟩
            show (if pickN R' L = 0 then _ else _) = _
            rw [if_neg hne, hpF, e0, e1]; rfl
          rw [hstep] at hF
          have HF2 := Lib.hid hF
          rw [en] at hok2 hmu2 hlen2 hF
          have HOk2 := Lib.hid hok2
          have HEn := Lib.hid en
          obtain ⟨gr, hco, hgr1, hgr2⟩ := hrowb.resolve_left (by omega)
          subst hco
          clear hok2 hok' hstep hF hpF hpN hsub
          have HE0 := Lib.hid e0
          have HE1 := Lib.hid e1
          clear e0 e1
          rw [h0] at HX
          generalize movF R' L true (n * 7) = FW at HX
          generalize movF R' L false (n * 7) = FA at HX HE0 HE1
          have hNle : movN R' L false (n * 7) ≤ n * 7 := movN_le _ _ _ _
          generalize movN R' L false (n * 7) = NA at HX h00 hNle hne
          clear h0
          have hN1 : (0 : Int) < (NA : Int) := by omega
          have hN3 : ((NA : Int) == 0) = false := by simp; omega
          have hm1 := shl_fact b hb
          have hm2 := pow_lt b hb
          have hor := or64 C (2 ^ b) (by omega) (by omega)
          generalize C ||| 2 ^ b = X at hor hl2 hmu2 hlen2 HOk2 HEn
          generalize (2 ^ b : Nat) = mm at hm1 hm2 hor
          have hin : (i : Int) < (n : Int) := by omega
          go_wp2_with (first | (go_at_call 55; refine HX.out.mono ?_; rintro e w5 ⟨ca, cca, cw, ccw, rfl, hma, hmw, hb5⟩; obtain ⟨ga, rfl, hga, a0, a1⟩ := pairs_head h00 hma; rw [HE0.out] at a0; rw [HE1.out] at a1))
          have hrow6 := ownsInts_below (ownsInts_below hownR hb5 (Nat.le_refl _)) (Go.Joins.below_alloc1 w5 (.cells #[.int .i64 (i : Int), .int .i64 (b : Int)] 65)) (Nat.le_refl _)
          have hown6 := ownsPairs_below (ownsPairs_below hownF hb5 (Nat.le_refl _)) (Go.Joins.below_alloc1 w5 (.cells #[.int .i64 (i : Int), .int .i64 (b : Int)] 65)) (Nat.le_refl _)
          have hbox := pairBox w5 (i : Int) (b : Int) 65
          have hbw6 : Below w2.heap.size w2 (w5.alloc (.cells #[.int .i64 (i : Int), .int .i64 (b : Int)] 65)) := (hbw.trans (hb5.mono (by have := hbw.size; omega))).trans ((Go.Joins.below_alloc1 w5 _).mono (by have := hbw.size; have := hb5.size; omega))
          have hs6 : (w5.alloc (.cells #[.int .i64 (i : Int), .int .i64 (b : Int)] 65)).heap.size = w5.heap.size + 1 := heapAlloc _ _
          have hs5 := hb5.size
          generalize w5.alloc (.cells #[.int .i64 (i : Int), .int .i64 (b : Int)] 65) = w6 at hrow6 hown6 hbox hbw6 hs6 ⊢
          have c0 := hbox.cell (i := 0) (by omega)
          have c1 := hbox.cell (i := 1) (by omega)
          rw [if_pos rfl] at c0
          rw [if_neg (by decide)] at c1
          generalize hmvb : w5.heap.size = mvb at c0 c1 hbox hs6 hs5 ⊢
          obtain ⟨ao6, cap6, he6, h06 | ⟨g6, hg6, hBg6, hglt6, _, hc6⟩⟩ := ownsInts_shape hrow6
          · rw [h06] at hl; simp at hl; omega
          simp only [Value.slice.injEq] at he6
          obtain ⟨he6, -, -⟩ := he6
          rw [hg6] at he6
          simp only [Option.some.injEq, Addr.mk.injEq] at he6
          obtain ⟨rfl, -⟩ := he6
          have hx6 := hc6 i (by rw [hl]; omega)
          rw [hCe] at hx6
          have hfr6 := ownsInts_frozen hrow6 (by rw [hl]; omega) i
          clear hc6 hg6 hbox hownR hownF
          go_region
          have hq := fun k (hk : k ≠ gr) => Below.heap_setCell w6 ⟨gr, i, none⟩ (.int .i64 (X : Int)) k (by first | exact hk | exact Ne.symm hk | (show _ ≠ _; omega))
          have n0 : (w6.setCell ⟨gr, i, none⟩ (.int .i64 (X : Int))).drew.cell? ⟨mvb, 0, none⟩ = some (.int .i64 (i : Int)) := (World.cell?_of_block (a := ⟨mvb, 0, none⟩) (hq mvb (by omega))).trans c0
          have n1 : (w6.setCell ⟨gr, i, none⟩ (.int .i64 (X : Int))).drew.cell? ⟨mvb, 1, none⟩ = some (.int .i64 (b : Int)) := (World.cell?_of_block (a := ⟨mvb, 1, none⟩) (hq mvb (by omega))).trans c1
          have hown7 := ownsPairs_below (C := w2.heap.size) (show ownsPairs (w6.setCell ⟨gr, i, none⟩ (.int .i64 (X : Int))) w2.heap.size _ _ _ from ownsG_keepB hown6 (fun k hk hkb => hq k (by have := (hsepF k hkb).2; omega))) ((Below.refl _ _).drew) (Nat.le_refl _)
          have hrow7 := ownsInts_below (C := w2.heap.size) (ownsInts_set hrow6 hl i (X : Int)) ((Below.refl _ _).drew) (Nat.le_refl _)
          have hbw7 : Below w2.heap.size w2 (w6.setCell ⟨gr, i, none⟩ (.int .i64 (X : Int))).drew := Below.drew (hbw6.setCell (by show w2.heap.size ≤ gr; omega) _)
          have hs7 : (w6.setCell ⟨gr, i, none⟩ (.int .i64 (X : Int))).drew.heap.size = w6.heap.size := heapSet _ _ _
          clear hrow6 hown6 c0 c1 hx6 hfr6 hq
          generalize (w6.setCell ⟨gr, i, none⟩ (.int .i64 (X : Int))).drew = w7 at n0 n1 hown7 hrow7 hbw7 hs7 ⊢
          have HS7 := Lib.hid hs7
          clear hs7
          go_wp2_with (first | (at_builtin; go_must (refine wpAppendPair2 w7 (by rfl) _ _ (by rfl) w2.heap.size _ nF F (by rfl) hown7 _ _ 65 (by rfl) (by omega) hbw7.size ?_; intro oo oc w8 hown8 hb8 hkeep8 hnew8)))
          go_roundg (gk - 1)
          case measure => omega
          case rel =>
            have hs8 := hb8.size
            have hs7 := HS7.out
            refine ⟨R'.set i (X : Int), F ++ [(i : Int), (b : Int)], nF + 1, hlen2.trans hl, HOk2.out, by omega, by omega, by rw [← HF2.out, HEn.out]; simp, hown8, ?_, ?_, by omega, hbw7.trans hb8⟩
            · intro k hk
              refine ⟨(hnew8 k hk).1, ?_⟩
              rcases (hnew8 k hk).2 with h4 | h4
              · exact (hsepF k h4).2
              · omega
            · exact ownsG_keepB hrow7 (fun k hk hkb => hkeep8 k hk (fun hc => by have h3 := (hsepF k hc).2; simp only [Value.ownBlock, Option.some.injEq] at hkb; omega))
        · have hpN : pickN R' L = movN R' L true (n * 7) := by unfold pickN; rw [hl, if_neg h0]
          have hpF : pickF R' L = movF R' L true (n * 7) := by unfold pickF; rw [hl, if_neg h0]
          have hne : pickN R' L ≠ 0 := by rw [hpN]; exact h0
          obtain ⟨i, b, C, hi, hb, hC, hCe, e0, e1, hl2, en, hok2, hmu2, hlen2⟩ := pick_facts hok' hne
          rw [hpF] at e0 e1
          have hgk : 0 < gk := by omega
          have hstep : playG L gk R' = (i : Int) :: (b : Int) :: playG L (gk - 1) (nextR R' L) := by
            obtain ⟨gq, rfl⟩ : ∃ gq, gk = gq + 1 := ⟨gk - 1, by omega⟩
            show (if pickN R' L = 0 then _ else _) = _
            rw [if_neg hne, hpF, e0, e1]; rfl
          rw [hstep] at hF
          have HF2 := Lib.hid hF
          rw [en] at hok2 hmu2 hlen2 hF
          have HOk2 := Lib.hid hok2
          have HEn := Lib.hid en
          obtain ⟨gr, hco, hgr1, hgr2⟩ := hrowb.resolve_left (by omega)
          subst hco
          clear hok2 hok' hstep hF hpF hpN hsub
          have HE0 := Lib.hid e0
          have HE1 := Lib.hid e1
          clear e0 e1
          generalize movF R' L true (n * 7) = FW at HX HE0 HE1
          generalize movF R' L false (n * 7) = FA at HX
          have hNle : movN R' L true (n * 7) ≤ n * 7 := movN_le _ _ _ _
          have hNle2 : movN R' L false (n * 7) ≤ n * 7 := movN_le _ _ _ _
          generalize movN R' L true (n * 7) = NW at HX h0 hNle hne
          generalize movN R' L false (n * 7) = NA at HX h00 hNle2
          have hN1 : (0 : Int) < (NA : Int) := by omega
          have hN2 : (0 : Int) < (NW : Int) := by omega
          have hN3 : ((NA : Int) == 0) = false := by simp; omega
          have hm1 := shl_fact b hb
          have hm2 := pow_lt b hb
          have hor := or64 C (2 ^ b) (by omega) (by omega)
          generalize C ||| 2 ^ b = X at hor hl2 hmu2 hlen2 HOk2 HEn
          generalize (2 ^ b : Nat) = mm at hm1 hm2 hor
          have hin : (i : Int) < (n : Int) := by omega
          go_wp2_with (first | (go_at_call 55; refine HX.out.mono ?_; rintro e w5 ⟨ca, cca, cw, ccw, rfl, hma, hmw, hb5⟩; obtain ⟨ga, rfl, hga, a0, a1⟩ := pairs_head h00 hma; obtain ⟨gw, rfl, hgw, b0, b1⟩ := pairs_head h0 hmw; rw [HE0.out] at b0; rw [HE1.out] at b1; generalize FA.getD 0 0 = x0 at a0; generalize FA.getD 1 0 = x1 at a1))
          have hrow6 := ownsInts_below (ownsInts_below hownR hb5 (Nat.le_refl _)) (Go.Joins.below_alloc1 w5 (.cells #[.int .i64 (i : Int), .int .i64 (b : Int)] 65)) (Nat.le_refl _)
          have hown6 := ownsPairs_below (ownsPairs_below hownF hb5 (Nat.le_refl _)) (Go.Joins.below_alloc1 w5 (.cells #[.int .i64 (i : Int), .int .i64 (b : Int)] 65)) (Nat.le_refl _)
          have hbox := pairBox w5 (i : Int) (b : Int) 65
          have hbw6 : Below w2.heap.size w2 (w5.alloc (.cells #[.int .i64 (i : Int), .int .i64 (b : Int)] 65)) := (hbw.trans (hb5.mono (by have := hbw.size; omega))).trans ((Go.Joins.below_alloc1 w5 _).mono (by have := hbw.size; have := hb5.size; omega))
          have hs6 : (w5.alloc (.cells #[.int .i64 (i : Int), .int .i64 (b : Int)] 65)).heap.size = w5.heap.size + 1 := heapAlloc _ _
          have hs5 := hb5.size
          generalize w5.alloc (.cells #[.int .i64 (i : Int), .int .i64 (b : Int)] 65) = w6 at hrow6 hown6 hbox hbw6 hs6 ⊢
          have c0 := hbox.cell (i := 0) (by omega)
          have c1 := hbox.cell (i := 1) (by omega)
          rw [if_pos rfl] at c0
          rw [if_neg (by decide)] at c1
          generalize hmvb : w5.heap.size = mvb at c0 c1 hbox hs6 hs5 ⊢
          obtain ⟨ao6, cap6, he6, h06 | ⟨g6, hg6, hBg6, hglt6, _, hc6⟩⟩ := ownsInts_shape hrow6
          · rw [h06] at hl; simp at hl; omega
          simp only [Value.slice.injEq] at he6
          obtain ⟨he6, -, -⟩ := he6
          rw [hg6] at he6
          simp only [Option.some.injEq, Addr.mk.injEq] at he6
          obtain ⟨rfl, -⟩ := he6
          have hx6 := hc6 i (by rw [hl]; omega)
          rw [hCe] at hx6
          have hfr6 := ownsInts_frozen hrow6 (by rw [hl]; omega) i
          clear hc6 hg6 hbox hownR hownF
          go_region
          have hq := fun k (hk : k ≠ gr) => Below.heap_setCell w6 ⟨gr, i, none⟩ (.int .i64 (X : Int)) k (by first | exact hk | exact Ne.symm hk | (show _ ≠ _; omega))
          have n0 : (w6.setCell ⟨gr, i, none⟩ (.int .i64 (X : Int))).drew.cell? ⟨mvb, 0, none⟩ = some (.int .i64 (i : Int)) := (World.cell?_of_block (a := ⟨mvb, 0, none⟩) (hq mvb (by omega))).trans c0
          have n1 : (w6.setCell ⟨gr, i, none⟩ (.int .i64 (X : Int))).drew.cell? ⟨mvb, 1, none⟩ = some (.int .i64 (b : Int)) := (World.cell?_of_block (a := ⟨mvb, 1, none⟩) (hq mvb (by omega))).trans c1
          have hown7 := ownsPairs_below (C := w2.heap.size) (show ownsPairs (w6.setCell ⟨gr, i, none⟩ (.int .i64 (X : Int))) w2.heap.size _ _ _ from ownsG_keepB hown6 (fun k hk hkb => hq k (by have := (hsepF k hkb).2; omega))) ((Below.refl _ _).drew) (Nat.le_refl _)
          have hrow7 := ownsInts_below (C := w2.heap.size) (ownsInts_set hrow6 hl i (X : Int)) ((Below.refl _ _).drew) (Nat.le_refl _)
          have hbw7 : Below w2.heap.size w2 (w6.setCell ⟨gr, i, none⟩ (.int .i64 (X : Int))).drew := Below.drew (hbw6.setCell (by show w2.heap.size ≤ gr; omega) _)
          have hs7 : (w6.setCell ⟨gr, i, none⟩ (.int .i64 (X : Int))).drew.heap.size = w6.heap.size := heapSet _ _ _
          clear hrow6 hown6 c0 c1 hx6 hfr6 hq
          generalize (w6.setCell ⟨gr, i, none⟩ (.int .i64 (X : Int))).drew = w7 at n0 n1 hown7 hrow7 hbw7 hs7 ⊢
          have HS7 := Lib.hid hs7
          clear hs7
          go_wp2_with (first | (at_builtin; go_must (refine wpAppendPair2 w7 (by rfl) _ _ (by rfl) w2.heap.size _ nF F (by rfl) hown7 _ _ 65 (by rfl) (by omega) hbw7.size ?_; intro oo oc w8 hown8 hb8 hkeep8 hnew8)))
          go_roundg (gk - 1)
          case measure => omega
          case rel =>
            have hs8 := hb8.size
            have hs7 := HS7.out
            refine ⟨R'.set i (X : Int), F ++ [(i : Int), (b : Int)], nF + 1, hlen2.trans hl, HOk2.out, by omega, by omega, by rw [← HF2.out, HEn.out]; simp, hown8, ?_, ?_, by omega, hbw7.trans hb8⟩
            · intro k hk
              refine ⟨(hnew8 k hk).1, ?_⟩
              rcases (hnew8 k hk).2 with h4 | h4
              · exact (hsepF k h4).2
              · omega
            · exact ownsG_keepB hrow7 (fun k hk hkb => hkeep8 k hk (fun hc => by have h3 := (hsepF k hc).2; simp only [Value.ownBlock, Option.some.injEq] at hkb; omega))
end Go.Proofs.YtcddfpbohejhhaaGreat

namespace Go.Proofs.YtcddfpbohejhhaaGreat
open Go.RowKit

def digs : List Int := [63, 6, 91, 79, 102, 109, 125, 7, 127, 111]
/-- The digit of a cell, or -1. -/
def dofI (c : Int) : Int := idxFrom digs c 0
theorem digs_at (d : Nat) (h : d < 10) : digs.getD d 0 = ((digC d : Nat) : Int) := by
  match d, h with
  | 0, _ => rfl
  | 1, _ => rfl
  | 2, _ => rfl
  | 3, _ => rfl
  | 4, _ => rfl
  | 5, _ => rfl
  | 6, _ => rfl
  | 7, _ => rfl
  | 8, _ => rfl
  | 9, _ => rfl
  | n + 10, h => omega
theorem idxFrom_bound (x : Int) : ∀ (L : List Int) (n : Nat), idxFrom L x n = -1 ∨ ((n : Int) ≤ idxFrom L x n ∧ idxFrom L x n < n + L.length)
  | [], n => .inl rfl
  | y :: ys, n => by
    unfold idxFrom
    split
    · right; simp; omega
    · rcases idxFrom_bound x ys (n + 1) with h | h
      · exact .inl h
      · right; simp; omega
theorem dofI_bound (c : Int) : -1 ≤ dofI c ∧ dofI c ≤ 9 := by
  have := idxFrom_bound c digs 0
  have h10 : digs.length = 10 := rfl
  unfold dofI
  omega
def digA : Array Value := #[.int .i64 63, .int .i64 6, .int .i64 91, .int .i64 79, .int .i64 102, .int .i64 109, .int .i64 125, .int .i64 7, .int .i64 127, .int .i64 111]
def zer10 : Array Value := #[.int .i64 0, .int .i64 0, .int .i64 0, .int .i64 0, .int .i64 0, .int .i64 0, .int .i64 0, .int .i64 0, .int .i64 0, .int .i64 0]
theorem digA_get (j : Nat) (h : j < 10) : digA[j]? = some (.int .i64 (digs.getD j 0)) := by
  match j, h with
  | 0, _ => rfl
  | 1, _ => rfl
  | 2, _ => rfl
  | 3, _ => rfl
  | 4, _ => rfl
  | 5, _ => rfl
  | 6, _ => rfl
  | 7, _ => rfl
  | 8, _ => rfl
  | 9, _ => rfl
  | n + 10, h => omega
set_option maxHeartbeats 800000 in
set_option maxRecDepth 100000 in
theorem digitOf_any (c : Int) (w : World) : Calls Tryz.prog 61 #[.int .i64 c] w fun e w' => e = .returned (.int .i64 (dofI c)) ∧ Below w.heap.size w w' := by
  have hz := (zero_of_info (P := Tryz.prog) (t := 89) (v := .agg zer10) (n := 10) (by kernel_rfl)).1
  have HDC : Hid (∀ W, Calls Tryz.prog 82 #[] W fun e w' => e = .returned (.agg digA) ∧ Below W.heap.size W w') := Lib.hid fun W => digitCells_any W
  have hsz : digA.size = 10 := rfl
  have hone : digA.all (·.oneCell') = true := by simp [digA, Value.oneCell']
  have hzs : zer10.size = 10 := rfl
  have HIdx : Hid (∀ (b : Nat) (W : World), W.heap[b]? = some (.cells digA 89 (0, 0)) → Calls Tryz.prog 94 #[.slice (some ⟨b, 0, none⟩) 10 10, .int .i64 c] W fun e w' => e = .returned (.int .i64 (dofI c)) ∧ W = w') := Lib.hid fun b W hW =>
    sliceIndex_any (some ⟨b, 0, none⟩) 10 10 digs c W (.inr ⟨b, 0, rfl, (Array.getElem?_eq_some_iff.1 hW).1, fun j hj => by
      have h10 : j < 10 := hj
      rw [cell_of_row W b _ _ _ _ hW, Nat.zero_add, digA_get j h10]⟩) rfl (by unfold maxLen; omega)
  generalize dofI c = R at HIdx ⊢
  generalize digA = A at *
  have hA1 := @cellAlloc; have hA2 := @frozenAlloc; have hA3 := @setCellAlloc; go_enter Tryz.func61, Tryz.ntmps61
  go_wp2_with (first
    | (go_at_call 82; refine (HDC.out _).mono ?_; rintro e w1 ⟨rfl, hb1⟩)
    | (refine wpList_store_row (by rfl) 89 _ _ (by rfl) w1.heap.size A (by rfl) (by rfl) 89 zer10 (heap_alloc_new _ _) (by rw [hsz]; kernel_rfl) (by rw [hsz, hzs]) hone ?_
       rw [World.setRow_alloc_new]
       have k1 := heap_alloc_new w1 (.cells A 89))
    | (go_at_call 94; refine (HIdx.out _ _ k1).mono ?_; rintro e w' ⟨rfl, rfl⟩))
  go_ret
  exact ⟨rfl, belowThen hb1 (Go.Joins.below_alloc1 _ _)⟩
/-- The first k cells are those of digits; the number that they show. -/
def numOk (L : List Int) (k : Nat) : Prop := ∀ j, j < k → 0 ≤ dofI (L.getD j 0)
def numK (L : List Int) : Nat → Int
  | 0 => 0
  | k + 1 => 10 * numK L k + dofI (L.getD k 0)
theorem numK_bound (L : List Int) (k : Nat) (h : numOk L k) : 0 ≤ numK L k ∧ numK L k < 10 ^ k := by
  induction k with
  | zero => simp [numK]
  | succ k ih =>
    have h1 := ih (fun j hj => h j (by omega))
    have h2 := h k (by omega)
    have h3 := (dofI_bound (L.getD k 0)).2
    have h4 : (10 : Int) ^ (k + 1) = 10 ^ k * 10 := Int.pow_succ 10 k
    unfold numK
    omega
def numAll (L : List Int) : Bool := L.all fun c => decide (0 ≤ dofI c)
def numB (L : List Int) : Bool := numAll L && decide (0 < L.length)
def numZ (L : List Int) : Int := if numAll L = true then numK L L.length else 0
theorem numAll_of {L : List Int} (h : numOk L L.length) : numAll L = true := by
  unfold numAll
  rw [List.all_eq_true]
  intro x hx
  obtain ⟨j, hj, rfl⟩ := List.mem_iff_getElem.1 hx
  have := h j hj
  rw [List.getD_eq_getElem?_getD, List.getElem?_eq_getElem hj] at this
  simpa using this
theorem numAll_bad {L : List Int} {j : Nat} (hj : j < L.length) (h : dofI (L.getD j 0) < 0) : numAll L = false := by
  unfold numAll
  rw [List.all_eq_false]
  refine ⟨L[j], List.getElem_mem _, ?_⟩
  rw [List.getD_eq_getElem?_getD, List.getElem?_eq_getElem hj] at h
  simp at h ⊢
  omega
theorem list_eq_of {A B : List Int} (hl : A.length = B.length) (h : ∀ j, j < A.length → A.getD j 0 = B.getD j 0) : A = B := by
  apply List.ext_getElem hl
  intro i h1 h2
  have := h i h1
  rw [List.getD_eq_getElem?_getD, List.getD_eq_getElem?_getD, List.getElem?_eq_getElem h1, List.getElem?_eq_getElem h2] at this
  simpa using this
end Go.Proofs.YtcddfpbohejhhaaGreat

namespace Go.Proofs.YtcddfpbohejhhaaGreat
open Go.RowKit

theorem infoC : (Tryz.prog.info? 4).map (fun i => (i.zero, i.size, i.bytes)) = some (some (.bool false), 1, 1) := by kernel_rfl
theorem take_map_succC {β : Type} (f : Nat → β) (l : List Nat) (j : Nat) (h : j < l.length) : (l.take (j + 1)).map f = (l.take j).map f ++ [f (l.getD j 0)] := by
  rw [List.take_add_one, List.map_append, List.getElem?_eq_getElem h, List.getD_eq_getElem?_getD, List.getElem?_eq_getElem h]
  rfl
/-- m[k], its value known. -/
theorem wpLookVC (w : World) {ops : Array Oper} {rest : List Oper} {o : Oper} {a : Act} {Q : Exit → Act → World → Prop} (hg : o.guard = none) (m x : Operand) (t : TypeId) (hop : o.op = Op.lookup t m x false)
    (e : TypeId) (ht : Tryz.prog.underlying t = some (.map 3 e)) (z : Value) (hz : (zeroValue e).run Tryz.prog w = .ok z w) (b n : Nat) (f : Int → Value) (hm : a.eval m = .map (some b)) (h : mapV w b n z f)
    (k : Int) (hx : a.eval x = .int .i64 k) (hwf : (Lit.int .i64 k).wf = true) (v : Value) (hv : f k = v) (hK : wpList Tryz.prog ops Q rest (a.put o.dst v) w) : wpList Tryz.prog ops Q (o :: rest) a w :=
  wpLookV w hg m x t hop e ht z hz b n f hm h k hx hwf (by rw [hv]; exact hK)
theorem mapStepC {L : List Int} {f : Nat → Bool} {c : Nat} {u : Bool} (hc : c < 128) (hway : wayB (c : Int) L = true) (hu : f c = u) (k : Int) :
    (if k = (c : Int) then Value.bool u else (if ((c + 1 : Nat) : Int) ≤ k ∧ k < 128 ∧ wayB k L = true then Value.bool (f k.toNat) else (.bool false))) = if (c : Int) ≤ k ∧ k < 128 ∧ wayB k L = true then Value.bool (f k.toNat) else (.bool false) := by
  by_cases hk : k = (c : Int)
  · subst hk
    rw [if_pos rfl, if_pos ⟨Int.le_refl _, by omega, hway⟩, Int.toNat_natCast, hu]
  · rw [if_neg hk]
    by_cases h : ((c + 1 : Nat) : Int) ≤ k ∧ k < 128 ∧ wayB k L = true
    · rw [if_pos h, if_pos ⟨by omega, h.2⟩]
    · rw [if_neg h, if_neg (fun g => h ⟨by omega, g.2⟩)]
theorem mapSkipC {L : List Int} {f : Nat → Bool} {c : Nat} (hway : wayB (c : Int) L = false) (k : Int) :
    (if ((c + 1 : Nat) : Int) ≤ k ∧ k < 128 ∧ wayB k L = true then Value.bool (f k.toNat) else (.bool false)) = if (c : Int) ≤ k ∧ k < 128 ∧ wayB k L = true then Value.bool (f k.toNat) else (.bool false) := by
  by_cases h : ((c + 1 : Nat) : Int) ≤ k ∧ k < 128 ∧ wayB k L = true
  · rw [if_pos h, if_pos ⟨by omega, h.2⟩]
  · rw [if_neg h, if_neg]
    rintro ⟨h1, h2, h3⟩
    refine h ⟨?_, h2, h3⟩
    rcases Int.lt_or_eq_of_le h1 with h4 | h4
    · omega
    · subst h4; rw [hway] at h3; exact absurd h3 (by decide)
set_option maxRecDepth 100000 in
set_option maxHeartbeats 1600000 in
theorem tableC_any (F : Nat → List Bool → Bool) (K : Nat) (c0 : Value) (ao : Option Addr) (n cap : Nat) (L : List Int) (w : World) (hr : RdI w ao L) (hn : L.length = n) (hm : n ≤ maxLen) (hD : allDig L) (hK : Enters K)
    (hF : ∀ (c : Nat) (vs : List Bool) (bo : Option Addr) (cb : Nat) (W : World), c < 128 → vs.length ≤ 7 → RdV W bo (vs.map (Value.bool)) → Below w.heap.size w W → Calls Tryz.prog K #[.int .i64 c, .slice bo vs.length cb, c0] W fun e w' => e = .returned (Value.bool (F c vs)) ∧ Below W.heap.size W w') :
    Calls Tryz.prog 76 #[.slice ao n cap, .func (.func K) #[] #[c0]] w fun e w' => e = .returned (.map (some w.heap.size)) ∧ mapV w' w.heap.size 128 (.bool false) (fun k => if 0 ≤ k ∧ k < 128 ∧ wayB k L = true then Value.bool (valC L F k.toNat) else (.bool false)) ∧ Below w.heap.size w w' := by
  have HD := Lib.hid hD
  have HN := Lib.hid hn
  have HF := Lib.hid hF
  clear hD hn hF
  unfold Enters at hK
  have hA1 := @cellAlloc; have hA2 := @frozenAlloc; have hA3 := @setCellAlloc; go_enter Tryz.func76, Tryz.ntmps76
  have hmm := @run_makeMap Tryz.prog
  go_wp2
  go_loopw [6] (fun c wr => ∃ m : Nat, m ≤ 128 ∧ c = .int .i64 ((m : Int) - 1) ∧ mapV wr w.heap.size (128 - m) (.bool false) (fun k => if (m : Int) ≤ k ∧ k < 128 ∧ wayB k L = true then Value.bool (valC L F k.toNat) else (.bool false)) ∧ Below w.heap.size w wr) (fun c _ => (intOf c + 1).toNat)
  case atStart => exact ⟨128, by omega, rfl, mapV_congr (mapV_made w _) (fun k => by rw [if_neg (by omega)]), Go.Joins.below_alloc1 _ _⟩
  case round =>
    obtain ⟨m, hle, rfl, hmap, hbw⟩ := hrel
    rcases m with _ | c
    · go_wp2
      go_ret
      exact ⟨rfl, hmap, hbw⟩
    · rw [show ((c + 1 : Nat) : Int) - 1 = (c : Int) by omega]
      have hc : c < 128 := by omega
      by_cases hway : wayB (c : Int) L = true
      · go_wp2_with (first | (go_at_call 79; refine (isOnWay_any _ _ _ _ L _ (RdI_below hr hbw) HN.out hm HD.out).mono ?_; rw [hway]; rintro e w1 ⟨rfl, hb1⟩) | (go_at_call 88; refine (lit_any c hc _ _ _ L _ (RdI_below hr (belowThen hbw hb1)) HN.out hm HD.out).mono ?_; rintro e w2 ⟨bo, cb, rfl, hown2, hb2⟩))
        have hmap2 := mapV_below hmap (belowThen hb1 hb2)
        have hbw2 := belowThen (belowThen hbw hb1) hb2
        have hRd := RdI_owns hown2
        have hlen := litP_le L c 7
        obtain ⟨l, hl⟩ : ∃ l, litL L c = l := ⟨_, rfl⟩
        have hmem : ∀ x, x ∈ l → c < x ∧ x < 128 ∧ wayB (x : Int) L = true := by rw [← hl]; exact fun x hx => litP_mem hc (Nat.le_refl 7) hx
        change (litL L c).length ≤ 7 at hlen
        have HV := Lib.hid (valC_eq L F c hc)
        rw [hl] at hRd hlen hown2 HV ⊢
        clear hmap hb1 hb2 hbw hown2 hl
        go_wp2_with fail
        go_loopw [7, 23] (fun v i wr => ∃ j : Nat, j ≤ l.length ∧ i = .int .i64 j ∧ ownsV wr w2.heap.size 4 v ((l.take j).map fun x => Value.bool (valC L F x)) ∧ Below w2.heap.size w2 wr) (fun _ i _ => l.length - (intOf i).toNat)
        case atStart => exact ⟨0, by omega, rfl, ownsV_nil _ _ _, Below.refl _ _⟩
        case round =>
          obtain ⟨j, hj, rfl, hown, hbi⟩ := hrel
          by_cases hlt : j < l.length
          · have hd : decide ((j : Int) < (l.length : Int)) = true := by simp; omega
            rcases RdI_below hRd hbi with h | ⟨b1, o1, rfl, hb1, hc1⟩
            · have := congrArg List.length h; rw [ints_length, List.length_nil] at this; omega
            have hx := hc1 j (by rw [ints_length]; exact hlt)
            rw [ints_getD] at hx
            have hm1 := hmem (l.getD j 0) (by rw [List.getD_eq_getElem?_getD, List.getElem?_eq_getElem hlt]; exact List.getElem_mem _)
            have hsucc : (l.take (j + 1)).map (fun x => Value.bool (valC L F x)) = (l.take j).map (fun x => Value.bool (valC L F x)) ++ [Value.bool (valC L F (l.getD j 0))] := take_map_succC _ l j hlt
            generalize l.getD j 0 = x at hx hm1 hsucc
            have hmapr := mapV_below hmap2 hbi
            have hfx : (if ((c + 1 : Nat) : Int) ≤ (x : Int) ∧ (x : Int) < 128 ∧ wayB (x : Int) L = true then Value.bool (valC L F (x : Int).toNat) else (.bool false)) = Value.bool (valC L F x) := by
              rw [if_pos ⟨by omega, by omega, hm1.2.2⟩]; rfl
            generalize valC L F x = u at hfx hsucc
            have HS := Lib.hid hsucc
            have HX := Lib.hid hfx
            clear hc1 hsucc hfx hmap2 hRd
            go_wp2_with (first | (at_lookup; refine wpLookVC _ (by rfl) _ _ _ (by rfl) _ (Tryz.underlying85) _ (by rfl) w.heap.size _ _ (by rfl) hmapr (x : Int) (by rfl) (wf128 x hm1.2.1) (Value.bool u) HX.out ?_) | (at_builtin; refine wpAppendV wr (by rfl) _ _ 58 4 (.bool false) 1 (by rfl) (Tryz.underlying58) infoC (by rfl) (by decide) w2.heap.size _ _ (by rfl) hown (Value.bool u) (by rfl) _ (by rfl) (by rw [List.length_map, List.length_take]; omega) hbi.size ?_; intro co cc w4 hv4 hb4))
            go_roundw
            case rel => exact ⟨j + 1, by omega, by go_num, by rw [HS.out]; rw [List.length_map, List.length_take, Nat.min_eq_left (Nat.le_of_lt hlt)] at hv4; exact hv4, hbi.trans hb4⟩
            case measure => simp [intOf]; omega
          · have hje : j = l.length := by omega
            subst hje
            rw [List.take_length] at hown
            obtain ⟨no, nc, rfl, hrv⟩ := ownsV_shape hown
            have hcall := HF.out c (l.map (valC L F)) no nc wr hc (by rw [List.length_map]; exact hlen) (by rw [List.map_map]; exact hrv) (belowThen hbw2 hbi)
            rw [List.length_map, ← HV.out] at hcall
            have hmapr := mapV_below hmap2 hbi
            have hbr := belowThen hbw2 hbi
            have HC := Lib.hid hcall
            rw [List.length_map]
            clear hcall hrv hown hmap2 hRd hbi hbw2 hmem
            go_wp2_with fail
            refine HC.out.mono ?_
            rintro e w5 ⟨rfl, hb5⟩
            have hmap5 := mapV_below hmapr hb5
            have hbr5 := belowThen hbr hb5
            generalize hu : valC L F c = u
            have HU := Lib.hid hu
            clear hmapr hbr hb5 hu
            go_wp2_with (at_mapUpdate; refine wpUpdV _ (by rfl) _ _ _ _ (by rfl) _ (Tryz.underlying85) _ w.heap.size _ _ (by rfl) hmap5 (by omega) (c : Int) (by rfl) (wf128 c hc) _ (by rfl) ?_; intro w6 hm6 hg6)
            go_roundw
            case rel => exact ⟨c, by omega, by first | rfl | go_num, mapV_congr (mapV_mono hm6 (by omega)) (fun k => mapStepC (by omega) hway HU.out k), below_grown hbr5 hg6 (Nat.le_refl _)⟩
            case measure => first | (simp [intOf]; done) | (simp [intOf]; omega)
      · rw [Bool.not_eq_true] at hway
        go_wp2_with (first | (go_at_call 79; refine (isOnWay_any _ _ _ _ L _ (RdI_below hr hbw) HN.out hm HD.out).mono ?_; rw [hway]; rintro e w1 ⟨rfl, hb1⟩))
        go_roundw
        case rel => exact ⟨c, by omega, by first | rfl | go_num, mapV_congr (mapV_mono (mapV_below hmap hb1) (by omega)) (fun k => mapSkipC hway k), belowThen hbw hb1⟩
        case measure => first | (simp [intOf]; done) | (simp [intOf]; omega)
end Go.Proofs.YtcddfpbohejhhaaGreat
