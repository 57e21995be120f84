/- Joined texts: PlayG. -/
import Derived.Test.YtcddfpbohejhhaaGreatMg14
import Derived.Test.YtcddfpbohejhhaaGreatMg13
import Derived.Lib.Hide
import Derived.Deep.LoopGhost
import Derived.OwnWalk
import Derived.BigRegion
namespace Go.Proofs.YtcddfpbohejhhaaGreat
open Go.RowKit

def gameF (R L : List Int) (m : Nat) : List Int := if goodRow R L m = true then playG L 762 R else []
def gameN (R L : List Int) (m : Nat) : Nat := (gameF R L m).length / 2
theorem playG_len (L : List Int) : ∀ k R, (playG L k R).length = (playG L k R).length / 2 * 2 ∧ (playG L k R).length ≤ 2 * k := by
  intro k
  induction k with
  | zero => intro R; simp [playG]
  | succ k ih =>
    intro R
    unfold playG
    split
    · simp
    · have := ih (nextR R L)
      simp only [List.length_cons]
      omega
theorem gameF_len (R L : List Int) (m : Nat) : (gameF R L m).length = gameN R L m * 2 := by
  unfold gameN gameF
  split
  · exact (playG_len L 762 R).1
  · rfl
theorem gameN_le (R L : List Int) (m : Nat) : gameN R L m ≤ 762 := by
  unfold gameN gameF
  split
  · have := (playG_len L 762 R).2; omega
  · simp
/-- A slice of pairs of the call's own, a number and a bool, are returned. -/
def RetPairsIB (n : Nat) (F : List Int) (z : Int) (ok : Bool) (w : World) (e : Ending) (w' : World) : Prop := ∃ ao cap, e = .returned (.tuple #[.slice ao n cap, .int .i64 z, .bool ok]) ∧ ownsPairs w' w.heap.size (.slice ao n cap) n F ∧ Below w.heap.size w w'
theorem ownsG_keepB {w w' : World} {B : Nat} {e : TypeId} {size : Nat} {v : Value} {n : Nat} {xs : List Value} (h : ownsG w B e size v n xs) (hk : ∀ k, k < w.heap.size → v.ownBlock = some k → w'.heap[k]? = w.heap[k]?) : ownsG w' B e size v n xs := by
  rcases h with h | h
  · refine .inl ⟨h.1, ?_⟩
    rcases h.2 with h2 | ⟨g, cap, cur, rfl, hBg, hg, r⟩
    · exact .inl h2
    · exact .inr ⟨g, cap, cur, rfl, hBg, by rw [hk g (Array.getElem?_eq_some_iff.1 hg).1 rfl]; exact hg, r⟩
  · exact .inr h
theorem AllOwn_keep {w w' : World} {g : Nat} {L : List Int} (h : AllOwn w g L) (hk : w'.heap[g]? = w.heap[g]?) (hs : w.heap.size ≤ w'.heap.size) : AllOwn w' g L :=
  ⟨by have := h.1; omega, fun j hj => (World.cell?_of_block (a := ⟨g, j, none⟩) hk).trans (h.2 j hj)⟩
theorem goodRow_ok {R L : List Int} {m : Nat} (h : goodRow R L m = true) : rowOk R L := goodRow_mem h
set_option maxHeartbeats 1600000 in
set_option maxRecDepth 100000 in
theorem PlayGameS_any (ad : Addr) (n cap : Nat) (R : List Int) (bo : Option Addr) (m capL : Nat) (L : List Int) (w : World) (hr : RdI w (some ad) R) (hn : R.length = n) (hm : n ≤ maxLen) (hcap : n ≤ cap) (hrL : RdI w bo L) (hnL : L.length = m) (hmL : m ≤ maxLen) (hcapL : m ≤ capL) :
    Calls Tryz.prog 21 #[.slice (some ad) n cap, .slice bo m capL] w (RetPairsIB (gameN R L m) (gameF R L m) ((gameN R L m % 2 : Nat) : Int) (goodRow R L m) w) := by
  have HG := Lib.hid (fun W h h2 => l11Row_any (some ad) n cap R bo m capL L W h hn hm hcap h2 hnL hmL hcapL)
  have hdig := goodRow_dig (R := R) (L := L) (m := m)
  have hok := goodRow_ok (R := R) (L := L) (m := m)
  have hrow := goodRow_row (R := R) (L := L) (m := m)
  have hlen := gameF_len R L m
  have hle := gameN_le R L m
  have hdef : goodRow R L m = true → gameF R L m = playG L 762 R := fun h => by unfold gameF; rw [if_pos h]
  have hdef0 : goodRow R L m = false → gameF R L m = [] ∧ gameN R L m = 0 := fun h => by simp [gameN, gameF, h]
  have HN := Lib.hid hn
  have HNL := Lib.hid hnL
  generalize goodRow R L m = q at HG hdig hok hrow hdef hdef0 ⊢
  generalize gameF R L m = T at hlen hdef hdef0 ⊢
  generalize gameN R L m = t at hlen hle hdef0 ⊢
  clear hnL
  rcases q with _ | _
  · obtain ⟨rfl, rfl⟩ := hdef0 rfl
    clear hdig hok hrow hdef hdef0 hn
    have hA1 := @cellAlloc; have hA2 := @frozenAlloc; have hA3 := @setCellAlloc; go_enter Tryz.func21, Tryz.ntmps21
    go_wp2_with (first | (go_at_call 56; refine (HG.out _ (RdI_below hr (Go.Joins.below_alloc1 _ _)) (RdI_below hrL (Go.Joins.below_alloc1 _ _))).mono ?_; rintro e w1 ⟨rfl, hb1⟩))
    go_ret3
    exact ⟨_, _, rfl, ownsPairs_zero _ _ _, by (repeat (first | assumption | exact Below.refl _ _ | refine belowThen ?_ (Go.Joins.below_alloc1 _ _) | apply Below.drew | refine belowThen ?_ (by assumption) | refine belowThen ?_ (Go.Joins.below_draws _ _ _) | refine Below.setCell ?_ (by first | exact Nat.le_refl _ | (simp; done) | (simp; omega)) _))⟩
  · have hn6 := rowB_len (hrow rfl)
    rw [hn] at hn6
    have hok1 := hok rfl
    have hdigL := hdig rfl
    have HA := Lib.hid (fun W h => l11All_any bo m capL L W h HNL.out hmL hdigL)
    have HO := Lib.hid (fun W h => l1Own_any ad n cap R W h HN.out (by omega))
    have HM := Lib.hid (fun (co : Option Addr) (cc : Nat) (R' : List Int) (g : Nat) (wins : Bool) (W : World) (h1 : RdI W co R') (h2 : RdI W bo L) (h3 : R'.length = n) (h4 : rowOk R' L) (h5 : AllOwn W g L) => l11Moves_any co n cc R' bo m capL L g wins W h1 h3 hn6 (fun x hx => (h4 x hx).1) h2 HNL.out hmL hdigL h5)
    have HT := Lib.hid (hdef rfl)
    have HLen := Lib.hid hlen
    have hmus := mus_le R
    rw [hn] at hmus
    clear hdig hok hrow hdef hdef0 hn hlen
    have hA1 := @cellAlloc; have hA2 := @frozenAlloc; have hA3 := @setCellAlloc; go_enter Tryz.func21, Tryz.ntmps21
    go_wp2_with (first | (go_at_call 56; refine (HG.out _ (RdI_below hr (Go.Joins.below_alloc1 _ _)) (RdI_below hrL (Go.Joins.below_alloc1 _ _))).mono ?_; rintro e w1 ⟨rfl, hb1⟩; have hB1 := belowThen (Go.Joins.below_alloc1 _ _) hb1) | (go_at_call 35; refine (HA.out _ (RdI_below hrL hB1)).mono ?_; rintro e w2 ⟨g, rfl, hg, hall, hb2⟩; have hB2 := belowThen hB1 hb2) | (go_at_call 57; refine (HO.out _ (RdI_below hr hB2)).mono ?_; rintro e w3 ⟨co, cc, rfl, hown, hb3⟩; have hB3 := belowThen hB2 hb3))
    have hg1 : w.heap.size < g := by have := hb1.size; rw [heapAlloc] at this; omega
    have hg2 := hall.1
    have hall3 := AllOwn_below hall hb3
    have hsz2 := hb2.size
    have hsz3 := hb3.size
    have hw2 : w.heap.size < w2.heap.size := by omega
    have hrowb : n = 0 ∨ ∃ gr, co = some ⟨gr, 0, none⟩ ∧ w2.heap.size ≤ gr ∧ gr < w3.heap.size := by
      obtain ⟨ao', cap', he, hL | ⟨g', h3, hBg, hg', _⟩⟩ := ownsInts_shape (show ownsInts w3 w2.heap.size (.slice co R.length cc) R by rw [HN.out]; exact hown)
      · left; have := HN.out; rw [hL] at this; simpa using this.symm
      · simp only [Value.slice.injEq] at he
        exact .inr ⟨g', he.1.trans h3, hBg, hg'⟩
    clear hall hb1 hb2 hb3 hB1 hB2 hg
    have hstart : ∃ (R' F : List Int) (nF : Nat), R'.length = n ∧ rowOk R' L ∧ mus R' ≤ 762 ∧ nF + 762 ≤ 762 ∧ F ++ playG L 762 R' = T ∧ ownsPairs w3 w.heap.size (.slice (some ⟨w.heap.size, 0, none⟩) 0 0) nF F ∧ (∀ k, (Value.slice (some ⟨w.heap.size, 0, none⟩) 0 0).ownBlock = some k → k < w3.heap.size ∧ k ≠ g ∧ (k < w2.heap.size ∨ w3.heap.size ≤ k)) ∧ ownsInts w3 w2.heap.size (.slice co n cc) R' ∧ AllOwn w3 g L ∧ w3.heap.size ≤ w3.heap.size ∧ Below w.heap.size w w3 :=
      ⟨R, [], 0, HN.out, hok1, by omega, by omega, HT.out.symm, ownsPairs_zero _ _ _, fun k hk => by simp only [Value.ownBlock, Option.some.injEq] at hk; omega, hown, hall3, Nat.le_refl _, hB3⟩
    clear hown hall3 hok1 hmus hB3
    go_loopg [7] 762 (fun gk v wr => ∃ (R' F : List Int) (nF : Nat), R'.length = n ∧ rowOk R' L ∧ mus R' ≤ gk ∧ nF + gk ≤ 762 ∧ F ++ playG L gk R' = T ∧ ownsPairs wr w.heap.size v nF F ∧ (∀ k, v.ownBlock = some k → k < wr.heap.size ∧ k ≠ g ∧ (k < w2.heap.size ∨ w3.heap.size ≤ k)) ∧ ownsInts wr w2.heap.size (.slice co n cc) R' ∧ AllOwn wr g L ∧ w3.heap.size ≤ wr.heap.size ∧ Below w.heap.size w wr)
    case atStart => exact hstart
    case round =>
      obtain ⟨R', F, nF, hl, hok', hmu, hnf, hF, hownF, hsepF, hownR, hall', hszr, hbw⟩ := hrel
      clear hstart
      have hRd := RdI_owns hownR
      have hLd := RdI_below hrL hbw
      have hlF := ownsPairs_len hownF
      have HS1 := Lib.hid (HM.out co cc R' g true wr hRd hLd hl hok' hall')
      have HS2 := Lib.hid (fun W (hb : Below wr.heap.size wr W) => HM.out co cc R' g false W (RdI_below hRd hb) (RdI_below hLd hb) hl hok' (AllOwn_below hall' hb))
      have tA : True := trivial
      by_cases h0 : movN R' L true (n * 7) = 0
      · have hpN : pickN R' L = movN R' L false (n * 7) := by unfold pickN; rw [hl, if_pos h0]
        have hpF : pickF R' L = movF R' L false (n * 7) := by unfold pickF; rw [hl, if_pos h0]
        rw [h0] at HS1
        by_cases hNe : movN R' L false (n * 7) = 0
        · rw [hNe] at HS2 hpN
          rw [playG_stop L R' gk hpN, List.append_nil] at hF
          subst hF
          have hnt : nF = t := by have := HLen.out; omega
          subst hnt
          generalize movF R' L true (n * 7) = F1 at HS1
          generalize movF R' L false (n * 7) = F2 at HS2
          clear hpF hpN hok' hl h0 hNe HT
          obtain ⟨oo, oc, rfl, -⟩ := ownsPairs_shape hownF
          go_wp2_with (first | (go_at_call 34; clear tA; refine HS1.out.mono ?_; rintro e w4 ⟨ca0, cca0, rfl, hm4, hb4⟩) | (go_at_call 34; refine (HS2.out _ hb4).mono ?_; rintro e w5 ⟨ca, cca, rfl, hm5, hb5⟩))
          go_ret3
          exact ⟨oo, oc, rfl, ownsPairs_below (ownsPairs_below hownF hb4 (Nat.le_refl _)) hb5 (Nat.le_refl _), belowThen (belowThen hbw hb4) hb5⟩
        · have hne : pickN R' L ≠ 0 := by rw [hpN]; exact hNe
          have HX := HS2
          obtain ⟨i, b, C, hi, hb, hC, hCe, e0, e1, hl2, en, hok2, hmu2, hlen2⟩ := pick_facts hok' hne
          rw [hpF] at e0 e1
          have hgk : 0 < gk := by omega
          have hstep : playG L gk R' = (i : Int) :: (b : Int) :: playG L (gk - 1) (nextR R' L) := by
            obtain ⟨gq, rfl⟩ : ∃ gq, gk = gq + 1 := ⟨gk - 1, by omega⟩
            show (if pickN R' L = 0 then _ else _) = _
            rw [if_neg hne, hpF, e0, e1]; rfl
          rw [hstep] at hF
          have HF2 := Lib.hid hF
          rw [en] at hok2 hmu2 hlen2 hF
          have HOk2 := Lib.hid hok2
          have HEn := Lib.hid en
          obtain ⟨gr, hco, hgr1, hgr2⟩ := hrowb.resolve_left (by omega)
          subst hco
          clear hok2 hok' hstep hF hpF hpN
          generalize movF R' L false (n * 7) = Fm at HX e0 e1
          generalize hNm : movN R' L false (n * 7) = Nm at HX
          have hNm0 : Nm ≠ 0 := by rw [← hNm]; exact hNe
          have hNle : Nm ≤ n * 7 := by rw [← hNm]; exact movN_le _ _ _ _
          clear hNm hNe
          have hm1 := shl_fact b hb
          have hm2 := pow_lt b hb
          have hor := or64 C (2 ^ b) (by omega) (by omega)
          generalize C ||| 2 ^ b = X at hor hl2 hmu2 hlen2 HOk2 HEn
          generalize (2 ^ b : Nat) = mm at hm1 hm2 hor
          have hin : (i : Int) < (n : Int) := by omega
          have hNm1 : (0 : Int) < (Nm : Int) := by omega
          have hNm3 : ((Nm : Int) == 0) = false := by simp; omega
          have HSh := Lib.hid (fun (W : World) (B : Nat) (ao : Option Addr) (c : Nat) (h : ownsPairs W B (.slice ao Nm c) Nm Fm) => (by
            obtain ⟨ca', cca', he, h0' | ⟨gm, rfl, hBm, hgm, _, hcm, _⟩⟩ := ownsPairs_shape h
            · omega
            simp only [Value.slice.injEq] at he
            obtain ⟨rfl, -, -⟩ := he
            have q0 := hcm 0 (by omega)
            have q1 := hcm 1 (by omega)
            rw [e0] at q0
            rw [e1] at q1
            exact ⟨gm, rfl, hBm, hgm, q0, q1⟩ : ∃ gm, ao = some ⟨gm, 0, none⟩ ∧ B ≤ gm ∧ gm < W.heap.size ∧ W.cell? ⟨gm, 0, none⟩ = some (.int .i64 i) ∧ W.cell? ⟨gm, 1, none⟩ = some (.int .i64 b)))
          clear e0 e1
          go_wp2_with (first | (go_at_call 34; clear tA; refine HS1.out.mono ?_; rintro e w4 ⟨ca0, cca0, rfl, hm4, hb4⟩) | (go_at_call 34; refine (HX.out _ hb4).mono ?_; rintro e w5 ⟨ca, cca, rfl, hm5', hb5'⟩; have hm5 := ownsPairs_below hm5' (Below.refl _ _) hb4.size; have hb5 := belowThen hb4 hb5'; obtain ⟨gm, rfl, hBm, hgm, m0, m1⟩ := HSh.out _ _ _ _ hm5; have hs5 := hb5.size; have hownF5 := ownsPairs_below hownF hb5 (Nat.le_refl _)) | (at_builtin; go_must (refine wpAppendPair2 w5 (by rfl) _ _ (by rfl) w.heap.size _ nF F (by rfl) hownF5 _ _ 65 (by rfl) (by omega) (Nat.le_trans hbw.size hs5) ?_; intro oo oc w6 hown6 hb6 hkeep6 hnew6; have hbw6 : Below w.heap.size w w6 := (belowThen hbw hb5).trans hb6; have hrow6 : ownsInts w6 w2.heap.size (.slice (some ⟨gr, 0, none⟩) n cc) R' := ownsG_keepB (ownsInts_below hownR hb5 (Nat.le_refl _)) (fun k hk hkb => hkeep6 k hk (fun hc => by have h3 := hsepF k hc; simp only [Value.ownBlock, Option.some.injEq] at hkb; omega)); have hall6 : AllOwn w6 g L := AllOwn_keep (AllOwn_below hall' hb5) (hkeep6 g (by have := hall'.1; omega) (fun hc => (hsepF g hc).2.1 rfl)) hb6.size; have hsep6 : ∀ k, (Value.slice oo (nF + 1) oc).ownBlock = some k → k < w6.heap.size ∧ k ≠ g ∧ (k < w2.heap.size ∨ w3.heap.size ≤ k) := (fun k hk => ⟨(hnew6 k hk).1, by have h3 := hall'.1; rcases (hnew6 k hk).2 with h4 | h4; exact (hsepF k h4).2.1; omega, by rcases (hnew6 k hk).2 with h4 | h4; exact (hsepF k h4).2.2; omega⟩); have hmv := hkeep6 gm hgm (fun hc => by have h3 := (hsepF gm hc).1; omega); have n0 := (World.cell?_of_block (a := ⟨gm, 0, none⟩) hmv).trans m0; have n1 := (World.cell?_of_block (a := ⟨gm, 1, none⟩) hmv).trans m1; clear m0 m1 hmv hm5 hkeep6 hnew6 hsepF hownF hownF5 hall' hownR)))
          obtain ⟨ao6, cap6, he6, h06 | ⟨g6, hg6, hBg6, hglt6, _, hc6⟩⟩ := ownsInts_shape hrow6
          · rw [h06] at hl; simp at hl; omega
          simp only [Value.slice.injEq] at he6
          obtain ⟨he6, -, -⟩ := he6
          rw [hg6] at he6
          simp only [Option.some.injEq, Addr.mk.injEq] at he6
          obtain ⟨rfl, -⟩ := he6
          have hx6 := hc6 i (by rw [hl]; omega)
          rw [hCe] at hx6
          have hfr6 := ownsInts_frozen hrow6 (by rw [hl]; omega) i
          clear hc6 hg6
          go_region
          go_wp2
          go_roundg (gk - 1)
          case measure => omega
          case rel =>
            have hq := fun k => Below.heap_setCell w6 ⟨gr, i, none⟩ (.int .i64 (X : Int)) k
            have hs6 : w6.heap.size ≤ (w6.setCell ⟨gr, i, none⟩ (.int .i64 (X : Int))).heap.size := by rw [heapSet]; exact Nat.le_refl _
            refine ⟨R'.set i (X : Int), F ++ [(i : Int), (b : Int)], nF + 1, hlen2.trans hl, HOk2.out, by omega, by omega, by rw [← HF2.out, HEn.out]; simp, ?_, ?_, ?_, ?_, ?_, ?_⟩
            · exact ownsPairs_below (C := w.heap.size) (show ownsPairs (w6.setCell ⟨gr, i, none⟩ (.int .i64 (X : Int))) w.heap.size _ _ _ from ownsG_keepB hown6 (fun k hk hkb => hq k (by have := (hsep6 k hkb).2.2; first | omega | (simp; omega) | (intro hc; simp at hc; omega)))) ((Below.refl _ _).drew) (Nat.le_refl _)
            · intro k hk
              have h3 := hsep6 k hk
              exact ⟨Nat.lt_of_lt_of_le h3.1 hs6, h3.2⟩
            · exact ownsInts_below (C := w2.heap.size) (ownsInts_set hrow6 hl i (X : Int)) ((Below.refl _ _).drew) (Nat.le_refl _)
            · exact AllOwn_below (AllOwn_keep hall6 (hq g (by first | omega | (simp; omega) | (intro hc; simp at hc; omega))) hs6) ((Below.refl _ _).drew)
            · have h7 := hb6.size; have h8 : w6.heap.size ≤ (w6.setCell ⟨gr, i, none⟩ (.int .i64 (X : Int))).drew.heap.size := hs6; omega
            · exact Below.drew (hbw6.setCell (by show w.heap.size ≤ gr; omega) _)

      · have hpN : pickN R' L = movN R' L true (n * 7) := by unfold pickN; rw [hl, if_neg h0]
        have hpF : pickF R' L = movF R' L true (n * 7) := by unfold pickF; rw [hl, if_neg h0]
        have hNe := h0
        have hne : pickN R' L ≠ 0 := by rw [hpN]; exact hNe
        have HX := HS1
        obtain ⟨i, b, C, hi, hb, hC, hCe, e0, e1, hl2, en, hok2, hmu2, hlen2⟩ := pick_facts hok' hne
        rw [hpF] at e0 e1
        have hgk : 0 < gk := by omega
        have hstep : playG L gk R' = (i : Int) :: (b : Int) :: playG L (gk - 1) (nextR R' L) := by
          obtain ⟨gq, rfl⟩ : ∃ gq, gk = gq + 1 := ⟨gk - 1, by omega⟩
          show (if pickN R' L = 0 then _ else _) = _
          rw [if_neg hne, hpF, e0, e1]; rfl
        rw [hstep] at hF
        have HF2 := Lib.hid hF
        rw [en] at hok2 hmu2 hlen2 hF
        have HOk2 := Lib.hid hok2
        have HEn := Lib.hid en
        obtain ⟨gr, hco, hgr1, hgr2⟩ := hrowb.resolve_left (by omega)
        subst hco
        clear hok2 hok' hstep hF hpF hpN
        generalize movF R' L true (n * 7) = Fm at HX e0 e1
        generalize hNm : movN R' L true (n * 7) = Nm at HX
        have hNm0 : Nm ≠ 0 := by rw [← hNm]; exact hNe
        have hNle : Nm ≤ n * 7 := by rw [← hNm]; exact movN_le _ _ _ _
        clear hNm hNe
        have hm1 := shl_fact b hb
        have hm2 := pow_lt b hb
        have hor := or64 C (2 ^ b) (by omega) (by omega)
        generalize C ||| 2 ^ b = X at hor hl2 hmu2 hlen2 HOk2 HEn
        generalize (2 ^ b : Nat) = mm at hm1 hm2 hor
        have hin : (i : Int) < (n : Int) := by omega
        have hNm1 : (0 : Int) < (Nm : Int) := by omega
        have hNm3 : ((Nm : Int) == 0) = false := by simp; omega
        have HSh := Lib.hid (fun (W : World) (B : Nat) (ao : Option Addr) (c : Nat) (h : ownsPairs W B (.slice ao Nm c) Nm Fm) => (by
          obtain ⟨ca', cca', he, h0' | ⟨gm, rfl, hBm, hgm, _, hcm, _⟩⟩ := ownsPairs_shape h
          · omega
          simp only [Value.slice.injEq] at he
          obtain ⟨rfl, -, -⟩ := he
          have q0 := hcm 0 (by omega)
          have q1 := hcm 1 (by omega)
          rw [e0] at q0
          rw [e1] at q1
          exact ⟨gm, rfl, hBm, hgm, q0, q1⟩ : ∃ gm, ao = some ⟨gm, 0, none⟩ ∧ B ≤ gm ∧ gm < W.heap.size ∧ W.cell? ⟨gm, 0, none⟩ = some (.int .i64 i) ∧ W.cell? ⟨gm, 1, none⟩ = some (.int .i64 b)))
        clear e0 e1
        go_wp2_with (first | (go_at_call 34; clear tA; refine HX.out.mono ?_; rintro e w5 ⟨ca, cca, rfl, hm5, hb5⟩; obtain ⟨gm, rfl, hBm, hgm, m0, m1⟩ := HSh.out _ _ _ _ hm5; have hs5 := hb5.size; have hownF5 := ownsPairs_below hownF hb5 (Nat.le_refl _)) | (at_builtin; go_must (refine wpAppendPair2 w5 (by rfl) _ _ (by rfl) w.heap.size _ nF F (by rfl) hownF5 _ _ 65 (by rfl) (by omega) (Nat.le_trans hbw.size hs5) ?_; intro oo oc w6 hown6 hb6 hkeep6 hnew6; have hbw6 : Below w.heap.size w w6 := (belowThen hbw hb5).trans hb6; have hrow6 : ownsInts w6 w2.heap.size (.slice (some ⟨gr, 0, none⟩) n cc) R' := ownsG_keepB (ownsInts_below hownR hb5 (Nat.le_refl _)) (fun k hk hkb => hkeep6 k hk (fun hc => by have h3 := hsepF k hc; simp only [Value.ownBlock, Option.some.injEq] at hkb; omega)); have hall6 : AllOwn w6 g L := AllOwn_keep (AllOwn_below hall' hb5) (hkeep6 g (by have := hall'.1; omega) (fun hc => (hsepF g hc).2.1 rfl)) hb6.size; have hsep6 : ∀ k, (Value.slice oo (nF + 1) oc).ownBlock = some k → k < w6.heap.size ∧ k ≠ g ∧ (k < w2.heap.size ∨ w3.heap.size ≤ k) := (fun k hk => ⟨(hnew6 k hk).1, by have h3 := hall'.1; rcases (hnew6 k hk).2 with h4 | h4; exact (hsepF k h4).2.1; omega, by rcases (hnew6 k hk).2 with h4 | h4; exact (hsepF k h4).2.2; omega⟩); have hmv := hkeep6 gm hgm (fun hc => by have h3 := (hsepF gm hc).1; omega); have n0 := (World.cell?_of_block (a := ⟨gm, 0, none⟩) hmv).trans m0; have n1 := (World.cell?_of_block (a := ⟨gm, 1, none⟩) hmv).trans m1; clear m0 m1 hmv hm5 hkeep6 hnew6 hsepF hownF hownF5 hall' hownR)))
        obtain ⟨ao6, cap6, he6, h06 | ⟨g6, hg6, hBg6, hglt6, _, hc6⟩⟩ := ownsInts_shape hrow6
        · rw [h06] at hl; simp at hl; omega
        simp only [Value.slice.injEq] at he6
        obtain ⟨he6, -, -⟩ := he6
        rw [hg6] at he6
        simp only [Option.some.injEq, Addr.mk.injEq] at he6
        obtain ⟨rfl, -⟩ := he6
        have hx6 := hc6 i (by rw [hl]; omega)
        rw [hCe] at hx6
        have hfr6 := ownsInts_frozen hrow6 (by rw [hl]; omega) i
        clear hc6 hg6
        go_region
        go_wp2
        go_roundg (gk - 1)
        case measure => omega
        case rel =>
          have hq := fun k => Below.heap_setCell w6 ⟨gr, i, none⟩ (.int .i64 (X : Int)) k
          have hs6 : w6.heap.size ≤ (w6.setCell ⟨gr, i, none⟩ (.int .i64 (X : Int))).heap.size := by rw [heapSet]; exact Nat.le_refl _
          refine ⟨R'.set i (X : Int), F ++ [(i : Int), (b : Int)], nF + 1, hlen2.trans hl, HOk2.out, by omega, by omega, by rw [← HF2.out, HEn.out]; simp, ?_, ?_, ?_, ?_, ?_, ?_⟩
          · exact ownsPairs_below (C := w.heap.size) (show ownsPairs (w6.setCell ⟨gr, i, none⟩ (.int .i64 (X : Int))) w.heap.size _ _ _ from ownsG_keepB hown6 (fun k hk hkb => hq k (by have := (hsep6 k hkb).2.2; first | omega | (simp; omega) | (intro hc; simp at hc; omega)))) ((Below.refl _ _).drew) (Nat.le_refl _)
          · intro k hk
            have h3 := hsep6 k hk
            exact ⟨Nat.lt_of_lt_of_le h3.1 hs6, h3.2⟩
          · exact ownsInts_below (C := w2.heap.size) (ownsInts_set hrow6 hl i (X : Int)) ((Below.refl _ _).drew) (Nat.le_refl _)
          · exact AllOwn_below (AllOwn_keep hall6 (hq g (by first | omega | (simp; omega) | (intro hc; simp at hc; omega))) hs6) ((Below.refl _ _).drew)
          · have h7 := hb6.size; have h8 : w6.heap.size ≤ (w6.setCell ⟨gr, i, none⟩ (.int .i64 (X : Int))).drew.heap.size := hs6; omega
          · exact Below.drew (hbw6.setCell (by show w.heap.size ≤ gr; omega) _)
end Go.Proofs.YtcddfpbohejhhaaGreat
