/- Contracts of the program's function that lays a word's rows in a display. -/
import Derived.Test.YtjlhghbikmipgaaDoorScrS
namespace Go.Proofs.YtjlhghbikmipgaaDoor
open Go.RowKit

set_option maxHeartbeats 2000000 in
set_option maxRecDepth 100000 in
theorem scroll_any (s : ByteArray) (K : Nat) (hK : 1 ≤ K) (hK2 : K ≤ 6) (hs : s.size ≤ 12) (hall : allIn s = true) (w : World) :
    Calls Tryd.prog 45 #[.string s, .int .i64 K] w (RetScr (scrM s.size K) K (scrR (rowW s) K) w) := by
  have HL := Lib.hid (fun W => rowOfWord_any s (by omega) hall W)
  have hn := rowW_length s
  obtain ⟨i0, hi, hz0, hz1, hz2⟩ := info_parts infoInt
  generalize rowW s = L at HL hn ⊢
  generalize hsz : s.size = n at hs hn ⊢
  have HSz := Lib.hid hsz
  have HN := Lib.hid hn
  clear hn hsz hall
  have hRL : ∀ j, scrR L K j = scrP L K ((K : Int) - 1 - j) n := fun j => by unfold scrR; rw [HN.out]
  have HRL := Lib.hid hRL
  clear hRL
  have HLS : Hid (∀ W, Calls Tryd.prog 34 #[.string s] W fun e w' => ∃ ao cap, e = .returned (.slice ao n cap) ∧ RdI w' ao L ∧ Below W.heap.size W w') := Lib.hid fun W => (HL.out W).mono fun e w' ⟨ao, cap, he, ho, hb⟩ => ⟨ao, cap, by rw [HN.out] at he; exact he, RdI_owns ho, hb⟩
  clear HL
  by_cases hn0 : n = 0
  · subst hn0
    have he : (s.toList.isEmpty) = true := by
      have : s.toList.length = 0 := by rw [Lib.toList_data, size_len]; exact HSz.out
      rw [List.isEmpty_iff]; exact List.eq_nil_of_length_eq_zero this
    have hA1 := @cellAlloc; have hA2 := @frozenAlloc; have hA3 := @setCellAlloc; go_enter Tryd.func45, Tryd.ntmps45
    go_wp2
    go_ret
    exact ⟨none, 0, fun _ => 0, rfl, scr_nil _ _ _ _ _, Below.refl _ _⟩
  · have hM : scrM n K = n + K - 1 := by unfold scrM; rw [if_neg hn0]
    rw [hM]
    have hn0i : ((n : Int) == 0) = false := by simp; omega
    have he : (s.toList.isEmpty) = false := by
      have : s.toList.length = n := by rw [Lib.toList_data, size_len]; exact HSz.out
      rw [Bool.eq_false_iff, ne_eq, List.isEmpty_iff]
      intro h
      rw [h] at this
      simp at this; omega
    have hA1 := @cellAlloc; have hA2 := @frozenAlloc; have hA3 := @setCellAlloc; go_enter Tryd.func45, Tryd.ntmps45
    go_wp2_with (first | (go_at_call 34; refine (HLS.out _).mono ?_; rintro e w1 ⟨ao, cap, rfl, hr, hb1⟩))
    have hb01 := hb1
    go_loopw [6, 20] (fun v i wr => ∃ (j : Nat) (gs : Nat → Nat), j ≤ n + K - 1 ∧ i = .int .i64 j ∧ scr wr w1.heap.size v j K gs (scrR L K) ∧ Below w1.heap.size w1 wr) (fun _ i _ => (n + K) - (intOf i).toNat)
    case atStart => exact ⟨0, fun _ => 0, by omega, by go_num, scr_nil _ _ _ _ _, Below.refl _ _⟩
    case round =>
      obtain ⟨j, gs, hj, rfl, hown, hbw⟩ := hrel
      have hrr := RdI_below hr hbw
      have HO := Lib.hid hown
      have hsM := hbw.size
      obtain ⟨ao3, cap3, rfl, -⟩ := scr_read hown
      clear hown hb1 hr
      by_cases hlt : j < n + K - 1
      · have hRj := HRL.out j
        have hlast : ∀ i, i < j → gs i < wr.heap.size := fun i hi => (HO.out.2.1 i hi).2.1
        have HLast := Lib.hid hlast
        clear hlast
        generalize ha : (K : Int) - 1 - (j : Int) = a at hRj ⊢
        have hcond : decide ((j : Int) < (n : Int) + (K : Int) - 1) = true := by simp; omega
        have HRj := Lib.hid hRj
        clear hRj
        go_wp2_with (at_make; refine wpList_make_full _ (by rfl) _ _ _ (by rfl) wr.heap.size 3 i0 (.int .i64 0) 1 Tryd.underlying25 hi hz0 hz1 _ _ _ _ K (by rfl) (by rfl) (by rfl) (by rfl) (by rw [hz2]; omega) (by unfold maxLen; omega) (Nat.le_refl _) ?_; intro w2 hown2 hg2)
        have hrow : ownsInts w2 wr.heap.size (.slice (some ⟨wr.heap.size, 0, none⟩) K K) (scrQ L K a 0) := by
          rw [scrQ_zero]
          refine .inl ?_
          have e1 : (madeCells (Value.int .i64 0).cells (K * 1)).toList = (List.replicate K (0 : Int)).map (Value.int .i64) := by
            rw [Nat.mul_one]; exact (toList_madeCells_one _ _).trans (by simp)
          rw [e1] at hown2
          simpa using hown2
        have hb2 : Below wr.heap.size wr w2 := (Below.refl _ _).grown hg2 (Nat.le_refl _) (fun k hk => by cases hk)
        have hs2 : wr.heap.size < w2.heap.size := by
          obtain ⟨g9, c9, cur9, hv9, _, hg9⟩ := ownsG_block (show ownsG w2 wr.heap.size 3 1 _ _ _ from hrow) (by rw [scrQ_length]; omega)
          simp only [Value.slice.injEq, Option.some.injEq, Addr.mk.injEq] at hv9
          obtain ⟨⟨rfl, -⟩, -⟩ := hv9
          exact (Array.getElem?_eq_some_iff.1 hg9).1
        clear hown2 hg2
        obtain ⟨g, hg⟩ : ∃ g, wr.heap.size = g := ⟨_, rfl⟩
        rw [hg] at hrow hb2 hs2 ⊢
        have HG := Lib.hid hg
        clear hg
        obtain ⟨wo, hwo⟩ : ∃ wo, wo = wr := ⟨_, rfl⟩
        subst hwo
        go_loopw [27] (fun i wr => ∃ q : Nat, q ≤ K ∧ i = .int .i64 q ∧ ownsInts wr g (.slice (some ⟨g, 0, none⟩) K K) (scrQ L K a q) ∧ Below g wo wr ∧ g < wr.heap.size) (fun i _ => K - (intOf i).toNat)
        case atStart => exact ⟨0, by omega, rfl, hrow, hb2, hs2⟩
        case round =>
          obtain ⟨q, hq, rfl, ho, hbi, hsi⟩ := hrel
          clear hrow hb2 hs2
          by_cases hqn : q < K
          · have hqi : (q : Int) < (K : Int) := by omega
            obtain ⟨x, hx⟩ : ∃ x : Int, (j : Int) - ((K : Int) - 1) + (q : Int) = x := ⟨_, rfl⟩
            have hxa : (q : Int) - a = x := by omega
            by_cases hin : 0 ≤ x ∧ x ≤ (n : Int) - 1
            · have hr2 := RdI_below hrr (by rw [HG.out]; exact hbi)
              rcases hr2 with h | ⟨b1, o1, rfl, hb1', hc1⟩
              · have := HN.out; rw [h] at this; simp at this; omega
              obtain ⟨p, hp⟩ : ∃ p : Nat, x = (p : Int) := ⟨x.toNat, by omega⟩
              subst hp
              have hpn : p < n := by omega
              have hpi : (p : Int) < (n : Int) := by omega
              have hy := hc1 p (by rw [HN.out]; omega)
              have hcb : inB 0 ((n : Int) - 1) (p : Int) = true := by rw [inB_iff]; omega
              have hset := ownsInts_set ho (scrQ_length _ _ _ _) q (L.getD p 0)
              have hq1 := scrQ_in L K a q hqn (by rw [HN.out]; omega)
              rw [show ((q : Int) - a).toNat = p by omega] at hq1
              rw [hq1] at hset
              obtain ⟨ao', cap', he, hL | ⟨g', rfl, hBg, hg', _, hc⟩⟩ := ownsInts_shape ho
              · have := scrQ_length L K a q; rw [hL] at this; simp at this; omega
              simp only [Value.slice.injEq, Option.some.injEq, Addr.mk.injEq] at he
              obtain ⟨⟨rfl, -⟩, -⟩ := he
              have hcell := hc q (by rw [scrQ_length]; exact hqn)
              have hfr := ownsInts_frozen ho (by rw [scrQ_length]; omega) q
              have hbs : Below g wo (wr.setCell ⟨g, q, none⟩ (.int .i64 (L.getD p 0))) := hbi.setCell (Nat.le_refl _) _
              have hss : g < (wr.setCell ⟨g, q, none⟩ (.int .i64 (L.getD p 0))).heap.size := by simpa using hsi
              have HB := Lib.hid hcb
              clear hc ho hcb hc1 hq1
              go_wp2_with (first | (go_at_call 58; refine (within_any _ _ _ _).mono ?_; (try rw [hx]); rw [HB.out]; rintro e w' ⟨rfl, rfl⟩))
              go_roundw
              case rel => exact ⟨q + 1, by omega, by go_num, hset, hbs, hss⟩
              case measure => simp [intOf]; omega
            · have hcb : inB 0 ((n : Int) - 1) x = false := by rw [inB_not]; omega
              have HB := Lib.hid hcb
              rw [scrQ_out L K a q (by rw [HN.out]; omega)] at ho
              clear hcb
              go_wp2_with (first | (go_at_call 58; refine (within_any _ _ _ _).mono ?_; (try rw [hx]); rw [HB.out]; rintro e w' ⟨rfl, rfl⟩))
              go_roundw
              case rel => exact ⟨q + 1, by omega, by go_num, ho, hbi, hsi⟩
              case measure => simp [intOf]; omega
          · have hqn2 : q = K := by omega
            subst hqn2
            have hsc := scr_below HO.out (show Below wo.heap.size wo wr by rw [HG.out]; exact hbi) (Nat.le_refl _)
            have HSc := Lib.hid hsc
            rw [scrQ_all, HN.out, ← HRj.out] at ho
            have hlR : (scrR L q j).length = q := scrP_length _ _ _ _
            have hbwi : Below w1.heap.size w1 wr := belowThen hbw (show Below wo.heap.size wo wr by rw [HG.out]; exact hbi)
            have hgB : w1.heap.size ≤ g := by rw [← HG.out]; exact hsM
            have ho2 := Lib.hid (ownsInts_raise ho hgB)
            clear ho hsc
            go_wp2_with (at_builtin; refine wpAppendScr wr (by rfl) _ _ (by rfl) w1.heap.size _ j q gs (scrR L q) (by rfl) HSc.out g ho2.out hlR hgB hsi (fun i hi => by rw [← HG.out]; exact HLast.out i hi) (by rfl) (by omega) (by omega) ?_; intro ao4 cap4 w4 hown4 hb4)
            go_roundw
            case rel => exact ⟨j + 1, _, by omega, by go_num, hown4, hbwi.trans hb4⟩
            case measure => simp [intOf]; omega
      · have hjn : j = n + K - 1 := by omega
        subst hjn
        go_wp2
        go_ret
        exact ⟨_, _, gs, rfl, scr_below HO.out (Below.refl _ _) hb01.size, belowThen hb01 hbw⟩
theorem scroll_nil (s : ByteArray) (K : Nat) (h0 : s.size = 0) (w : World) : Calls Tryd.prog 45 #[.string s, .int .i64 K] w fun e w' => e = .returned (.slice none 0 0) ∧ w = w' := by
  have he : (s.toList.isEmpty) = true := by
    have : s.toList.length = 0 := by rw [Lib.toList_data, size_len]; exact h0
    rw [List.isEmpty_iff]; exact List.eq_nil_of_length_eq_zero this
  clear h0
  have hA1 := @cellAlloc; have hA2 := @frozenAlloc; have hA3 := @setCellAlloc; go_enter Tryd.func45, Tryd.ntmps45
  go_wp2
  go_ret
  exact ⟨rfl, rfl⟩
end Go.Proofs.YtjlhghbikmipgaaDoor
