/- Joined texts: ScrS, ScrI, ScrR, ScrM. -/
import Derived.Test.YtfdmcnnjifggnaaDoorMg11
import Derived.Test.YtfdmcnnjifggnaaDoorMg06
import Derived.Test.YtfdmcnnjifggnaaDoorMg02
import Derived.Test.YtfdmcnnjifggnaaDoorMg10
import Derived.Test.YtfdmcnnjifggnaaDoorMg07
namespace Go.Proofs.YtfdmcnnjifggnaaDoor
open Go.RowKit

/-- A word's cells L laid in K cells, the first at the place at; of its cells n are laid. -/
def scrP (L : List Int) (K : Nat) (at' : Int) (n : Nat) : List Int := (List.range K).map fun (p : Nat) => if at' ≤ (p : Int) ∧ (p : Int) < at' + n then L.getD ((p : Int) - at').toNat 0 else 0
/-- Row j of a word that goes through the display. -/
def scrR (L : List Int) (K j : Nat) : List Int := scrP L K ((K : Int) - 1 - j) L.length
theorem scrP_length (L : List Int) (K : Nat) (at' : Int) (n : Nat) : (scrP L K at' n).length = K := by simp [scrP]
theorem scrP_zero (L : List Int) (K : Nat) (at' : Int) : scrP L K at' 0 = List.replicate K 0 := by
  apply List.ext_getElem?
  intro i
  simp only [scrP, List.getElem?_map, List.getElem?_replicate]
  by_cases hi : i < K
  · rw [List.getElem?_range hi, if_pos hi, Option.map_some, if_neg (by omega)]
  · rw [List.getElem?_eq_none (by simpa using hi), if_neg hi]; rfl
theorem scrP_in (L : List Int) (K : Nat) (at' : Int) (i : Nat) (h0 : 0 ≤ at' + i) (hK : at' + i ≤ (K : Int) - 1) : (scrP L K at' i).set (at' + i).toNat (L.getD i 0) = scrP L K at' (i + 1) := by
  apply List.ext_getElem?
  intro p
  by_cases hp : p < K
  · rw [List.getElem?_set]
    by_cases he : (at' + i).toNat = p
    · rw [if_pos he, if_pos (by rw [scrP_length]; omega)]
      simp only [scrP, List.getElem?_map]
      rw [List.getElem?_range hp, Option.map_some, if_pos (by omega), show ((p : Int) - at').toNat = i by omega]
    · rw [if_neg he]
      simp only [scrP, List.getElem?_map]
      rw [List.getElem?_range hp, Option.map_some, Option.map_some]
      by_cases h1 : at' ≤ (p : Int) ∧ (p : Int) < at' + i
      · rw [if_pos h1, if_pos (by omega)]
      · rw [if_neg h1, if_neg (by omega)]
  · rw [List.getElem?_eq_none (by rw [List.length_set, scrP_length]; omega), List.getElem?_eq_none (by rw [scrP_length]; omega)]
theorem scrP_out (L : List Int) (K : Nat) (at' : Int) (i : Nat) (h : at' + i < 0 ∨ (K : Int) - 1 < at' + i) : scrP L K at' i = scrP L K at' (i + 1) := by
  unfold scrP
  apply List.map_congr_left
  intro p hp
  have hp := List.mem_range.1 hp
  by_cases h1 : at' ≤ (p : Int) ∧ (p : Int) < at' + i
  · rw [if_pos h1, if_pos (by omega)]
  · rw [if_neg h1, if_neg (by omega)]
/-- The first i cells of the display are laid. -/
def scrQ (L : List Int) (K : Nat) (at' : Int) (i : Nat) : List Int := (List.range K).map fun (p : Nat) => if p < i ∧ at' ≤ (p : Int) ∧ (p : Int) < at' + L.length then L.getD ((p : Int) - at').toNat 0 else 0
theorem scrQ_length (L : List Int) (K : Nat) (at' : Int) (n : Nat) : (scrQ L K at' n).length = K := by simp [scrQ]
theorem scrQ_zero (L : List Int) (K : Nat) (at' : Int) : scrQ L K at' 0 = List.replicate K 0 := by
  apply List.ext_getElem?
  intro i
  simp only [scrQ, List.getElem?_map, List.getElem?_replicate]
  by_cases hi : i < K
  · rw [List.getElem?_range hi, if_pos hi, Option.map_some, if_neg (by omega)]
  · rw [List.getElem?_eq_none (by simpa using hi), if_neg hi]; rfl
theorem scrQ_all (L : List Int) (K : Nat) (at' : Int) : scrQ L K at' K = scrP L K at' L.length := by
  unfold scrQ scrP
  apply List.map_congr_left
  intro p hp
  have hp := List.mem_range.1 hp
  by_cases h1 : at' ≤ (p : Int) ∧ (p : Int) < at' + L.length
  · rw [if_pos h1, if_pos ⟨hp, h1⟩]
  · rw [if_neg h1, if_neg (fun h => h1 h.2)]
theorem scrQ_in (L : List Int) (K : Nat) (at' : Int) (i : Nat) (hK : i < K) (h : at' ≤ (i : Int) ∧ (i : Int) < at' + L.length) : (scrQ L K at' i).set i (L.getD ((i : Int) - at').toNat 0) = scrQ L K at' (i + 1) := by
  apply List.ext_getElem?
  intro p
  by_cases hp : p < K
  · rw [List.getElem?_set]
    by_cases he : i = p
    · subst he
      rw [if_pos rfl, if_pos (by rw [scrQ_length]; omega)]
      simp only [scrQ, List.getElem?_map]
      rw [List.getElem?_range hp, Option.map_some, if_pos ⟨by omega, h⟩]
    · rw [if_neg he]
      simp only [scrQ, List.getElem?_map]
      rw [List.getElem?_range hp, Option.map_some, Option.map_some]
      by_cases h1 : p < i ∧ at' ≤ (p : Int) ∧ (p : Int) < at' + L.length
      · rw [if_pos h1, if_pos ⟨by omega, h1.2⟩]
      · rw [if_neg h1, if_neg (by intro h2; exact h1 ⟨by omega, h2.2⟩)]
  · rw [List.getElem?_eq_none (by rw [List.length_set, scrQ_length]; omega), List.getElem?_eq_none (by rw [scrQ_length]; omega)]
theorem scrQ_out (L : List Int) (K : Nat) (at' : Int) (i : Nat) (h : ¬(at' ≤ (i : Int) ∧ (i : Int) < at' + L.length)) : scrQ L K at' i = scrQ L K at' (i + 1) := by
  unfold scrQ
  apply List.map_congr_left
  intro p hp
  by_cases h1 : p < i ∧ at' ≤ (p : Int) ∧ (p : Int) < at' + L.length
  · rw [if_pos h1, if_pos ⟨by omega, h1.2⟩]
  · rw [if_neg h1, if_neg]
    intro h2
    by_cases he : p = i
    · subst he; exact h h2.2
    · exact h1 ⟨by omega, h2.2⟩
/-- How many rows there are. -/
def scrM (n K : Nat) : Nat := if n = 0 then 0 else n + K - 1
/-- Such rows are returned. -/
def RetScr (m K : Nat) (R : Nat → List Int) (w : World) (e : Ending) (w' : World) : Prop := ∃ ao cap gs, e = .returned (.slice ao m cap) ∧ scr w' w.heap.size (.slice ao m cap) m K gs R ∧ Below w.heap.size w w'
set_option maxHeartbeats 2000000 in
set_option maxRecDepth 100000 in
theorem l10Scroll_any (s : ByteArray) (K : Nat) (hK : 1 ≤ K) (hK2 : K ≤ 6) (hs : s.size ≤ 12) (hall : allIn s = true) (w : World) :
    Calls Tryd.prog 42 #[.string s, .int .i64 K] w (RetScr (scrM s.size K) K (scrR (rowW s) K) w) := by
  have HL := Lib.hid (fun W => l10Row_any s (by omega) hall W)
  have hn := rowW_length s
  obtain ⟨i0, hi, hz0, hz1, hz2⟩ := info_parts infoInt
  generalize rowW s = L at HL hn ⊢
  generalize hsz : s.size = n at hs hn ⊢
  have HN := Lib.hid hn
  clear hn hsz hall
  have hRL : ∀ j, scrR L K j = scrP L K ((K : Int) - 1 - j) n := fun j => by unfold scrR; rw [HN.out]
  have HRL := Lib.hid hRL
  clear hRL
  have HLS : Hid (∀ W, Calls Tryd.prog 55 #[.string s] W fun e w' => ∃ ao cap, e = .returned (.slice ao n cap) ∧ RdI w' ao L ∧ Below W.heap.size W w') := Lib.hid fun W => (HL.out W).mono fun e w' ⟨ao, cap, he, ho, hb⟩ => ⟨ao, cap, by rw [HN.out] at he; exact he, RdI_owns ho, hb⟩
  clear HL
  by_cases hn0 : n = 0
  · subst hn0
    have hA1 := @cellAlloc; have hA2 := @frozenAlloc; have hA3 := @setCellAlloc; go_enter Tryd.func42, Tryd.ntmps42
    go_wp2_with (first | (go_at_call 55; refine (HLS.out _).mono ?_; rintro e w1 ⟨ao, cap, rfl, hr, hb1⟩))
    go_ret
    exact ⟨some ⟨w.heap.size, 0, none⟩, 0, fun _ => 0, rfl, scr_zero _ _ _ _ _ _, belowThen (Go.Joins.below_alloc1 _ _) hb1⟩
  · have hM : scrM n K = n + K - 1 := by unfold scrM; rw [if_neg hn0]
    rw [hM]
    have hn0i : ((n : Int) == 0) = false := by simp; omega
    have hneg : IntKind.i64.wrap (-(n : Int)) = -(n : Int) := IntWalk.i64_in _ (by omega)
    have hA1 := @cellAlloc; have hA2 := @frozenAlloc; have hA3 := @setCellAlloc; go_enter Tryd.func42, Tryd.ntmps42
    go_wp2_with (first | (go_at_call 55; refine (HLS.out _).mono ?_; rintro e w1 ⟨ao, cap, rfl, hr, hb1⟩))
    have hb01 := belowThen (Go.Joins.below_alloc1 w (.cells #[] 24)) hb1
    go_loopw [5, 7] (fun v i wr => ∃ (j : Nat) (gs : Nat → Nat), j ≤ n + K - 1 ∧ i = .int .i64 ((K : Int) - 1 - j) ∧ scr wr w1.heap.size v j K gs (scrR L K) ∧ Below w1.heap.size w1 wr) (fun _ i _ => (intOf i + n).toNat)
    case atStart => exact ⟨0, fun _ => 0, by omega, by go_num, scr_zero _ _ _ _ _ _, Below.refl _ _⟩
    case round =>
      obtain ⟨j, gs, hj, rfl, hown, hbw⟩ := hrel
      have hrr := RdI_below hr hbw
      have HO := Lib.hid hown
      have hsM := hbw.size
      obtain ⟨ao3, cap3, rfl, -⟩ := scr_read hown
      clear hown hb1 hr
      by_cases hlt : j < n + K - 1
      · have hRj := HRL.out j
        have hlast : ∀ i, i < j → gs i < wr.heap.size := fun i hi => (HO.out.2.1 i hi).2.1
        have HLast := Lib.hid hlast
        clear hlast
        generalize ha : (K : Int) - 1 - (j : Int) = a at hRj ⊢
        have hcond : decide (-(n : Int) < a) = true := by simp; omega
        have HRj := Lib.hid hRj
        clear hRj
        go_wp2_with (at_make; refine wpList_make_full _ (by rfl) _ _ _ (by rfl) wr.heap.size 3 i0 (.int .i64 0) 1 Tryd.underlying24 hi hz0 hz1 _ _ _ _ K (by rfl) (by rfl) (by rfl) (by rfl) (by rw [hz2]; omega) (by unfold maxLen; omega) (Nat.le_refl _) ?_; intro w2 hown2 hg2)
        have hrow : ownsInts w2 wr.heap.size (.slice (some ⟨wr.heap.size, 0, none⟩) K K) (scrP L K a 0) := by
          rw [scrP_zero]
          refine .inl ?_
          have e1 : (madeCells (Value.int .i64 0).cells (K * 1)).toList = (List.replicate K (0 : Int)).map (Value.int .i64) := by
            rw [Nat.mul_one]; exact (toList_madeCells_one _ _).trans (by simp)
          rw [e1] at hown2
          simpa using hown2
        have hb2 : Below wr.heap.size wr w2 := (Below.refl _ _).grown hg2 (Nat.le_refl _) (fun k hk => by cases hk)
        have hs2 : wr.heap.size < w2.heap.size := by
          obtain ⟨g9, c9, cur9, hv9, _, hg9⟩ := ownsG_block (show ownsG w2 wr.heap.size 3 1 _ _ _ from hrow) (by rw [scrP_length]; omega)
          simp only [Value.slice.injEq, Option.some.injEq, Addr.mk.injEq] at hv9
          obtain ⟨⟨rfl, -⟩, -⟩ := hv9
          exact (Array.getElem?_eq_some_iff.1 hg9).1
        clear hown2 hg2
        obtain ⟨g, hg⟩ : ∃ g, wr.heap.size = g := ⟨_, rfl⟩
        rw [hg] at hrow hb2 hs2 ⊢
        have HG := Lib.hid hg
        clear hg
        obtain ⟨wo, hwo⟩ : ∃ wo, wo = wr := ⟨_, rfl⟩
        subst hwo
        go_loopw [9] (fun i wr => ∃ q : Nat, q ≤ n ∧ i = .int .i64 q ∧ ownsInts wr g (.slice (some ⟨g, 0, none⟩) K K) (scrP L K a q) ∧ Below g wo wr ∧ g < wr.heap.size) (fun i _ => n - (intOf i).toNat)
        case atStart => exact ⟨0, by omega, rfl, hrow, hb2, hs2⟩
        case round =>
          obtain ⟨q, hq, rfl, ho, hbi, hsi⟩ := hrel
          clear hrow hb2 hs2
          by_cases hqn : q < n
          · have hr2 := RdI_below hrr (by rw [HG.out]; exact hbi)
            rcases hr2 with h | ⟨b1, o1, rfl, hb1', hc1⟩
            · have := HN.out; rw [h] at this; simp at this; omega
            have hx := hc1 q (by rw [HN.out]; omega)
            clear hc1
            by_cases hin : 0 ≤ a + q ∧ a + q ≤ (K : Int) - 1
            · obtain ⟨p, hp⟩ : ∃ p : Nat, a + (q : Int) = (p : Int) := ⟨(a + q).toNat, by omega⟩
              have hcb : inB 0 ((K : Int) - 1) (p : Int) = true := by rw [inB_iff]; omega
              have hset := ownsInts_set ho (scrP_length _ _ _ _) p (L.getD q 0)
              rw [show p = (a + (q : Int)).toNat by omega, scrP_in L K a q hin.1 hin.2, show (a + (q : Int)).toNat = p by omega] at hset
              obtain ⟨ao', cap', he, hL | ⟨g', rfl, hBg, hg', _, hc⟩⟩ := ownsInts_shape ho
              · have := scrP_length L K a q; rw [hL] at this; simp at this; omega
              simp only [Value.slice.injEq, Option.some.injEq, Addr.mk.injEq] at he
              obtain ⟨⟨rfl, -⟩, -⟩ := he
              have hpK : p < K := by omega
              have hpi : (p : Int) < (K : Int) := by omega
              have hcell := hc p (by rw [scrP_length]; exact hpK)
              have hfr := ownsInts_frozen ho (by rw [scrP_length]; omega) p
              have hbs : Below g wo (wr.setCell ⟨g, p, none⟩ (.int .i64 (L.getD q 0))) := hbi.setCell (Nat.le_refl _) _
              have hss : g < (wr.setCell ⟨g, p, none⟩ (.int .i64 (L.getD q 0))).heap.size := by simpa using hsi
              have HB := Lib.hid hcb
              clear hc ho hcb
              go_wp2_with (first | (go_at_call 36; refine (l1In_any _ _ _ _).mono ?_; (try rw [hp]); rw [HB.out]; rintro e w' ⟨rfl, rfl⟩))
              go_roundw
              case rel => exact ⟨q + 1, by omega, by go_num, hset, hbs, hss⟩
              case measure => simp [intOf]; omega
            · have hcb : inB 0 ((K : Int) - 1) (a + (q : Int)) = false := by rw [inB_not]; omega
              have HB := Lib.hid hcb
              rw [scrP_out L K a q (by omega)] at ho
              clear hcb
              go_wp2_with (first | (go_at_call 36; refine (l1In_any _ _ _ _).mono ?_; rw [HB.out]; rintro e w' ⟨rfl, rfl⟩))
              go_roundw
              case rel => exact ⟨q + 1, by omega, by go_num, ho, hbi, hsi⟩
              case measure => simp [intOf]; omega
          · have hqn2 : q = n := by omega
            subst hqn2
            have hsc := scr_below HO.out (show Below wo.heap.size wo wr by rw [HG.out]; exact hbi) (Nat.le_refl _)
            have HSc := Lib.hid hsc
            rw [← HRj.out] at ho
            have hlR : (scrR L K j).length = K := scrP_length _ _ _ _
            have hbwi : Below w1.heap.size w1 wr := belowThen hbw (show Below wo.heap.size wo wr by rw [HG.out]; exact hbi)
            have hgB : w1.heap.size ≤ g := by rw [← HG.out]; exact hsM
            have ho2 := Lib.hid (ownsInts_raise ho hgB)
            clear ho hsc
            go_wp2_with (at_builtin; refine wpAppendScr wr (by rfl) _ _ (by rfl) w1.heap.size _ j K gs (scrR L K) (by rfl) HSc.out g ho2.out hlR hgB hsi (fun i hi => by rw [← HG.out]; exact HLast.out i hi) (by rfl) (by omega) (by omega) ?_; intro ao4 cap4 w4 hown4 hb4)
            go_roundw
            case rel =>
              exact ⟨j + 1, _, by omega, by rw [← ha]; go_num, hown4, hbwi.trans hb4⟩
            case measure => simp [intOf]; omega
      · have hjn : j = n + K - 1 := by omega
        subst hjn
        go_wp2
        go_ret
        exact ⟨_, _, gs, rfl, scr_below HO.out (Below.refl _ _) hb01.size, belowThen hb01 hbw⟩
end Go.Proofs.YtfdmcnnjifggnaaDoor

namespace Go.Proofs.YtfdmcnnjifggnaaDoor
open Go.RowKit

set_option maxHeartbeats 2000000 in
set_option maxRecDepth 100000 in
theorem scroll_any (s : ByteArray) (K : Nat) (hK : 1 ≤ K) (hK2 : K ≤ 6) (hs : s.size ≤ 12) (hall : allIn s = true) (w : World) :
    Calls Tryd.prog 40 #[.string s, .int .i64 K] w (RetScr (scrM s.size K) K (scrR (rowW s) K) w) := by
  have HL := Lib.hid (fun W => rowOfWord_any s (by omega) hall W)
  have hn := rowW_length s
  obtain ⟨i0, hi, hz0, hz1, hz2⟩ := info_parts infoInt
  generalize rowW s = L at HL hn ⊢
  generalize hsz : s.size = n at hs hn ⊢
  have HSz := Lib.hid hsz
  have HN := Lib.hid hn
  clear hn hsz hall
  have hRL : ∀ j, scrR L K j = scrP L K ((K : Int) - 1 - j) n := fun j => by unfold scrR; rw [HN.out]
  have HRL := Lib.hid hRL
  clear hRL
  have HLS : Hid (∀ W, Calls Tryd.prog 53 #[.string s] W fun e w' => ∃ ao cap, e = .returned (.slice ao n cap) ∧ RdI w' ao L ∧ Below W.heap.size W w') := Lib.hid fun W => (HL.out W).mono fun e w' ⟨ao, cap, he, ho, hb⟩ => ⟨ao, cap, by rw [HN.out] at he; exact he, RdI_owns ho, hb⟩
  clear HL
  by_cases hn0 : n = 0
  · subst hn0
    have he : (s.toList.isEmpty) = true := by
      have : s.toList.length = 0 := by rw [Lib.toList_data, size_len]; exact HSz.out
      rw [List.isEmpty_iff]; exact List.eq_nil_of_length_eq_zero this
    have hA1 := @cellAlloc; have hA2 := @frozenAlloc; have hA3 := @setCellAlloc; go_enter Tryd.func40, Tryd.ntmps40
    go_wp2
    go_ret
    exact ⟨none, 0, fun _ => 0, rfl, scr_nil _ _ _ _ _, Below.refl _ _⟩
  · have hM : scrM n K = n + K - 1 := by unfold scrM; rw [if_neg hn0]
    rw [hM]
    have hn0i : ((n : Int) == 0) = false := by simp; omega
    have he : (s.toList.isEmpty) = false := by
      have : s.toList.length = n := by rw [Lib.toList_data, size_len]; exact HSz.out
      rw [Bool.eq_false_iff, ne_eq, List.isEmpty_iff]
      intro h
      rw [h] at this
      simp at this; omega
    have hA1 := @cellAlloc; have hA2 := @frozenAlloc; have hA3 := @setCellAlloc; go_enter Tryd.func40, Tryd.ntmps40
    go_wp2_with (first | (go_at_call 53; refine (HLS.out _).mono ?_; rintro e w1 ⟨ao, cap, rfl, hr, hb1⟩))
    have hb01 := hb1
    go_loopw [6, 20] (fun v i wr => ∃ (j : Nat) (gs : Nat → Nat), j ≤ n + K - 1 ∧ i = .int .i64 j ∧ scr wr w1.heap.size v j K gs (scrR L K) ∧ Below w1.heap.size w1 wr) (fun _ i _ => (n + K) - (intOf i).toNat)
    case atStart => exact ⟨0, fun _ => 0, by omega, by go_num, scr_nil _ _ _ _ _, Below.refl _ _⟩
    case round =>
      obtain ⟨j, gs, hj, rfl, hown, hbw⟩ := hrel
      have hrr := RdI_below hr hbw
      have HO := Lib.hid hown
      have hsM := hbw.size
      obtain ⟨ao3, cap3, rfl, -⟩ := scr_read hown
      clear hown hb1 hr
      by_cases hlt : j < n + K - 1
      · have hRj := HRL.out j
        have hlast : ∀ i, i < j → gs i < wr.heap.size := fun i hi => (HO.out.2.1 i hi).2.1
        have HLast := Lib.hid hlast
        clear hlast
        generalize ha : (K : Int) - 1 - (j : Int) = a at hRj ⊢
        have hcond : decide ((j : Int) < (n : Int) + (K : Int) - 1) = true := by simp; omega
        have HRj := Lib.hid hRj
        clear hRj
        go_wp2_with (at_make; refine wpList_make_full _ (by rfl) _ _ _ (by rfl) wr.heap.size 3 i0 (.int .i64 0) 1 Tryd.underlying24 hi hz0 hz1 _ _ _ _ K (by rfl) (by rfl) (by rfl) (by rfl) (by rw [hz2]; omega) (by unfold maxLen; omega) (Nat.le_refl _) ?_; intro w2 hown2 hg2)
        have hrow : ownsInts w2 wr.heap.size (.slice (some ⟨wr.heap.size, 0, none⟩) K K) (scrQ L K a 0) := by
          rw [scrQ_zero]
          refine .inl ?_
          have e1 : (madeCells (Value.int .i64 0).cells (K * 1)).toList = (List.replicate K (0 : Int)).map (Value.int .i64) := by
            rw [Nat.mul_one]; exact (toList_madeCells_one _ _).trans (by simp)
          rw [e1] at hown2
          simpa using hown2
        have hb2 : Below wr.heap.size wr w2 := (Below.refl _ _).grown hg2 (Nat.le_refl _) (fun k hk => by cases hk)
        have hs2 : wr.heap.size < w2.heap.size := by
          obtain ⟨g9, c9, cur9, hv9, _, hg9⟩ := ownsG_block (show ownsG w2 wr.heap.size 3 1 _ _ _ from hrow) (by rw [scrQ_length]; omega)
          simp only [Value.slice.injEq, Option.some.injEq, Addr.mk.injEq] at hv9
          obtain ⟨⟨rfl, -⟩, -⟩ := hv9
          exact (Array.getElem?_eq_some_iff.1 hg9).1
        clear hown2 hg2
        obtain ⟨g, hg⟩ : ∃ g, wr.heap.size = g := ⟨_, rfl⟩
        rw [hg] at hrow hb2 hs2 ⊢
        have HG := Lib.hid hg
        clear hg
        obtain ⟨wo, hwo⟩ : ∃ wo, wo = wr := ⟨_, rfl⟩
        subst hwo
        go_loopw [27] (fun i wr => ∃ q : Nat, q ≤ K ∧ i = .int .i64 q ∧ ownsInts wr g (.slice (some ⟨g, 0, none⟩) K K) (scrQ L K a q) ∧ Below g wo wr ∧ g < wr.heap.size) (fun i _ => K - (intOf i).toNat)
        case atStart => exact ⟨0, by omega, rfl, hrow, hb2, hs2⟩
        case round =>
          obtain ⟨q, hq, rfl, ho, hbi, hsi⟩ := hrel
          clear hrow hb2 hs2
          by_cases hqn : q < K
          · have hqi : (q : Int) < (K : Int) := by omega
            obtain ⟨x, hx⟩ : ∃ x : Int, (j : Int) - ((K : Int) - 1) + (q : Int) = x := ⟨_, rfl⟩
            have hxa : (q : Int) - a = x := by omega
            by_cases hin : 0 ≤ x ∧ x ≤ (n : Int) - 1
            · have hr2 := RdI_below hrr (by rw [HG.out]; exact hbi)
              rcases hr2 with h | ⟨b1, o1, rfl, hb1', hc1⟩
              · have := HN.out; rw [h] at this; simp at this; omega
              obtain ⟨p, hp⟩ : ∃ p : Nat, x = (p : Int) := ⟨x.toNat, by omega⟩
              subst hp
              have hpn : p < n := by omega
              have hpi : (p : Int) < (n : Int) := by omega
              have hy := hc1 p (by rw [HN.out]; omega)
              have hcb : inB 0 ((n : Int) - 1) (p : Int) = true := by rw [inB_iff]; omega
              have hset := ownsInts_set ho (scrQ_length _ _ _ _) q (L.getD p 0)
              have hq1 := scrQ_in L K a q hqn (by rw [HN.out]; omega)
              rw [show ((q : Int) - a).toNat = p by omega] at hq1
              rw [hq1] at hset
              obtain ⟨ao', cap', he, hL | ⟨g', rfl, hBg, hg', _, hc⟩⟩ := ownsInts_shape ho
              · have := scrQ_length L K a q; rw [hL] at this; simp at this; omega
              simp only [Value.slice.injEq, Option.some.injEq, Addr.mk.injEq] at he
              obtain ⟨⟨rfl, -⟩, -⟩ := he
              have hcell := hc q (by rw [scrQ_length]; exact hqn)
              have hfr := ownsInts_frozen ho (by rw [scrQ_length]; omega) q
              have hbs : Below g wo (wr.setCell ⟨g, q, none⟩ (.int .i64 (L.getD p 0))) := hbi.setCell (Nat.le_refl _) _
              have hss : g < (wr.setCell ⟨g, q, none⟩ (.int .i64 (L.getD p 0))).heap.size := by simpa using hsi
              have HB := Lib.hid hcb
              clear hc ho hcb hc1 hq1
              go_wp2_with (first | (go_at_call 34; refine (within_any _ _ _ _).mono ?_; (try rw [hx]); rw [HB.out]; rintro e w' ⟨rfl, rfl⟩))
              go_roundw
              case rel => exact ⟨q + 1, by omega, by go_num, hset, hbs, hss⟩
              case measure => simp [intOf]; omega
            · have hcb : inB 0 ((n : Int) - 1) x = false := by rw [inB_not]; omega
              have HB := Lib.hid hcb
              rw [scrQ_out L K a q (by rw [HN.out]; omega)] at ho
              clear hcb
              go_wp2_with (first | (go_at_call 34; refine (within_any _ _ _ _).mono ?_; (try rw [hx]); rw [HB.out]; rintro e w' ⟨rfl, rfl⟩))
              go_roundw
              case rel => exact ⟨q + 1, by omega, by go_num, ho, hbi, hsi⟩
              case measure => simp [intOf]; omega
          · have hqn2 : q = K := by omega
            subst hqn2
            have hsc := scr_below HO.out (show Below wo.heap.size wo wr by rw [HG.out]; exact hbi) (Nat.le_refl _)
            have HSc := Lib.hid hsc
            rw [scrQ_all, HN.out, ← HRj.out] at ho
            have hlR : (scrR L q j).length = q := scrP_length _ _ _ _
            have hbwi : Below w1.heap.size w1 wr := belowThen hbw (show Below wo.heap.size wo wr by rw [HG.out]; exact hbi)
            have hgB : w1.heap.size ≤ g := by rw [← HG.out]; exact hsM
            have ho2 := Lib.hid (ownsInts_raise ho hgB)
            clear ho hsc
            go_wp2_with (at_builtin; refine wpAppendScr wr (by rfl) _ _ (by rfl) w1.heap.size _ j q gs (scrR L q) (by rfl) HSc.out g ho2.out hlR hgB hsi (fun i hi => by rw [← HG.out]; exact HLast.out i hi) (by rfl) (by omega) (by omega) ?_; intro ao4 cap4 w4 hown4 hb4)
            go_roundw
            case rel => exact ⟨j + 1, _, by omega, by go_num, hown4, hbwi.trans hb4⟩
            case measure => simp [intOf]; omega
      · have hjn : j = n + K - 1 := by omega
        subst hjn
        go_wp2
        go_ret
        exact ⟨_, _, gs, rfl, scr_below HO.out (Below.refl _ _) hb01.size, belowThen hb01 hbw⟩
theorem scroll_nil (s : ByteArray) (K : Nat) (h0 : s.size = 0) (w : World) : Calls Tryd.prog 40 #[.string s, .int .i64 K] w fun e w' => e = .returned (.slice none 0 0) ∧ w = w' := by
  have he : (s.toList.isEmpty) = true := by
    have : s.toList.length = 0 := by rw [Lib.toList_data, size_len]; exact h0
    rw [List.isEmpty_iff]; exact List.eq_nil_of_length_eq_zero this
  clear h0
  have hA1 := @cellAlloc; have hA2 := @frozenAlloc; have hA3 := @setCellAlloc; go_enter Tryd.func40, Tryd.ntmps40
  go_wp2
  go_ret
  exact ⟨rfl, rfl⟩
end Go.Proofs.YtfdmcnnjifggnaaDoor

namespace Go.Proofs.YtfdmcnnjifggnaaDoor
open Go.RowKit

def scrB (s : ByteArray) (k : Int) : Bool := wordB s 12 && inB 1 6 k
def scrN (s : ByteArray) (k : Int) : Nat := if scrB s k = true then scrM s.size k.toNat else 0
def RetScrB (m K : Nat) (R : Nat → List Int) (q : Bool) (w : World) (e : Ending) (w' : World) : Prop := ∃ ao cap gs, e = .returned (.tuple #[.slice ao m cap, .bool q]) ∧ scr w' w.heap.size (.slice ao m cap) m K gs R ∧ Below w.heap.size w w'
theorem scrN_le (s : ByteArray) (k : Int) : scrN s k ≤ 17 := by
  unfold scrN
  split
  · rename_i h
    simp only [scrB, wordB, Bool.and_eq_true, decide_eq_true_eq, inB_iff] at h
    unfold scrM
    split <;> omega
  · omega
set_option maxHeartbeats 1000000 in
theorem ScrollRowsS_any (s : ByteArray) (k : Int) (hs : s.size ≤ maxLen) (w : World) : Calls Tryd.prog 14 #[.string s, .int .i64 k] w (RetScrB (scrN s k) k.toNat (scrR (rowW s) k.toNat) (scrB s k) w) := by
  have HW := Lib.hid (fun W => l10Word_any s 12 (by omega) hs W)
  have hsc : wordB s 12 = true → inB 1 6 k = true → (1 ≤ k.toNat ∧ k.toNat ≤ 6 ∧ s.size ≤ 12 ∧ allIn s = true ∧ (k.toNat : Int) = k) := fun h1 h2 => by
    simp only [wordB, Bool.and_eq_true, decide_eq_true_eq] at h1
    rw [inB_iff] at h2
    exact ⟨by omega, by omega, h1.1, h1.2, by omega⟩
  have HScr : Hid (∀ W, wordB s 12 = true → inB 1 6 k = true → Calls Tryd.prog 42 #[.string s, .int .i64 k] W (RetScr (scrM s.size k.toNat) k.toNat (scrR (rowW s) k.toNat) W)) := Lib.hid fun W h1 h2 => by
    obtain ⟨a1, a2, a3, a4, a5⟩ := hsc h1 h2
    have := l10Scroll_any s k.toNat a1 a2 a3 a4 W
    rw [a5] at this
    exact this
  unfold scrN scrB
  clear hsc hs
  generalize hq1 : wordB s 12 = q1 at *
  generalize hq2 : inB 1 6 k = q2 at *
  clear hq1
  have H2 := Lib.hid hq2
  clear hq2
  rcases q1 with _ | _
  · have hA1 := @cellAlloc; have hA2 := @frozenAlloc; have hA3 := @setCellAlloc; go_enter Tryd.func14, Tryd.ntmps14
    go_wp2_with (first | (go_at_call 41; refine (HW.out _).mono ?_; rintro e w' ⟨rfl, rfl⟩))
    go_ret2
    exact ⟨_, _, fun _ => 0, rfl, scr_zero _ _ _ _ _ _, by (repeat (first | assumption | exact Below.refl _ _ | refine belowThen ?_ (Go.Joins.below_alloc1 _ _) | apply Below.drew | refine belowThen ?_ (by assumption) | refine belowThen ?_ (Go.Joins.below_draws _ _ _) | refine Below.setCell ?_ (by first | exact Nat.le_refl _ | (simp; done) | (simp; omega)) _))⟩
  rcases q2 with _ | _
  · have hA1 := @cellAlloc; have hA2 := @frozenAlloc; have hA3 := @setCellAlloc; go_enter Tryd.func14, Tryd.ntmps14
    go_wp2_with (first | (go_at_call 41; refine (HW.out _).mono ?_; rintro e w' ⟨rfl, rfl⟩) | (go_at_call 36; refine (l1In_any _ _ _ _).mono ?_; rw [H2.out]; rintro e w' ⟨rfl, rfl⟩))
    go_ret2
    exact ⟨_, _, fun _ => 0, rfl, scr_zero _ _ _ _ _ _, by (repeat (first | assumption | exact Below.refl _ _ | refine belowThen ?_ (Go.Joins.below_alloc1 _ _) | apply Below.drew | refine belowThen ?_ (by assumption) | refine belowThen ?_ (Go.Joins.below_draws _ _ _) | refine Below.setCell ?_ (by first | exact Nat.le_refl _ | (simp; done) | (simp; omega)) _))⟩
  · have HScr2 := Lib.hid (fun W => HScr.out W rfl rfl)
    rw [if_pos (show (true && true) = true from rfl)]
    generalize scrM s.size k.toNat = M at HScr2 ⊢
    generalize scrR (rowW s) k.toNat = R at HScr2 ⊢
    clear HScr
    have hA1 := @cellAlloc; have hA2 := @frozenAlloc; have hA3 := @setCellAlloc; go_enter Tryd.func14, Tryd.ntmps14
    go_wp2_with (first | (go_at_call 41; refine (HW.out _).mono ?_; rintro e w' ⟨rfl, rfl⟩) | (go_at_call 36; refine (l1In_any _ _ _ _).mono ?_; rw [H2.out]; rintro e w' ⟨rfl, rfl⟩) | (go_at_call 42; refine (HScr2.out _).mono ?_; rintro e w1 ⟨ao, cap, gs, rfl, hsc, hb1⟩))
    go_ret2
    exact ⟨_, _, gs, rfl, hsc, hb1⟩
theorem isScroll_any (s : ByteArray) (k : Int) (hs : s.size ≤ maxLen) (w : World) : Calls Tryd.prog 39 #[.string s, .int .i64 k] w fun e w' => e = .returned (.bool (scrB s k)) ∧ Below w.heap.size w w' := by
  have HW := Lib.hid (fun W => IsWordI_any s W hs)
  unfold scrB
  clear hs
  generalize hq1 : wordB s 12 = q1 at *
  generalize hq2 : inB 1 6 k = q2 at *
  clear hq1
  have H2 := Lib.hid hq2
  clear hq2
  rcases q1 with _ | _
  · have hA1 := @cellAlloc; have hA2 := @frozenAlloc; have hA3 := @setCellAlloc; go_enter Tryd.func39, Tryd.ntmps39
    go_wp2_with (first | (go_at_call 60; refine (HW.out _).mono ?_; rintro e w1 ⟨rfl, hb1⟩))
    go_ret
    exact ⟨rfl, hb1⟩
  · have hA1 := @cellAlloc; have hA2 := @frozenAlloc; have hA3 := @setCellAlloc; go_enter Tryd.func39, Tryd.ntmps39
    go_wp2_with (first | (go_at_call 60; refine (HW.out _).mono ?_; rintro e w1 ⟨rfl, hb1⟩) | (go_at_call 34; refine (within_any _ _ _ _).mono ?_; rw [H2.out]; rintro e w' ⟨rfl, rfl⟩))
    go_ret
    exact ⟨rfl, hb1⟩
set_option maxHeartbeats 1000000 in
theorem ScrollRowsI_any (s : ByteArray) (k : Int) (hs : s.size ≤ maxLen) (w : World) : Calls Tryd.prog 13 #[.string s, .int .i64 k] w (RetScrB (scrN s k) k.toNat (scrR (rowW s) k.toNat) (scrB s k) w) := by
  have HW := Lib.hid (fun W => isScroll_any s k hs W)
  have hsc : scrB s k = true → (1 ≤ k.toNat ∧ k.toNat ≤ 6 ∧ s.size ≤ 12 ∧ allIn s = true ∧ (k.toNat : Int) = k) := fun h1 => by
    simp only [scrB, wordB, Bool.and_eq_true, decide_eq_true_eq, inB_iff] at h1
    exact ⟨by omega, by omega, h1.1.1, h1.1.2, by omega⟩
  have HScr : Hid (∀ W, scrB s k = true → Calls Tryd.prog 40 #[.string s, .int .i64 k] W (RetScr (scrM s.size k.toNat) k.toNat (scrR (rowW s) k.toNat) W)) := Lib.hid fun W h1 => by
    obtain ⟨a1, a2, a3, a4, a5⟩ := hsc h1
    have := scroll_any s k.toNat a1 a2 a3 a4 W
    rw [a5] at this
    exact this
  unfold scrN
  clear hsc hs
  generalize hq1 : scrB s k = q1 at *
  clear hq1
  rcases q1 with _ | _
  · have hA1 := @cellAlloc; have hA2 := @frozenAlloc; have hA3 := @setCellAlloc; go_enter Tryd.func13, Tryd.ntmps13
    go_wp2_with (first | (go_at_call 39; refine (HW.out _).mono ?_; rintro e w1 ⟨rfl, hb1⟩))
    go_ret2
    exact ⟨_, _, fun _ => 0, rfl, scr_nil _ _ _ _ _, hb1⟩
  · have HScr2 := Lib.hid (fun W => HScr.out W rfl)
    rw [if_pos rfl]
    generalize scrM s.size k.toNat = M at HScr2 ⊢
    generalize scrR (rowW s) k.toNat = R at HScr2 ⊢
    clear HScr
    have hA1 := @cellAlloc; have hA2 := @frozenAlloc; have hA3 := @setCellAlloc; go_enter Tryd.func13, Tryd.ntmps13
    go_wp2_with (first | (go_at_call 39; refine (HW.out _).mono ?_; rintro e w1 ⟨rfl, hb1⟩) | (go_at_call 40; refine (HScr2.out _).mono ?_; rintro e w2 ⟨ao, cap, gs, rfl, hsc, hb2⟩))
    go_ret2
    exact ⟨_, _, gs, rfl, scr_below hsc (Below.refl _ _) hb1.size, belowThen hb1 hb2⟩
end Go.Proofs.YtfdmcnnjifggnaaDoor

namespace Go.Proofs.YtfdmcnnjifggnaaDoor
open Go.RowKit

theorem cut_one (s : ByteArray) (j : Nat) (h : j < s.size) : s.extract j (j + 1) = ⟨#[s[j]'h]⟩ := by
  refine ByteArray.ext (Array.toList_inj.1 ?_)
  have hl : j < s.data.toList.length := by rw [size_len]; exact h
  rw [ByteArray.data_extract, Array.toList_extract, List.extract_eq_take_drop, List.drop_eq_getElem_cons hl, show j + 1 - j = 1 by omega, List.take_succ_cons, List.take_zero]
  rfl
theorem row_letter (s : ByteArray) (h : allIn s = true) (j : Nat) (hj : j < s.size) : letOk ((rowW s).getD j 0) = true ∧ letS ((rowW s).getD j 0) = s.extract j (j + 1) := by
  rw [rowW_at s j hj, cut_one s j hj]
  exact letS_byte _ (isL_at h j hj)
theorem scrP_at (L : List Int) (K : Nat) (a : Int) (n p : Nat) (hp : p < K) (h1 : a ≤ (p : Int)) (h2 : (p : Int) < a + n) : (scrP L K a n).getD p 0 = L.getD ((p : Int) - a).toNat 0 := by
  unfold scrP
  rw [List.getD_eq_getElem?_getD, List.getElem?_map, List.getElem?_range hp, Option.map_some, if_pos ⟨h1, h2⟩]
  rfl
theorem scr_ends {s : ByteArray} {k : Int} (h : scrB s k = true) (h0 : 0 < s.size) : ∃ K : Nat, k = (K : Int) ∧ 1 ≤ K ∧ K ≤ 6 ∧ scrN s k = s.size + K - 1 ∧ s.size ≤ 12 ∧
    letOk ((scrR (rowW s) K 0).getD (K - 1) 0) = true ∧ letS ((scrR (rowW s) K 0).getD (K - 1) 0) = s.extract 0 1 ∧
    letOk ((scrR (rowW s) K (s.size + K - 2)).getD 0 0) = true ∧ letS ((scrR (rowW s) K (s.size + K - 2)).getD 0 0) = s.extract (s.size - 1) s.size := by
  have hb := h
  unfold scrB at hb
  rw [Bool.and_eq_true, inB_iff] at hb
  obtain ⟨h1, h2⟩ := wordB_all hb.1
  obtain ⟨K, rfl⟩ := Int.eq_ofNat_of_zero_le (show 0 ≤ k by omega)
  have hl := rowW_length s
  have e1 : (scrR (rowW s) K 0).getD (K - 1) 0 = (rowW s).getD 0 0 := by
    unfold scrR
    rw [scrP_at _ _ _ _ _ (by omega) (by omega) (by omega)]
    congr 1
    omega
  have e2 : (scrR (rowW s) K (s.size + K - 2)).getD 0 0 = (rowW s).getD (s.size - 1) 0 := by
    unfold scrR
    rw [scrP_at _ _ _ _ _ (by omega) (by omega) (by omega)]
    congr 1
    omega
  have l1 := row_letter s h1 0 h0
  have l2 := row_letter s h1 (s.size - 1) (by omega)
  rw [show s.size - 1 + 1 = s.size by omega] at l2
  refine ⟨K, rfl, by omega, by omega, ?_, h2, ?_⟩
  · unfold scrN scrM
    rw [if_pos h, if_neg (by omega), Int.toNat_natCast]
  · rw [e1, e2]
    exact ⟨l1.1, l1.2, l2.1, l2.2⟩
end Go.Proofs.YtfdmcnnjifggnaaDoor
