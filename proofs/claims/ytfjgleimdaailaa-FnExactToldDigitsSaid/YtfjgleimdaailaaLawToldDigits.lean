/- For every Fault, ToldDigits of the program and of the reference agree, and hand back new memory. No conditions. -/
import Derived.Test.YtfjgleimdaailaaGroups
import Derived.Test.YtfjgleimdaailaaSlice
namespace Go.Proofs.Ytfjgleimdaailaa
open Go.RowKit

/-- The digits that are told, of the first k groups. -/
def toldP (LL : List (List Int)) (k : Nat) : List Int := ((LL.take k).filter fun g => g.length == 1).map fun g => g.getD 0 0
theorem toldP_succ (LL : List (List Int)) (k : Nat) (h : k < LL.length) : toldP LL (k + 1) = if ((LL.getD k []).length == 1) = true then toldP LL k ++ [(LL.getD k []).getD 0 0] else toldP LL k := by
  unfold toldP
  rw [List.take_succ_eq_append_getElem h, List.filter_append, List.map_append]
  have e : LL.getD k [] = LL[k] := by simp [h]
  rw [e]
  by_cases hg : (LL[k].length == 1) = true
  · rw [if_pos hg]; simp [List.filter_cons, hg]
  · rw [if_neg hg]; simp [List.filter_cons, hg]
theorem toldP_le (LL : List (List Int)) (k : Nat) : (toldP LL k).length ≤ LL.length := by
  simp only [toldP, List.length_map]
  refine Nat.le_trans (List.length_filter_le _ _) ?_
  rw [List.length_take]; omega
/-- A slice of the call's own that holds L, and a bool, are returned. -/
def RetIntsB (L : List Int) (ok : Bool) (w : World) (e : Ending) (w' : World) : Prop := ∃ ao cap, e = .returned (.tuple #[.slice ao L.length cap, .bool ok]) ∧ ownsInts w' w.heap.size (.slice ao L.length cap) L ∧ Below w.heap.size w w'
/-- What ToldDigits gives. -/
def toldD (d l : Int) : List Int := if faultB d l = true then toldP (groupsL d l) (groupsL d l).length else []
theorem toldD_le (d l : Int) : (toldD d l).length ≤ 10 := by
  unfold toldD; split
  · exact Nat.le_trans (toldP_le _ _) (groupsP_le d l 10)
  · simp
set_option maxHeartbeats 400000 in
theorem ToldDigitsS_any (d l : Int) (w : World) : Calls Try.prog 36 #[.agg #[.int .i64 d, .int .i64 l]] w (RetIntsB (toldD d l) (faultB d l) w) := by
  by_cases h1 : faultB d l = true
  · have hd := faultB_1 h1
    have eA : toldD d l = toldP (groupsL d l) (groupsL d l).length := by simp [toldD, h1]
    rw [eA, h1]; clear eA
    have hgl : (groupsL d l).length ≤ 10 := groupsP_le d l 10
    have hmem : ∀ g ∈ groupsL d l, 0 < g.length := fun g hg => (groupsP_mem hg (Nat.le_refl _)).1
    generalize hL : groupsL d l = LL at hgl hmem ⊢
    have HL := Lib.hid hL
    clear hL
    have hA1 := @cellAlloc; have hA2 := @frozenAlloc; have hA3 := @setCellAlloc; go_enter Try.func36, Try.ntmps36
    go_wp2_with (first | (go_at_call 43; refine (l3Fault_any _ _ _).mono ?_; rw [h1]; rintro e w1 ⟨rfl, hb1⟩; have hs1 := hb1.size; (try simp only [heapAlloc, heapSet] at hs1); have hc1 := cellRule hb1; have hf1 := frozenRule hb1) | (go_at_call 61; refine (l3Groups_any _ _ hd _).mono ?_; rw [HL.out]; rintro e w2 ⟨ao, cap, rfl, hown, hb2⟩))
    have hs1 : w.heap.size + 1 ≤ w2.heap.size := by have h1 := hb1.size; have h2 := hb2.size; simp at h1; omega
    go_loopw [4, 6] (fun v i wr => ∃ k : Nat, k ≤ LL.length ∧ i = .int .i64 k ∧ ownsInts wr w2.heap.size v (toldP LL k) ∧ Below w2.heap.size w2 wr) (fun _ i _ => LL.length - (intOf i).toNat)
    case atStart => exact ⟨0, by omega, rfl, ownsInts_zero _ _ _, Below.refl _ _⟩
    case round =>
      obtain ⟨k, hk, rfl, hv, hbw⟩ := hrel
      have hsz := hbw.size
      by_cases hlt : k < LL.length
      · have hown' := ownsIntss_below hown hbw (Nat.le_refl _)
        obtain ⟨ao', cap', he, hL | ⟨g, rfl, hBg, hg, hcap, hc⟩⟩ := ownsIntss_shape hown'
        · rw [hL] at hlt; simp at hlt
        simp only [Value.slice.injEq] at he
        obtain ⟨rfl, -, -⟩ := he
        obtain ⟨bo, cb, hcell, hin⟩ := hc k hlt
        have hpos : 0 < (LL.getD k []).length := by
          have := hmem _ (List.getElem_mem hlt)
          simpa [hlt] using this
        have hsucc := toldP_succ LL k hlt
        have hle := toldP_le LL k
        obtain ⟨bo', cb', he, hL | ⟨g2, rfl, hBg2, hg2, hcap2, hc2⟩⟩ := ownsInts_shape hin
        · rw [hL] at hpos; simp at hpos
        simp only [Value.slice.injEq] at he
        obtain ⟨rfl, -, -⟩ := he
        have hcell2 := hc2 0 hpos
        generalize (LL.getD k []).getD 0 0 = x at hcell2 hsucc
        clear hc hc2 hown hmem hown' hin
        generalize (LL.getD k []).length = m at hcell hsucc hpos hcap2
        by_cases ht : m = 1
        · have ht2 : (m == 1) = true := by simp [ht]
          rw [if_pos ht2] at hsucc
          subst ht
          have HS := Lib.hid hsucc
          clear hsucc ht2
          go_wp2_with (at_builtin; refine wpAppendInt wr (by rfl) _ _ (by rfl) w2.heap.size _ _ (by rfl) hv x (by rfl) (by omega) (by omega) ?_; intro co cc w4 hv4 hb4)
          go_roundw
          case rel => exact ⟨k + 1, by omega, by go_num, by rw [HS.out]; exact hv4, hbw.trans hb4⟩
          case measure => simp [intOf]; omega
        · have ht2 : (m == 1) = false := by simp [ht]
          have ht3 : ((m : Int) == 1) = false := by simp; omega
          rw [ht2] at hsucc
          have HS := Lib.hid hsucc
          clear hsucc ht2
          go_wp2
          go_roundw
          case rel => exact ⟨k + 1, by omega, by go_num, by rw [HS.out]; exact hv, hbw⟩
          case measure => simp [intOf]; omega
      · have hkn : k = LL.length := by omega
        subst hkn
        obtain ⟨co, cc, rfl, _⟩ := ownsInts_shape hv
        go_wp2
        go_ret2
        exact ⟨co, cc, rfl, ownsInts_le hv (by omega), by (repeat (first | assumption | exact Below.refl _ _ | refine belowThen ?_ (Go.Joins.below_alloc1 _ _) | apply Below.drew | refine belowThen ?_ (by assumption) | refine belowThen ?_ (Go.Joins.below_draws _ _ _) | refine Below.setCell ?_ (by first | exact Nat.le_refl _ | (simp; done) | (simp; omega)) _))⟩
  · rw [Bool.not_eq_true] at h1
    have eA : toldD d l = [] := by simp [toldD, h1]
    rw [eA, h1]; clear eA
    have hA1 := @cellAlloc; have hA2 := @frozenAlloc; have hA3 := @setCellAlloc; go_enter Try.func36, Try.ntmps36
    go_wp2_with (first | (go_at_call 43; refine (l3Fault_any _ _ _).mono ?_; rw [h1]; rintro e w1 ⟨rfl, hb1⟩; have hs1 := hb1.size; (try simp only [heapAlloc, heapSet] at hs1); have hc1 := cellRule hb1; have hf1 := frozenRule hb1))
    go_ret2
    exact ⟨_, _, rfl, ownsInts_zero _ _ _, by (repeat (first | assumption | exact Below.refl _ _ | refine belowThen ?_ (Go.Joins.below_alloc1 _ _) | apply Below.drew | refine belowThen ?_ (by assumption) | refine belowThen ?_ (Go.Joins.below_draws _ _ _) | refine Below.setCell ?_ (by first | exact Nat.le_refl _ | (simp; done) | (simp; omega)) _))⟩
set_option maxHeartbeats 400000 in
theorem ToldDigitsI_any (d l : Int) (w : World) : Calls Try.prog 37 #[.agg #[.int .i64 d, .int .i64 l]] w (RetIntsB (toldD d l) (faultB d l) w) := by
  by_cases h1 : faultB d l = true
  · have hd := faultB_1 h1
    have eA : toldD d l = toldP (groupsL d l) (groupsL d l).length := by simp [toldD, h1]
    rw [eA, h1]; clear eA
    have hgl : (groupsL d l).length ≤ 10 := groupsP_le d l 10
    have hmem : ∀ g ∈ groupsL d l, 0 < g.length := fun g hg => (groupsP_mem hg (Nat.le_refl _)).1
    generalize hL : groupsL d l = LL at hgl hmem ⊢
    have HL := Lib.hid hL
    clear hL
    have hA1 := @cellAlloc; have hA2 := @frozenAlloc; have hA3 := @setCellAlloc; go_enter Try.func37, Try.ntmps37
    go_wp2_with (first | (go_at_call 46; refine (IsFault_any _ _ _).mono ?_; rw [h1]; rintro e w1 ⟨rfl, hb1⟩; have hs1 := hb1.size; (try simp only [heapAlloc, heapSet] at hs1); have hc1 := cellRule hb1; have hf1 := frozenRule hb1) | (go_at_call 62; refine (groups_any _ _ _).mono ?_; rw [HL.out]; rintro e w2 ⟨ao, cap, rfl, hown, hb2⟩))
    have hs1 : w.heap.size + 1 ≤ w2.heap.size := by have h1 := hb1.size; have h2 := hb2.size; simp at h1; omega
    go_loopw [4, 13] (fun v i wr => ∃ k : Nat, k ≤ LL.length ∧ i = .int .i64 k ∧ ownsInts wr w2.heap.size v (toldP LL k) ∧ Below w2.heap.size w2 wr) (fun _ i _ => LL.length - (intOf i).toNat)
    case atStart => exact ⟨0, by omega, rfl, ownsInts_nil _ _, Below.refl _ _⟩
    case round =>
      obtain ⟨k, hk, rfl, hv, hbw⟩ := hrel
      have hsz := hbw.size
      by_cases hlt : k < LL.length
      · have hown' := ownsIntss_below hown hbw (Nat.le_refl _)
        obtain ⟨ao', cap', he, hL | ⟨g, rfl, hBg, hg, hcap, hc⟩⟩ := ownsIntss_shape hown'
        · rw [hL] at hlt; simp at hlt
        simp only [Value.slice.injEq] at he
        obtain ⟨rfl, -, -⟩ := he
        obtain ⟨bo, cb, hcell, hin⟩ := hc k hlt
        have hpos : 0 < (LL.getD k []).length := by
          have := hmem _ (List.getElem_mem hlt)
          simpa [hlt] using this
        have hsucc := toldP_succ LL k hlt
        have hle := toldP_le LL k
        obtain ⟨bo', cb', he, hL | ⟨g2, rfl, hBg2, hg2, hcap2, hc2⟩⟩ := ownsInts_shape hin
        · rw [hL] at hpos; simp at hpos
        simp only [Value.slice.injEq] at he
        obtain ⟨rfl, -, -⟩ := he
        have hcell2 := hc2 0 hpos
        generalize (LL.getD k []).getD 0 0 = x at hcell2 hsucc
        clear hc hc2 hown hmem hown' hin
        generalize (LL.getD k []).length = m at hcell hsucc hpos hcap2
        by_cases ht : m = 1
        · have ht2 : (m == 1) = true := by simp [ht]
          rw [if_pos ht2] at hsucc
          subst ht
          have HS := Lib.hid hsucc
          clear hsucc ht2
          go_wp2_with (at_builtin; refine wpAppendInt wr (by rfl) _ _ (by rfl) w2.heap.size _ _ (by rfl) hv x (by rfl) (by omega) (by omega) ?_; intro co cc w4 hv4 hb4)
          go_roundw
          case rel => exact ⟨k + 1, by omega, by go_num, by rw [HS.out]; exact hv4, hbw.trans hb4⟩
          case measure => simp [intOf]; omega
        · have ht2 : (m == 1) = false := by simp [ht]
          have ht3 : ((m : Int) == 1) = false := by simp; omega
          rw [ht2] at hsucc
          have HS := Lib.hid hsucc
          clear hsucc ht2
          go_wp2
          go_roundw
          case rel => exact ⟨k + 1, by omega, by go_num, by rw [HS.out]; exact hv, hbw⟩
          case measure => simp [intOf]; omega
      · have hkn : k = LL.length := by omega
        subst hkn
        obtain ⟨co, cc, rfl, _⟩ := ownsInts_shape hv
        go_wp2
        go_ret2
        exact ⟨co, cc, rfl, ownsInts_le hv (by omega), by (repeat (first | assumption | exact Below.refl _ _ | refine belowThen ?_ (Go.Joins.below_alloc1 _ _) | apply Below.drew | refine belowThen ?_ (by assumption) | refine belowThen ?_ (Go.Joins.below_draws _ _ _) | refine Below.setCell ?_ (by first | exact Nat.le_refl _ | (simp; done) | (simp; omega)) _))⟩
  · rw [Bool.not_eq_true] at h1
    have eA : toldD d l = [] := by simp [toldD, h1]
    rw [eA, h1]; clear eA
    have hA1 := @cellAlloc; have hA2 := @frozenAlloc; have hA3 := @setCellAlloc; go_enter Try.func37, Try.ntmps37
    go_wp2_with (first | (go_at_call 46; refine (IsFault_any _ _ _).mono ?_; rw [h1]; rintro e w1 ⟨rfl, hb1⟩; have hs1 := hb1.size; (try simp only [heapAlloc, heapSet] at hs1); have hc1 := cellRule hb1; have hf1 := frozenRule hb1))
    go_ret2
    exact ⟨_, _, rfl, ownsInts_nil _ _, by (repeat (first | assumption | exact Below.refl _ _ | refine belowThen ?_ (Go.Joins.below_alloc1 _ _) | apply Below.drew | refine belowThen ?_ (by assumption) | refine belowThen ?_ (Go.Joins.below_draws _ _ _) | refine Below.setCell ?_ (by first | exact Nat.le_refl _ | (simp; done) | (simp; omega)) _))⟩

set_option maxHeartbeats 800000 in
theorem fnExactToldDigits_walk (d l : Int) (hd : -9223372036854775808 ≤ d ∧ d ≤ 9223372036854775807) (hl : -9223372036854775808 ≤ l ∧ l ≤ 9223372036854775807) (w : World) :
    Calls Try.prog 10 #[.agg #[.int .i64 d, .int .i64 l]] w fun e w' => e = .returned (.bool true) ∧ Below w.heap.size w w' := by
  have hle := toldD_le d l
  generalize hL : toldD d l = L at hle
  generalize hok : faultB d l = ok
  have HL := Lib.hid hL
  have HO := Lib.hid hok
  clear hL hok hd hl
  obtain ⟨n, hn⟩ : ∃ n, L.length = n := ⟨_, rfl⟩
  have HN := Lib.hid hn
  rw [hn] at hle
  clear hn
  have tA : True := trivial
  have tB : True := trivial
  have tC : True := trivial
  have tD : True := trivial
  have tE : True := trivial
  have hA1 := @cellAlloc; have hA2 := @frozenAlloc; have hA3 := @setCellAlloc; go_enter Try.func10, Try.ntmps10
  go_wp2_with (first
    | (go_at_call 14; clear tA; refine (toFault_any _ _ _).mono ?_; rintro e wa ⟨rfl, hba⟩; have hsa := hba.size; (try simp only [heapAlloc, heapSet] at hsa); have hca := cellRule hba; have hfa := frozenRule hba)
    | (go_at_call 36; refine (ToldDigitsS_any _ _ _).mono ?_; rw [HL.out, HO.out]; rintro e w2 ⟨ao, ca, rfl, hown2, hb2⟩; rw [HN.out] at hown2 ⊢; have hs2 := hb2.size; (try simp only [heapAlloc, heapSet] at hs2); have hc2 := cellRule hb2; have hf2 := frozenRule hb2)
    | (go_at_call 14; clear tB; refine (toFault_any _ _ _).mono ?_; rintro e w1 ⟨rfl, hb1⟩; have hs1 := hb1.size; (try simp only [heapAlloc, heapSet] at hs1); have hc1 := cellRule hb1; have hf1 := frozenRule hb1; have hr1 := RdI_below (RdI_owns hown2) hb1)
    | (go_at_call 37; clear tC; refine (ToldDigitsI_any _ _ _).mono ?_; rw [HL.out, HO.out]; rintro e w3 ⟨bo, cb, rfl, hown3, hb3⟩; rw [HN.out] at hown3 ⊢; have hs3 := hb3.size; (try simp only [heapAlloc, heapSet] at hs3); have hc3 := cellRule hb3; have hf3 := frozenRule hb3)
    | (go_at_call 27; clear tD; refine (eqIntS_same _ _ _ _ _ L _ (RdI_owns hown3) (RdI_below hr1 hb3) HN.out (by unfold maxLen; omega)).mono ?_; rintro e w4 ⟨rfl, hb4⟩; have hown4 := ownsInts_below hown3 hb4 (Nat.le_refl _))
    | (go_at_call 34; refine (markIntS_any _ _ _ _ L _ _ hown4 HN.out (by unfold maxLen; omega) (by omega) (by omega)).mono ?_; rintro e w5 ⟨rfl, hown5, hb5x⟩; have hb5 := (belowThen hb3 hb4).trans hb5x; have hs5 := hb5.size; (try simp only [heapAlloc, heapSet] at hs5); have hc5 := cellRule hb5; have hf5 := frozenRule hb5)
    | (go_at_call 35; clear tE; refine (heldIntS_any _ _ _ _ _ (RdI_owns hown5) (by unfold maxLen; omega) (by omega) (by omega)).mono ?_; rintro e w' ⟨rfl, rfl⟩)
    | (go_at_call 14; refine (toFault_any _ _ _).mono ?_; rintro e w6 ⟨rfl, hb6⟩; have hs6 := hb6.size; (try simp only [heapAlloc, heapSet] at hs6); have hc6 := cellRule hb6; have hf6 := frozenRule hb6)
    | (go_at_call 37; refine (ToldDigitsI_any _ _ _).mono ?_; rw [HL.out, HO.out]; rintro e w7 ⟨co, cc, rfl, hown7, hb7⟩; rw [HN.out] at hown7 ⊢; have hB7 := belowThen hb5 (belowThen hb6 hb7); have hs7 := hb7.size; (try simp only [heapAlloc, heapSet] at hs7); have hc7 := cellRule hb7; have hf7 := frozenRule hb7)
    | (go_at_call 27; refine (eqIntS_same _ _ _ _ _ L _ (RdI_owns hown7) (RdI_below hr1 hB7) HN.out (by unfold maxLen; omega)).mono ?_; rintro e w8 ⟨rfl, hb8⟩; have hr8 := RdI_below (RdI_below (RdI_below (RdI_owns hown5) hb6) hb7) hb8)
    | (go_at_call 35; refine (heldIntS_any _ _ _ _ _ hr8 (by unfold maxLen; omega) (by omega) (by omega)).mono ?_; rintro e w' ⟨rfl, rfl⟩))
  go_ret
  exact ⟨rfl, by (repeat (first | assumption | exact Below.refl _ _ | refine belowThen ?_ (Go.Joins.below_alloc1 _ _) | apply Below.drew | refine belowThen ?_ (by assumption) | refine belowThen ?_ (Go.Joins.below_draws _ _ _) | refine Below.setCell ?_ (by first | exact Nat.le_refl _ | (simp; done) | (simp; omega)) _))⟩
end Go.Proofs.Ytfjgleimdaailaa
namespace Go.Proofs.Ytfjgleimdaailaa.fnExactToldDigits
open Go.ChangeShapes Go.WideShapes Go.ChangeAt Go.RowKit Go.Joins
open Go.ChangeMaps (open_string shut_string)
set_option linter.unusedVariables false
theorem own : ownKnob Try.prog.godebug = none := by kernel_rfl
theorem laidOut : laidOutB Try.prog = true := by kernel_rfl
set_option maxRecDepth 100000 in
theorem lifted (os : Os) (started : os.Started) (H : Type) (enc : TypeId × Value → H) :
    ReturnsInHanded {} Try.checked os 10 .any (Rows.fnExactToldDigitsSpec.pre6 enc Try.prog Try.f10 Rows.fnExactToldDigitsRow.domain false) (Rows.fnExactToldDigitsSpec.post enc Try.prog Try.f10 false true false false) := by
  refine returnsInHanded_of_change (C := Try.checked) own started (by kernel_rfl) Try.func10
    (ChangeSpec.witness6 (enc := enc) (C := Try.checked) false ⟨#[], #[.agg #[.int .i64 0, .int .i64 0]], []⟩ 8 (by kernel_rfl) (by kernel_rfl) (by kernel_rfl) (by kernel_rfl)) ?_
  intro W base args ds gs before hval0 hW hcnd _
  have hval : ∀ (j : Nat) t v, Try.f10.params[j]? = some t → args[j]? = some v → Value.okWide Try.prog W .any base t v := hval0
  have hW' := hW
  obtain ⟨p, q, hA0, hV, rfl, hfz, hnd⟩ := hW
  have hA : DataW.TrodAll enc Try.prog W 0 (fun _ => true) true Try.f10.params.toList args.toList ds p := hA0
  rw [Try.params10] at hA hval
  obtain ⟨v0, vs0, d0, ds0, p0, q0, hargs, rfl, rfl, h0, r0⟩ := trodAll_cons hA
  obtain ⟨rfl, rfl, rfl⟩ := trodAll_nil r0
  obtain rfl : args = #[v0] := by cases args; simp_all
  obtain ⟨rfl, rfl⟩ := trodVars_none hV
  have k0 := h0
  have lt0 : ∀ x ∈ p0, x.block < W.heap.size := by obtain ⟨m, hm⟩ := k0; exact DataW.trod_lt m _ _ _ hm
  obtain ⟨x0, y0, hv0, wx0, wy0⟩ : ∃ x y : Int, v0 = .agg #[.int .i64 x, .int .i64 y] ∧ (Lit.int .i64 x).wf = true ∧ (Lit.int .i64 y).wf = true := by
    obtain ⟨c0, c1, y0, y1, m, hv, _, _, hy0, hy1⟩ := open_agg2 Try.underlying23 (by kernel_rfl) (show Try.prog.cellsOf 23 = 2 by kernel_rfl) (hval 0 23 v0 rfl rfl) h0
    obtain ⟨a, e0, _, wa⟩ := DataW.trod_int Try.underlying3 hy0
    obtain ⟨b, e1, _, wb⟩ := DataW.trod_int Try.underlying3 hy1
    simp at e0 e1; subst e0 e1
    exact ⟨a, b, hv, wa, wb⟩
  subst hv0
  clear hA0 hval0
  refine (fnExactToldDigits_walk x0 y0 (by simpa [Lit.wf, IntKind.min, IntKind.max, IntKind.signed, IntKind.bits] using wx0) (by simpa [Lit.wf, IntKind.min, IntKind.max, IntKind.signed, IntKind.bits] using wy0) W).mono fun e W' ⟨he, bel⟩ => ?_
  subst he
  exact ⟨_, rfl, _, _, _, [], _, [], hW', trodAll_mk1 (shut_bool Try.underlying4 _), (trodAll_cons_mk (Below.trod laidOut (by kernel_rfl) (of_decide_eq_true (by kernel_rfl)) k0 bel lt0) trodAll_mk0), rfl, bel.frame _, fun h => by cases h⟩
theorem over : Rows.fnExactToldDigitsRow.holds Try.pinned (OpenSpec.ofChange Rows.fnExactToldDigitsSpec) :=
  OpenClaim.holds_of_wide 10 Try.f10 rfl rfl rfl rfl rfl rfl rfl ⟨rfl, rfl, rfl, rfl, rfl⟩ rfl rfl rfl rfl rfl (by kernel_rfl) Try.func10 (by kernel_rfl)
    (of_decide_eq_true (by kernel_rfl)) (by unfold Func.isWrapper; first | (rw [if_pos (by decide +kernel)]; kernel_rfl) | (rw [if_neg (by decide +kernel)]; exact ⟨rfl, rfl⟩))
    (fun os started H enc _ => lifted os started H enc)
theorem proved : Rows.FnExactToldDigitsSaid := over
end Go.Proofs.Ytfjgleimdaailaa.fnExactToldDigits
