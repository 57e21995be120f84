/- For every Fault, ChanceSameDigit of the program and of the reference agree. No conditions. -/
import Derived.Test.YtfjgleimdaailaaGroups
import Derived.Test.YtfjgleimdaailaaFrac
import Derived.Test.YtfjgleimdaailaaEqA
namespace Go.Proofs.Ytfjgleimdaailaa
open Go.RowKit

/-- The sum of the squares of the lengths of the first k groups. -/
def sqP (LL : List (List Int)) (k : Nat) : Nat := ((LL.take k).map fun g => g.length * g.length).sum
theorem sqP_succ (LL : List (List Int)) (k : Nat) (h : k < LL.length) : sqP LL (k + 1) = sqP LL k + (LL.getD k []).length * (LL.getD k []).length := by
  unfold sqP
  rw [List.take_succ_eq_append_getElem h, List.map_append, List.sum_append]
  simp [h]
theorem sqP_le (LL : List (List Int)) (h : ∀ g ∈ LL, g.length ≤ 10) (k : Nat) : sqP LL k ≤ 100 * k := by
  induction k with
  | zero => simp [sqP]
  | succ k ih =>
    by_cases hk : k < LL.length
    · rw [sqP_succ LL k hk]
      have := h _ (List.getElem_mem hk)
      have e : LL.getD k [] = LL[k] := by simp [hk]
      rw [e]
      have := Nat.mul_le_mul this this
      omega
    · have : sqP LL (k + 1) = sqP LL k := by
        unfold sqP
        rw [List.take_of_length_le (by omega), List.take_of_length_le (by omega)]
      omega
/-- The two parts of what ChanceSameDigit gives. -/
def csdA (d l : Int) : Int := if faultB d l = true then ((sqP (groupsL d l) (groupsL d l).length / Nat.gcd (sqP (groupsL d l) (groupsL d l).length) 100 : Nat) : Int) else 0
def csdB (d l : Int) : Int := if faultB d l = true then ((100 / Nat.gcd (sqP (groupsL d l) (groupsL d l).length) 100 : Nat) : Int) else 0

set_option maxHeartbeats 400000 in
theorem ChanceSameDigitS_any (d l : Int) (w : World) : Calls Try.prog 38 #[.agg #[.int .i64 d, .int .i64 l]] w
    fun e w' => e = .returned (.tuple #[.agg #[.int .i64 (csdA d l), .int .i64 (csdB d l)], .bool (faultB d l)]) ∧ Below w.heap.size w w' := by
  by_cases h1 : faultB d l = true
  · have hd := faultB_1 h1
    have eA : csdA d l = ((sqP (groupsL d l) (groupsL d l).length / Nat.gcd (sqP (groupsL d l) (groupsL d l).length) 100 : Nat) : Int) := by simp [csdA, h1]
    have eB : csdB d l = ((100 / Nat.gcd (sqP (groupsL d l) (groupsL d l).length) 100 : Nat) : Int) := by simp [csdB, h1]
    rw [eA, eB, h1]; clear eA eB
    have hgl : (groupsL d l).length ≤ 10 := groupsP_le d l 10
    have hmem : ∀ g ∈ groupsL d l, g.length ≤ 10 := fun g hg => (groupsP_mem hg (Nat.le_refl _)).2
    have hsqle := sqP_le (groupsL d l) hmem
    generalize hL : groupsL d l = LL at hgl hmem hsqle ⊢
    have HL := Lib.hid hL
    clear hL
    have hA1 := @cellAlloc; have hA2 := @frozenAlloc; have hA3 := @setCellAlloc; go_enter Try.func38, Try.ntmps38
    go_wp2_with (first | (go_at_call 43; refine (l3Fault_any _ _ _).mono ?_; rw [h1]; rintro e w1 ⟨rfl, hb1⟩; have hs1 := hb1.size; (try simp only [heapAlloc, heapSet] at hs1); have hc1 := cellRule hb1; have hf1 := frozenRule hb1) | (go_at_call 61; refine (l3Groups_any _ _ hd _).mono ?_; rw [HL.out]; rintro e w2 ⟨ao, cap, rfl, hown, hb2⟩; have hs2 := hb2.size; (try simp only [heapAlloc, heapSet] at hs2); have hc2 := cellRule hb2; have hf2 := frozenRule hb2))
    go_loopw [4, 6] (fun s i wr => ∃ k : Nat, k ≤ LL.length ∧ i = .int .i64 k ∧ s = .int .i64 (sqP LL k) ∧ Below w2.heap.size w2 wr) (fun _ i _ => LL.length - (intOf i).toNat)
    case atStart => exact ⟨0, by omega, rfl, by simp [sqP], Below.refl _ _⟩
    case round =>
      obtain ⟨k, hk, rfl, rfl, hbw⟩ := hrel
      have hle := hsqle k
      by_cases hlt : k < LL.length
      · have hown' := ownsIntss_below hown hbw (Nat.le_refl _)
        obtain ⟨ao', cap', he, hL | ⟨g, rfl, hBg, hg, hcap, hc⟩⟩ := ownsIntss_shape hown'
        · rw [hL] at hlt; simp at hlt
        simp only [Value.slice.injEq] at he
        obtain ⟨rfl, -, -⟩ := he
        obtain ⟨bo, cb, hcell, -⟩ := hc k hlt
        have hm10 : (LL.getD k []).length ≤ 10 := by
          have := hmem _ (List.getElem_mem hlt)
          simpa [hlt] using this
        have hsucc := sqP_succ LL k hlt
        generalize (LL.getD k []).length = m at hcell hm10 hsucc
        have hmm : m * m ≤ 10 * 10 := Nat.mul_le_mul hm10 hm10
        have hmi : ((m * m : Nat) : Int) = (m : Int) * (m : Int) := by simp
        have hi0 : (0 : Int) ≤ (m : Int) * (m : Int) := by omega
        have hi1 : (m : Int) * (m : Int) ≤ 100 := by omega
        have HS := Lib.hid hsucc
        have HM := Lib.hid hmi
        clear hsucc hmi hc hown hmem hsqle hown'
        go_wp2_with fail
        go_quiet (fail)
        go_wp2
        go_roundw
        case rel => exact ⟨k + 1, by omega, by go_num, by rw [HS.out, Int.natCast_add, HM.out], hbw.trans (Go.Joins.below_draws _ _ _)⟩
        case measure => simp [intOf]; omega
      · have hkn : k = LL.length := by omega
        subst hkn
        have hb9 := hbw
        have hs9 := hb9.size; (try simp only [heapAlloc, heapSet] at hs9); have hc9 := cellRule hb9; have hf9 := frozenRule hb9
        go_wp2_with (first | (go_at_call 66; refine (l9Cut_any _ 100 (by omega) (by omega) (by omega) _).mono ?_; rintro e w3 ⟨rfl, hb3⟩; have hs3 := hb3.size; (try simp only [heapAlloc, heapSet] at hs3); have hc3 := cellRule hb3; have hf3 := frozenRule hb3))
        exact bodyPost_ret (v := .tuple #[.agg #[.int .i64 ((sqP LL LL.length / Nat.gcd (sqP LL LL.length) 100 : Nat) : Int), .int .i64 ((100 / Nat.gcd (sqP LL LL.length) 100 : Nat) : Int)], .bool true]) (by simp [results, Try.results38, go_sem, ↓IntWalk.iteOmega, *]) rfl ⟨rfl, by (repeat (first | assumption | exact Below.refl _ _ | refine belowThen ?_ (Go.Joins.below_alloc1 _ _) | apply Below.drew | refine belowThen ?_ (by assumption) | refine belowThen ?_ (Go.Joins.below_draws _ _ _) | refine Below.setCell ?_ (by first | exact Nat.le_refl _ | (simp; done) | (simp; omega)) _))⟩
  · rw [Bool.not_eq_true] at h1
    have eA : csdA d l = 0 := by simp [csdA, h1]
    have eB : csdB d l = 0 := by simp [csdB, h1]
    rw [eA, eB, h1]; clear eA eB
    have hA1 := @cellAlloc; have hA2 := @frozenAlloc; have hA3 := @setCellAlloc; go_enter Try.func38, Try.ntmps38
    go_wp2_with (first | (go_at_call 43; refine (l3Fault_any _ _ _).mono ?_; rw [h1]; rintro e w1 ⟨rfl, hb1⟩; have hs1 := hb1.size; (try simp only [heapAlloc, heapSet] at hs1); have hc1 := cellRule hb1; have hf1 := frozenRule hb1))
    exact bodyPost_ret (v := .tuple #[.agg #[.int .i64 0, .int .i64 0], .bool false]) (by simp [results, Try.results38, go_sem, ↓IntWalk.iteOmega, *]) rfl ⟨rfl, by (repeat (first | assumption | exact Below.refl _ _ | refine belowThen ?_ (Go.Joins.below_alloc1 _ _) | apply Below.drew | refine belowThen ?_ (by assumption) | refine belowThen ?_ (Go.Joins.below_draws _ _ _) | refine Below.setCell ?_ (by first | exact Nat.le_refl _ | (simp; done) | (simp; omega)) _))⟩
set_option maxHeartbeats 400000 in
theorem ChanceSameDigitI_any (d l : Int) (w : World) : Calls Try.prog 39 #[.agg #[.int .i64 d, .int .i64 l]] w
    fun e w' => e = .returned (.tuple #[.agg #[.int .i64 (csdA d l), .int .i64 (csdB d l)], .bool (faultB d l)]) ∧ Below w.heap.size w w' := by
  by_cases h1 : faultB d l = true
  · have hd := faultB_1 h1
    have eA : csdA d l = ((sqP (groupsL d l) (groupsL d l).length / Nat.gcd (sqP (groupsL d l) (groupsL d l).length) 100 : Nat) : Int) := by simp [csdA, h1]
    have eB : csdB d l = ((100 / Nat.gcd (sqP (groupsL d l) (groupsL d l).length) 100 : Nat) : Int) := by simp [csdB, h1]
    rw [eA, eB, h1]; clear eA eB
    have hgl : (groupsL d l).length ≤ 10 := groupsP_le d l 10
    have hmem : ∀ g ∈ groupsL d l, g.length ≤ 10 := fun g hg => (groupsP_mem hg (Nat.le_refl _)).2
    have hsqle := sqP_le (groupsL d l) hmem
    generalize hL : groupsL d l = LL at hgl hmem hsqle ⊢
    have HL := Lib.hid hL
    clear hL
    have hA1 := @cellAlloc; have hA2 := @frozenAlloc; have hA3 := @setCellAlloc; go_enter Try.func39, Try.ntmps39
    go_wp2_with (first | (go_at_call 46; refine (IsFault_any _ _ _).mono ?_; rw [h1]; rintro e w1 ⟨rfl, hb1⟩; have hs1 := hb1.size; (try simp only [heapAlloc, heapSet] at hs1); have hc1 := cellRule hb1; have hf1 := frozenRule hb1) | (go_at_call 62; refine (groups_any _ _ _).mono ?_; rw [HL.out]; rintro e w2 ⟨ao, cap, rfl, hown, hb2⟩; have hs2 := hb2.size; (try simp only [heapAlloc, heapSet] at hs2); have hc2 := cellRule hb2; have hf2 := frozenRule hb2))
    go_loopw [4, 14] (fun s i wr => ∃ k : Nat, k ≤ LL.length ∧ i = .int .i64 k ∧ s = .int .i64 (sqP LL k) ∧ Below w2.heap.size w2 wr) (fun _ i _ => LL.length - (intOf i).toNat)
    case atStart => exact ⟨0, by omega, rfl, by simp [sqP], Below.refl _ _⟩
    case round =>
      obtain ⟨k, hk, rfl, rfl, hbw⟩ := hrel
      have hle := hsqle k
      by_cases hlt : k < LL.length
      · have hown' := ownsIntss_below hown hbw (Nat.le_refl _)
        obtain ⟨ao', cap', he, hL | ⟨g, rfl, hBg, hg, hcap, hc⟩⟩ := ownsIntss_shape hown'
        · rw [hL] at hlt; simp at hlt
        simp only [Value.slice.injEq] at he
        obtain ⟨rfl, -, -⟩ := he
        obtain ⟨bo, cb, hcell, -⟩ := hc k hlt
        have hm10 : (LL.getD k []).length ≤ 10 := by
          have := hmem _ (List.getElem_mem hlt)
          simpa [hlt] using this
        have hsucc := sqP_succ LL k hlt
        generalize (LL.getD k []).length = m at hcell hm10 hsucc
        have hmm : m * m ≤ 10 * 10 := Nat.mul_le_mul hm10 hm10
        have hmi : ((m * m : Nat) : Int) = (m : Int) * (m : Int) := by simp
        have hi0 : (0 : Int) ≤ (m : Int) * (m : Int) := by omega
        have hi1 : (m : Int) * (m : Int) ≤ 100 := by omega
        have HS := Lib.hid hsucc
        have HM := Lib.hid hmi
        clear hsucc hmi hc hown hmem hsqle hown'
        go_wp2
        go_roundw
        case rel => exact ⟨k + 1, by omega, by go_num, by rw [HS.out, Int.natCast_add, HM.out], hbw⟩
        case measure => simp [intOf]; omega
      · have hkn : k = LL.length := by omega
        subst hkn
        have hb9 := hbw
        have hs9 := hb9.size; (try simp only [heapAlloc, heapSet] at hs9); have hc9 := cellRule hb9; have hf9 := frozenRule hb9
        go_wp2_with (first | (go_at_call 67; refine (fraction_any _ 100 (by omega) (by omega) (by omega) _).mono ?_; rintro e w3 ⟨rfl, hb3⟩; have hs3 := hb3.size; (try simp only [heapAlloc, heapSet] at hs3); have hc3 := cellRule hb3; have hf3 := frozenRule hb3))
        exact bodyPost_ret (v := .tuple #[.agg #[.int .i64 ((sqP LL LL.length / Nat.gcd (sqP LL LL.length) 100 : Nat) : Int), .int .i64 ((100 / Nat.gcd (sqP LL LL.length) 100 : Nat) : Int)], .bool true]) (by simp [results, Try.results39, go_sem, ↓IntWalk.iteOmega, *]) rfl ⟨rfl, by (repeat (first | assumption | exact Below.refl _ _ | refine belowThen ?_ (Go.Joins.below_alloc1 _ _) | apply Below.drew | refine belowThen ?_ (by assumption) | refine belowThen ?_ (Go.Joins.below_draws _ _ _) | refine Below.setCell ?_ (by first | exact Nat.le_refl _ | (simp; done) | (simp; omega)) _))⟩
  · rw [Bool.not_eq_true] at h1
    have eA : csdA d l = 0 := by simp [csdA, h1]
    have eB : csdB d l = 0 := by simp [csdB, h1]
    rw [eA, eB, h1]; clear eA eB
    have hA1 := @cellAlloc; have hA2 := @frozenAlloc; have hA3 := @setCellAlloc; go_enter Try.func39, Try.ntmps39
    go_wp2_with (first | (go_at_call 46; refine (IsFault_any _ _ _).mono ?_; rw [h1]; rintro e w1 ⟨rfl, hb1⟩; have hs1 := hb1.size; (try simp only [heapAlloc, heapSet] at hs1); have hc1 := cellRule hb1; have hf1 := frozenRule hb1))
    exact bodyPost_ret (v := .tuple #[.agg #[.int .i64 0, .int .i64 0], .bool false]) (by simp [results, Try.results39, go_sem, ↓IntWalk.iteOmega, *]) rfl ⟨rfl, by (repeat (first | assumption | exact Below.refl _ _ | refine belowThen ?_ (Go.Joins.below_alloc1 _ _) | apply Below.drew | refine belowThen ?_ (by assumption) | refine belowThen ?_ (Go.Joins.below_draws _ _ _) | refine Below.setCell ?_ (by first | exact Nat.le_refl _ | (simp; done) | (simp; omega)) _))⟩

theorem fnExactChanceSameDigit_walk (d l : Int) (hd : -9223372036854775808 ≤ d ∧ d ≤ 9223372036854775807) (hl : -9223372036854775808 ≤ l ∧ l ≤ 9223372036854775807) (w : World) :
    Calls Try.prog 11 #[.agg #[.int .i64 d, .int .i64 l]] w fun e w' => e = .returned (.bool true) ∧ Below w.heap.size w w' := by
  have hA1 := @cellAlloc; have hA2 := @frozenAlloc; have hA3 := @setCellAlloc; go_enter Try.func11, Try.ntmps11
  go_wp2_with (first | (go_at_call 14; refine (toFault_any _ _ _).mono ?_; rintro e w1 ⟨rfl, hb1⟩; have hs1 := hb1.size; (try simp only [heapAlloc, heapSet] at hs1); have hc1 := cellRule hb1; have hf1 := frozenRule hb1) | (go_at_call 38; refine (ChanceSameDigitS_any _ _ _).mono ?_; rintro e w2 ⟨rfl, hb2⟩; have hs2 := hb2.size; (try simp only [heapAlloc, heapSet] at hs2); have hc2 := cellRule hb2; have hf2 := frozenRule hb2) | (go_at_call 39; refine (ChanceSameDigitI_any _ _ _).mono ?_; rintro e w3 ⟨rfl, hb3⟩; have hs3 := hb3.size; (try simp only [heapAlloc, heapSet] at hs3); have hc3 := cellRule hb3; have hf3 := frozenRule hb3) | (go_at_call 40; refine (eqIntA2_same _ _ _).mono ?_; rintro e w4 ⟨rfl, hb4⟩; have hs4 := hb4.size; (try simp only [heapAlloc, heapSet] at hs4); have hc4 := cellRule hb4; have hf4 := frozenRule hb4))
  go_ret
  exact ⟨rfl, by (repeat (first | assumption | exact Below.refl _ _ | refine belowThen ?_ (Go.Joins.below_alloc1 _ _) | apply Below.drew | refine belowThen ?_ (by assumption) | refine belowThen ?_ (Go.Joins.below_draws _ _ _) | refine Below.setCell ?_ (by first | exact Nat.le_refl _ | (simp; done) | (simp; omega)) _))⟩
end Go.Proofs.Ytfjgleimdaailaa
namespace Go.Proofs.Ytfjgleimdaailaa.fnExactChanceSameDigit
open Go.ChangeShapes Go.WideShapes Go.ChangeAt Go.RowKit Go.Joins
open Go.ChangeMaps (open_string shut_string)
set_option linter.unusedVariables false
theorem own : ownKnob Try.prog.godebug = none := by kernel_rfl
theorem laidOut : laidOutB Try.prog = true := by kernel_rfl
set_option maxRecDepth 100000 in
theorem lifted (os : Os) (started : os.Started) (H : Type) (enc : TypeId × Value → H) :
    ReturnsInHanded {} Try.checked os 11 .any (Rows.fnExactChanceSameDigitSpec.pre6 enc Try.prog Try.f11 Rows.fnExactChanceSameDigitRow.domain false) (Rows.fnExactChanceSameDigitSpec.post enc Try.prog Try.f11 false true false false) := by
  refine returnsInHanded_of_change (C := Try.checked) own started (by kernel_rfl) Try.func11
    (ChangeSpec.witness6 (enc := enc) (C := Try.checked) false ⟨#[], #[.agg #[.int .i64 0, .int .i64 0]], []⟩ 8 (by kernel_rfl) (by kernel_rfl) (by kernel_rfl) (by kernel_rfl)) ?_
  intro W base args ds gs before hval0 hW hcnd _
  have hval : ∀ (j : Nat) t v, Try.f11.params[j]? = some t → args[j]? = some v → Value.okWide Try.prog W .any base t v := hval0
  have hW' := hW
  obtain ⟨p, q, hA0, hV, rfl, hfz, hnd⟩ := hW
  have hA : DataW.TrodAll enc Try.prog W 0 (fun _ => true) true Try.f11.params.toList args.toList ds p := hA0
  rw [Try.params11] at hA hval
  obtain ⟨v0, vs0, d0, ds0, p0, q0, hargs, rfl, rfl, h0, r0⟩ := trodAll_cons hA
  obtain ⟨rfl, rfl, rfl⟩ := trodAll_nil r0
  obtain rfl : args = #[v0] := by cases args; simp_all
  obtain ⟨rfl, rfl⟩ := trodVars_none hV
  have k0 := h0
  have lt0 : ∀ x ∈ p0, x.block < W.heap.size := by obtain ⟨m, hm⟩ := k0; exact DataW.trod_lt m _ _ _ hm
  obtain ⟨x0, y0, hv0, wx0, wy0⟩ : ∃ x y : Int, v0 = .agg #[.int .i64 x, .int .i64 y] ∧ (Lit.int .i64 x).wf = true ∧ (Lit.int .i64 y).wf = true := by
    obtain ⟨c0, c1, y0, y1, m, hv, _, _, hy0, hy1⟩ := open_agg2 Try.underlying23 (by kernel_rfl) (show Try.prog.cellsOf 23 = 2 by kernel_rfl) (hval 0 23 v0 rfl rfl) h0
    obtain ⟨a, e0, _, wa⟩ := DataW.trod_int Try.underlying3 hy0
    obtain ⟨b, e1, _, wb⟩ := DataW.trod_int Try.underlying3 hy1
    simp at e0 e1; subst e0 e1
    exact ⟨a, b, hv, wa, wb⟩
  subst hv0
  clear hA0 hval0
  refine (fnExactChanceSameDigit_walk x0 y0 (by simpa [Lit.wf, IntKind.min, IntKind.max, IntKind.signed, IntKind.bits] using wx0) (by simpa [Lit.wf, IntKind.min, IntKind.max, IntKind.signed, IntKind.bits] using wy0) W).mono fun e W' ⟨he, bel⟩ => ?_
  subst he
  exact ⟨_, rfl, _, _, _, [], _, [], hW', trodAll_mk1 (shut_bool Try.underlying4 _), (trodAll_cons_mk (Below.trod laidOut (by kernel_rfl) (of_decide_eq_true (by kernel_rfl)) k0 bel lt0) trodAll_mk0), rfl, bel.frame _, fun h => by cases h⟩
theorem over : Rows.fnExactChanceSameDigitRow.holds Try.pinned (OpenSpec.ofChange Rows.fnExactChanceSameDigitSpec) :=
  OpenClaim.holds_of_wide 11 Try.f11 rfl rfl rfl rfl rfl rfl rfl ⟨rfl, rfl, rfl, rfl, rfl⟩ rfl rfl rfl rfl rfl (by kernel_rfl) Try.func11 (by kernel_rfl)
    (of_decide_eq_true (by kernel_rfl)) (by unfold Func.isWrapper; first | (rw [if_pos (by decide +kernel)]; kernel_rfl) | (rw [if_neg (by decide +kernel)]; exact ⟨rfl, rfl⟩))
    (fun os started H enc _ => lifted os started H enc)
theorem proved : Rows.FnExactChanceSameDigitSaid := over
end Go.Proofs.Ytfjgleimdaailaa.fnExactChanceSameDigit
