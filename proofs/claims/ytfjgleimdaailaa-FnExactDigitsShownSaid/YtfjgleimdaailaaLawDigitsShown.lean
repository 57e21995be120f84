/- For every Fault and every number, DigitsShown of the program and of the reference agree, and hand back new memory. No conditions. -/
import Derived.Test.YtfjgleimdaailaaDigits
import Derived.Test.YtfjgleimdaailaaSlice
namespace Go.Proofs.Ytfjgleimdaailaa
open Go.RowKit

/-- A slice of the call's own that holds L, and a bool, are returned. -/
def RetIntsB (L : List Int) (ok : Bool) (w : World) (e : Ending) (w' : World) : Prop := ∃ ao cap, e = .returned (.tuple #[.slice ao L.length cap, .bool ok]) ∧ ownsInts w' w.heap.size (.slice ao L.length cap) L ∧ Below w.heap.size w w'
/-- What DigitsShown gives. -/
def dsL (d l c : Int) : List Int := if (faultB d l && inB 0 127 c) = true then digitsL d l c else []
theorem dsL_le (d l c : Int) : (dsL d l c).length ≤ 10 := by
  unfold dsL; split
  · exact digitsP_le d l c 10
  · simp

theorem DigitsShownS_any (d l c : Int) (w : World) : Calls Try.prog 32 #[.agg #[.int .i64 d, .int .i64 l], .int .i64 c] w
    (RetIntsB (dsL d l c) (faultB d l && inB 0 127 c) w) := by
  by_cases h1 : faultB d l = true <;> by_cases h2 : inB 0 127 c = true
  · have hd := faultB_1 h1
    have e1 : dsL d l c = digitsL d l c := by simp [dsL, h1, h2]
    rw [e1]; clear e1
    have hA1 := @cellAlloc; have hA2 := @frozenAlloc; have hA3 := @setCellAlloc; go_enter Try.func32, Try.ntmps32
    go_wp2_with (first | (go_at_call 43; refine (l3Fault_any _ _ _).mono ?_; rintro e w1 ⟨rfl, hb1⟩; have hs1 := hb1.size; (try simp only [heapAlloc, heapSet] at hs1); have hc1 := cellRule hb1; have hf1 := frozenRule hb1) | (go_at_call 44; refine (l2Cell_any _ _).mono ?_; rintro e w' ⟨rfl, rfl⟩) | (go_at_call 64; refine (l3Digits_any _ _ _ hd _).mono ?_; rintro e w2 ⟨ao, cap, rfl, hown, hb2⟩))
    go_ret2
    exact ⟨ao, cap, by simp [h1, h2], ownsInts_le hown (by have := hb1.size; simp at this; omega), by (repeat (first | assumption | exact Below.refl _ _ | refine belowThen ?_ (Go.Joins.below_alloc1 _ _) | apply Below.drew | refine belowThen ?_ (by assumption) | refine belowThen ?_ (Go.Joins.below_draws _ _ _) | refine Below.setCell ?_ (by first | exact Nat.le_refl _ | (simp; done) | (simp; omega)) _))⟩
  all_goals
    try rw [Bool.not_eq_true] at h1
    try rw [Bool.not_eq_true] at h2
    have e1 : dsL d l c = [] := by simp [dsL, h1, h2]
    rw [e1]; clear e1
    have hA1 := @cellAlloc; have hA2 := @frozenAlloc; have hA3 := @setCellAlloc; go_enter Try.func32, Try.ntmps32
    go_wp2_with (first | (go_at_call 43; refine (l3Fault_any _ _ _).mono ?_; rintro e w1 ⟨rfl, hb1⟩; have hs1 := hb1.size; (try simp only [heapAlloc, heapSet] at hs1); have hc1 := cellRule hb1; have hf1 := frozenRule hb1) | (go_at_call 44; refine (l2Cell_any _ _).mono ?_; rintro e w' ⟨rfl, rfl⟩))
    go_ret2
    exact ⟨_, _, by simp [h1, h2], ownsInts_empty w1 _ (by have := hb1.size; simp at this; omega), by (repeat (first | assumption | exact Below.refl _ _ | refine belowThen ?_ (Go.Joins.below_alloc1 _ _) | apply Below.drew | refine belowThen ?_ (by assumption) | refine belowThen ?_ (Go.Joins.below_draws _ _ _) | refine Below.setCell ?_ (by first | exact Nat.le_refl _ | (simp; done) | (simp; omega)) _))⟩
theorem DigitsShownI_any (d l c : Int) (w : World) : Calls Try.prog 33 #[.agg #[.int .i64 d, .int .i64 l], .int .i64 c] w
    (RetIntsB (dsL d l c) (faultB d l && inB 0 127 c) w) := by
  by_cases h1 : faultB d l = true <;> by_cases h2 : inB 0 127 c = true
  · have e1 : dsL d l c = digitsL d l c := by simp [dsL, h1, h2]
    rw [e1]; clear e1
    have hA1 := @cellAlloc; have hA2 := @frozenAlloc; have hA3 := @setCellAlloc; go_enter Try.func33, Try.ntmps33
    go_wp2_with (first | (go_at_call 46; refine (IsFault_any _ _ _).mono ?_; rintro e w1 ⟨rfl, hb1⟩; have hs1 := hb1.size; (try simp only [heapAlloc, heapSet] at hs1); have hc1 := cellRule hb1; have hf1 := frozenRule hb1) | (go_at_call 47; refine (IsCell_any _ _).mono ?_; rintro e w' ⟨rfl, rfl⟩) | (go_at_call 65; refine (digits_any _ _ _ _).mono ?_; rintro e w2 ⟨ao, cap, rfl, hown, hb2⟩))
    go_ret2
    exact ⟨ao, cap, by simp [h1, h2], ownsInts_le hown (by have := hb1.size; simp at this; omega), by (repeat (first | assumption | exact Below.refl _ _ | refine belowThen ?_ (Go.Joins.below_alloc1 _ _) | apply Below.drew | refine belowThen ?_ (by assumption) | refine belowThen ?_ (Go.Joins.below_draws _ _ _) | refine Below.setCell ?_ (by first | exact Nat.le_refl _ | (simp; done) | (simp; omega)) _))⟩
  all_goals
    try rw [Bool.not_eq_true] at h1
    try rw [Bool.not_eq_true] at h2
    have e1 : dsL d l c = [] := by simp [dsL, h1, h2]
    rw [e1]; clear e1
    have hA1 := @cellAlloc; have hA2 := @frozenAlloc; have hA3 := @setCellAlloc; go_enter Try.func33, Try.ntmps33
    go_wp2_with (first | (go_at_call 46; refine (IsFault_any _ _ _).mono ?_; rintro e w1 ⟨rfl, hb1⟩; have hs1 := hb1.size; (try simp only [heapAlloc, heapSet] at hs1); have hc1 := cellRule hb1; have hf1 := frozenRule hb1) | (go_at_call 47; refine (IsCell_any _ _).mono ?_; rintro e w' ⟨rfl, rfl⟩))
    go_ret2
    exact ⟨_, _, by simp [h1, h2], ownsInts_nil _ _, by (repeat (first | assumption | exact Below.refl _ _ | refine belowThen ?_ (Go.Joins.below_alloc1 _ _) | apply Below.drew | refine belowThen ?_ (by assumption) | refine belowThen ?_ (Go.Joins.below_draws _ _ _) | refine Below.setCell ?_ (by first | exact Nat.le_refl _ | (simp; done) | (simp; omega)) _))⟩

set_option maxHeartbeats 800000 in
theorem fnExactDigitsShown_walk (d l : Int) (hd : -9223372036854775808 ≤ d ∧ d ≤ 9223372036854775807) (hl : -9223372036854775808 ≤ l ∧ l ≤ 9223372036854775807) (c : Int) (hc : -9223372036854775808 ≤ c ∧ c ≤ 9223372036854775807) (w : World) :
    Calls Try.prog 9 #[.agg #[.int .i64 d, .int .i64 l], .int .i64 c] w fun e w' => e = .returned (.bool true) ∧ Below w.heap.size w w' := by
  have hle := dsL_le d l c
  generalize hL : dsL d l c = L at hle
  generalize hok : (faultB d l && inB 0 127 c) = ok
  have HL := Lib.hid hL
  have HO := Lib.hid hok
  clear hL hok hd hl hc
  obtain ⟨n, hn⟩ : ∃ n, L.length = n := ⟨_, rfl⟩
  have HN := Lib.hid hn
  rw [hn] at hle
  clear hn
  have tA : True := trivial
  have tB : True := trivial
  have tC : True := trivial
  have tD : True := trivial
  have tE : True := trivial
  have hA1 := @cellAlloc; have hA2 := @frozenAlloc; have hA3 := @setCellAlloc; go_enter Try.func9, Try.ntmps9
  go_wp2_with (first
    | (go_at_call 14; clear tA; refine (toFault_any _ _ _).mono ?_; rintro e wa ⟨rfl, hba⟩; have hsa := hba.size; (try simp only [heapAlloc, heapSet] at hsa); have hca := cellRule hba; have hfa := frozenRule hba)
    | (go_at_call 32; refine (DigitsShownS_any _ _ _ _).mono ?_; rw [HL.out, HO.out]; rintro e w2 ⟨ao, ca, rfl, hown2, hb2⟩; rw [HN.out] at hown2 ⊢; have hs2 := hb2.size; (try simp only [heapAlloc, heapSet] at hs2); have hc2 := cellRule hb2; have hf2 := frozenRule hb2)
    | (go_at_call 14; clear tB; refine (toFault_any _ _ _).mono ?_; rintro e w1 ⟨rfl, hb1⟩; have hs1 := hb1.size; (try simp only [heapAlloc, heapSet] at hs1); have hc1 := cellRule hb1; have hf1 := frozenRule hb1; have hr1 := RdI_below (RdI_owns hown2) hb1)
    | (go_at_call 33; clear tC; refine (DigitsShownI_any _ _ _ _).mono ?_; rw [HL.out, HO.out]; rintro e w3 ⟨bo, cb, rfl, hown3, hb3⟩; rw [HN.out] at hown3 ⊢; have hs3 := hb3.size; (try simp only [heapAlloc, heapSet] at hs3); have hc3 := cellRule hb3; have hf3 := frozenRule hb3)
    | (go_at_call 27; clear tD; refine (eqIntS_same _ _ _ _ _ L _ (RdI_owns hown3) (RdI_below hr1 hb3) HN.out (by unfold maxLen; omega)).mono ?_; rintro e w4 ⟨rfl, hb4⟩; have hown4 := ownsInts_below hown3 hb4 (Nat.le_refl _))
    | (go_at_call 34; refine (markIntS_any _ _ _ _ L _ _ hown4 HN.out (by unfold maxLen; omega) (by omega) (by omega)).mono ?_; rintro e w5 ⟨rfl, hown5, hb5x⟩; have hb5 := (belowThen hb3 hb4).trans hb5x; have hs5 := hb5.size; (try simp only [heapAlloc, heapSet] at hs5); have hc5 := cellRule hb5; have hf5 := frozenRule hb5)
    | (go_at_call 35; clear tE; refine (heldIntS_any _ _ _ _ _ (RdI_owns hown5) (by unfold maxLen; omega) (by omega) (by omega)).mono ?_; rintro e w' ⟨rfl, rfl⟩)
    | (go_at_call 14; refine (toFault_any _ _ _).mono ?_; rintro e w6 ⟨rfl, hb6⟩; have hs6 := hb6.size; (try simp only [heapAlloc, heapSet] at hs6); have hc6 := cellRule hb6; have hf6 := frozenRule hb6)
    | (go_at_call 33; refine (DigitsShownI_any _ _ _ _).mono ?_; rw [HL.out, HO.out]; rintro e w7 ⟨co, cc, rfl, hown7, hb7⟩; rw [HN.out] at hown7 ⊢; have hB7 := belowThen hb5 (belowThen hb6 hb7); have hs7 := hb7.size; (try simp only [heapAlloc, heapSet] at hs7); have hc7 := cellRule hb7; have hf7 := frozenRule hb7)
    | (go_at_call 27; refine (eqIntS_same _ _ _ _ _ L _ (RdI_owns hown7) (RdI_below hr1 hB7) HN.out (by unfold maxLen; omega)).mono ?_; rintro e w8 ⟨rfl, hb8⟩; have hr8 := RdI_below (RdI_below (RdI_below (RdI_owns hown5) hb6) hb7) hb8)
    | (go_at_call 35; refine (heldIntS_any _ _ _ _ _ hr8 (by unfold maxLen; omega) (by omega) (by omega)).mono ?_; rintro e w' ⟨rfl, rfl⟩))
  go_ret
  exact ⟨rfl, by (repeat (first | assumption | exact Below.refl _ _ | refine belowThen ?_ (Go.Joins.below_alloc1 _ _) | apply Below.drew | refine belowThen ?_ (by assumption) | refine belowThen ?_ (Go.Joins.below_draws _ _ _) | refine Below.setCell ?_ (by first | exact Nat.le_refl _ | (simp; done) | (simp; omega)) _))⟩
end Go.Proofs.Ytfjgleimdaailaa
namespace Go.Proofs.Ytfjgleimdaailaa.fnExactDigitsShown
open Go.ChangeShapes Go.WideShapes Go.ChangeAt Go.RowKit Go.Joins
open Go.ChangeMaps (open_string shut_string)
set_option linter.unusedVariables false
theorem own : ownKnob Try.prog.godebug = none := by kernel_rfl
theorem laidOut : laidOutB Try.prog = true := by kernel_rfl
set_option maxRecDepth 100000 in
theorem lifted (os : Os) (started : os.Started) (H : Type) (enc : TypeId × Value → H) :
    ReturnsInHanded {} Try.checked os 9 .any (Rows.fnExactDigitsShownSpec.pre6 enc Try.prog Try.f9 Rows.fnExactDigitsShownRow.domain false) (Rows.fnExactDigitsShownSpec.post enc Try.prog Try.f9 false true false false) := by
  refine returnsInHanded_of_change (C := Try.checked) own started (by kernel_rfl) Try.func9
    (ChangeSpec.witness6 (enc := enc) (C := Try.checked) false ⟨#[], #[.agg #[.int .i64 0, .int .i64 0], .int .i64 0], []⟩ 8 (by kernel_rfl) (by kernel_rfl) (by kernel_rfl) (by kernel_rfl)) ?_
  intro W base args ds gs before hval0 hW hcnd _
  have hval : ∀ (j : Nat) t v, Try.f9.params[j]? = some t → args[j]? = some v → Value.okWide Try.prog W .any base t v := hval0
  have hW' := hW
  obtain ⟨p, q, hA0, hV, rfl, hfz, hnd⟩ := hW
  have hA : DataW.TrodAll enc Try.prog W 0 (fun _ => true) true Try.f9.params.toList args.toList ds p := hA0
  rw [Try.params9] at hA hval
  obtain ⟨v0, vs0, d0, ds0, p0, q0, hargs, rfl, rfl, h0, r0⟩ := trodAll_cons hA
  obtain ⟨v1, vs1, d1, ds1, p1, q1, rfl, rfl, rfl, h1, r1⟩ := trodAll_cons r0
  obtain ⟨rfl, rfl, rfl⟩ := trodAll_nil r1
  obtain rfl : args = #[v0, v1] := by cases args; simp_all
  obtain ⟨rfl, rfl⟩ := trodVars_none hV
  have k0 := h0
  have lt0 : ∀ x ∈ p0, x.block < W.heap.size := by obtain ⟨m, hm⟩ := k0; exact DataW.trod_lt m _ _ _ hm
  have k1 := h1
  have lt1 : ∀ x ∈ p1, x.block < W.heap.size := by obtain ⟨m, hm⟩ := k1; exact DataW.trod_lt m _ _ _ hm
  obtain ⟨x0, y0, hv0, wx0, wy0⟩ : ∃ x y : Int, v0 = .agg #[.int .i64 x, .int .i64 y] ∧ (Lit.int .i64 x).wf = true ∧ (Lit.int .i64 y).wf = true := by
    obtain ⟨c0, c1, y0, y1, m, hv, _, _, hy0, hy1⟩ := open_agg2 Try.underlying23 (by kernel_rfl) (show Try.prog.cellsOf 23 = 2 by kernel_rfl) (hval 0 23 v0 rfl rfl) h0
    obtain ⟨a, e0, _, wa⟩ := DataW.trod_int Try.underlying3 hy0
    obtain ⟨b, e1, _, wb⟩ := DataW.trod_int Try.underlying3 hy1
    simp at e0 e1; subst e0 e1
    exact ⟨a, b, hv, wa, wb⟩
  subst hv0
  obtain ⟨x1, hv1, w1⟩ : ∃ x : Int, v1 = .int .i64 x ∧ (Lit.int .i64 x).wf = true := by obtain ⟨x, hx, _, _, wx⟩ := open_int Try.underlying3 (hval 1 3 v1 rfl rfl) h1; exact ⟨x, hx, wx⟩
  subst hv1
  clear hA0 hval0
  refine (fnExactDigitsShown_walk x0 y0 (by simpa [Lit.wf, IntKind.min, IntKind.max, IntKind.signed, IntKind.bits] using wx0) (by simpa [Lit.wf, IntKind.min, IntKind.max, IntKind.signed, IntKind.bits] using wy0) x1 (by simpa [Lit.wf, IntKind.min, IntKind.max, IntKind.signed, IntKind.bits] using w1) W).mono fun e W' ⟨he, bel⟩ => ?_
  subst he
  exact ⟨_, rfl, _, _, _, [], _, [], hW', trodAll_mk1 (shut_bool Try.underlying4 _), (trodAll_cons_mk (Below.trod laidOut (by kernel_rfl) (of_decide_eq_true (by kernel_rfl)) k0 bel lt0) (trodAll_cons_mk (Below.trod laidOut (by kernel_rfl) (of_decide_eq_true (by kernel_rfl)) k1 bel lt1) trodAll_mk0)), rfl, bel.frame _, fun h => by cases h⟩
theorem over : Rows.fnExactDigitsShownRow.holds Try.pinned (OpenSpec.ofChange Rows.fnExactDigitsShownSpec) :=
  OpenClaim.holds_of_wide 9 Try.f9 rfl rfl rfl rfl rfl rfl rfl ⟨rfl, rfl, rfl, rfl, rfl⟩ rfl rfl rfl rfl rfl (by kernel_rfl) Try.func9 (by kernel_rfl)
    (of_decide_eq_true (by kernel_rfl)) (by unfold Func.isWrapper; first | (rw [if_pos (by decide +kernel)]; kernel_rfl) | (rw [if_neg (by decide +kernel)]; exact ⟨rfl, rfl⟩))
    (fun os started H enc _ => lifted os started H enc)
theorem proved : Rows.FnExactDigitsShownSaid := over
end Go.Proofs.Ytfjgleimdaailaa.fnExactDigitsShown
