/- For every bench, IsBench of the program and of the reference agree. No conditions. -/
import Derived.Test.YtfjgleimdaailaaBenchX
import Derived.SevenTiedAt
namespace Go.Proofs.Ytfjgleimdaailaa
open Go.RowKit
open Go.ChangeShapes Go.WideShapes Go.ChangeAt Go.Joins

theorem cells6 {H : Type} {enc : TypeId × Value → H} {W : World} {base : Nat} {spare : Nat → Bool} {held : Bool} {n : Nat} {cs : List Value} {y : DataW H × List MemPlace} (h : DataW.trod enc Try.prog W base spare held n 37 cs = some y) :
    ∀ i, i < 6 → ∃ z : Int, cs[i]? = some (.int .i64 z) := by
  obtain ⟨xs, m, _, _, _, hl, hel⟩ := DataW.trod_array Try.underlying37 h
  intro i hi
  have hE := hel i hi
  have c1 : Try.prog.cellsOf 3 = 1 := by kernel_rfl
  rw [c1, Nat.mul_one, List.getElem?_eq_getElem (by omega)] at hE
  obtain ⟨z, e1, _, _⟩ := DataW.trod_int Try.underlying3 hE
  refine ⟨z, ?_⟩
  have h0 : ((cs.drop i).take 1)[0]? = some (.int .i64 z) := by rw [e1]; rfl
  simpa using h0
theorem open_bench {H : Type} {enc : TypeId × Value → H} {W : World} {base : Nat} {spare : Nat → Bool} {held : Bool} {r : Reach} {b0 : Nat} {v : Value} {d : DataW H} {p : List MemPlace}
    (hv : Value.okWide Try.prog W r b0 39 v) (h : DataW.Trod enc Try.prog W base spare held 39 v d p) : ∃ F : Nat → Int, v = .agg (benT F) := by
  obtain ⟨cs, rfl, hsz⟩ := okWide_struct Try.underlying39 hv
  rw [show Try.prog.cellsOf 39 = 19 by kernel_rfl] at hsz
  obtain ⟨fuel, hf⟩ := h
  obtain ⟨y0, y1, y2, y3, n, _, _, h0, h1, h2, h3⟩ := trod_struct4 Try.underlying39 hf
  have c6' : Try.prog.cellsOf 37 = 6 := by kernel_rfl
  have c1 : Try.prog.cellsOf 3 = 1 := by kernel_rfl
  simp only [Value.cells, c6', c1] at h0 h1 h2 h3
  have k0 := cells6 h0
  have k1 := cells6 h1
  have k2 := cells6 h2
  obtain ⟨z3, e3, _, _⟩ := DataW.trod_int Try.underlying3 h3
  have hall : ∀ j, j < 19 → ∃ z : Int, cs[j]? = some (.int .i64 z) := by
    intro j hj
    by_cases j0 : j < 6
    · obtain ⟨z, hz⟩ := k0 j j0
      exact ⟨z, by simpa [List.getElem?_take, List.getElem?_drop, j0] using hz⟩
    by_cases j1 : j < 12
    · obtain ⟨z, hz⟩ := k1 (j - 6) (by omega)
      exact ⟨z, by simpa [List.getElem?_take, List.getElem?_drop, show j - 6 < 6 by omega, show 6 + (j - 6) = j by omega] using hz⟩
    by_cases j2 : j < 18
    · obtain ⟨z, hz⟩ := k2 (j - 12) (by omega)
      exact ⟨z, by simpa [List.getElem?_take, List.getElem?_drop, show j - 12 < 6 by omega, show 12 + (j - 12) = j by omega] using hz⟩
    · have : j = 18 := by omega
      subst this
      refine ⟨z3, ?_⟩
      have h0 : ((cs.toList.drop 18).take 1)[0]? = some (.int .i64 z3) := by rw [e3]; rfl
      simpa using h0
  refine ⟨fun j => intOf (cs.getD j (.int .i64 0)), ?_⟩
  congr 1
  apply Array.ext_getElem?
  intro j
  by_cases hj : j < 19
  · obtain ⟨z, hz⟩ := hall j hj
    rw [benT_get _ j hj, hz]
    simp [Array.getD_eq_getD_getElem?, hz, intOf]
  · rw [Array.getElem?_eq_none (by omega), Array.getElem?_eq_none (by rw [benT_size]; omega)]
set_option maxHeartbeats 1600000 in
set_option maxRecDepth 100000 in
theorem fnExactIsBench_walk (F : Nat → Int) (w : World) :
    Calls Try.prog 5 #[.agg (benT F)] w fun e w' => e = .returned (.bool true) ∧ Below w.heap.size w w' := by
  have hr := heap_alloc_new w (.cells (benT F) 39)
  have hb := Go.Joins.below_alloc1 w (.cells (benT F) 39)
  have hsz := benT_size F
  have HT := Lib.hid (fun W => toBench_any F W)
  have HS := Lib.hid (fun W => IsBenchS_any F W)
  have HI := Lib.hid (fun W => IsBenchI_any F W)
  have hlt : w.heap.size < (w.alloc (.cells (benT F) 39)).heap.size := by simp
  generalize benT F = A at *
  generalize benchB F = q at *
  obtain ⟨W, hW⟩ : ∃ W, w.alloc (.cells A 39) = W := ⟨_, rfl⟩
  rw [hW] at hr hb hlt
  have t1 : True := trivial
  have hA1 := @cellAlloc; have hA2 := @frozenAlloc; have hA3 := @setCellAlloc; go_enter Try.func5, Try.ntmps5
  go_wp2_with (first
    | (refine wpList_load_row (by rfl) 39 _ (by rfl) w.heap.size (by rfl) 39 _ (0, 0) _ hr Try.underlying39 (by rfl) (by rw [hsz]; kernel_rfl) ?_)
    | (go_at_call 21; clear t1; refine (HT.out _).mono ?_; rintro e w1 ⟨rfl, hb1⟩)
    | (go_at_call 20; refine (HS.out _).mono ?_; rintro e w2 ⟨rfl, hb2⟩
       replace hr := ((hb2.block _ (by have := hb1.size; omega)).trans (hb1.block _ hlt)).trans hr)
    | (go_at_call 21; refine (HT.out _).mono ?_; rintro e w3 ⟨rfl, hb3⟩)
    | (go_at_call 22; refine (HI.out _).mono ?_; rintro e w4 ⟨rfl, hb4⟩))
  go_ret
  exact ⟨rfl, belowThen (belowThen (belowThen (belowThen hb hb1) hb2) hb3) hb4⟩
end Go.Proofs.Ytfjgleimdaailaa
namespace Go.Proofs.Ytfjgleimdaailaa.fnExactIsBench
open Go.ChangeShapes Go.WideShapes Go.ChangeAt Go.RowKit Go.Joins
open Go.ChangeMaps (open_string shut_string)
set_option linter.unusedVariables false
theorem own : ownKnob Try.prog.godebug = none := by kernel_rfl
theorem laidOut : laidOutB Try.prog = true := by kernel_rfl
set_option maxRecDepth 100000 in
theorem lifted (os : Os) (started : os.Started) (H : Type) (enc : TypeId × Value → H) :
    ReturnsInHanded {} Try.checked os 5 .any (Rows.fnExactIsBenchSpec.pre6 enc Try.prog Try.f5 Rows.fnExactIsBenchRow.domain false) (Rows.fnExactIsBenchSpec.post enc Try.prog Try.f5 false true false false) := by
  refine returnsInHanded_of_change (C := Try.checked) own started (by kernel_rfl) Try.func5
    (ChangeSpec.witness6 (enc := enc) (C := Try.checked) false ⟨#[], #[.agg (benT fun _ => 0)], []⟩ 8 (by kernel_rfl) (by kernel_rfl) (by kernel_rfl) (by kernel_rfl)) ?_
  intro W base args ds gs before hval0 hW hcnd _
  have hval : ∀ (j : Nat) t v, Try.f5.params[j]? = some t → args[j]? = some v → Value.okWide Try.prog W .any base t v := hval0
  have hW' := hW
  obtain ⟨p, q, hA0, hV, rfl, hfz, hnd⟩ := hW
  have hA : DataW.TrodAll enc Try.prog W 0 (fun _ => true) true Try.f5.params.toList args.toList ds p := hA0
  rw [Try.params5] at hA hval
  obtain ⟨v0, vs0, d0, ds0, p0, q0, hargs, rfl, rfl, h0, r0⟩ := trodAll_cons hA
  obtain ⟨rfl, rfl, rfl⟩ := trodAll_nil r0
  obtain rfl : args = #[v0] := by cases args; simp_all
  obtain ⟨rfl, rfl⟩ := trodVars_none hV
  have k0 := h0
  have lt0 : ∀ x ∈ p0, x.block < W.heap.size := by obtain ⟨m, hm⟩ := k0; exact DataW.trod_lt m _ _ _ hm
  obtain ⟨F0, hv0⟩ : ∃ F : Nat → Int, v0 = .agg (benT F) := open_bench (hval 0 39 v0 rfl rfl) h0
  subst hv0
  clear hA0 hval0
  refine (fnExactIsBench_walk F0 W).mono fun e W' ⟨he, bel⟩ => ?_
  subst he
  exact ⟨_, rfl, _, _, _, [], _, [], hW', trodAll_mk1 (shut_bool Try.underlying4 _), (trodAll_cons_mk (Below.trod laidOut (by kernel_rfl) (of_decide_eq_true (by kernel_rfl)) k0 bel lt0) trodAll_mk0), rfl, bel.frame _, fun h => by cases h⟩
theorem over : Rows.fnExactIsBenchRow.holds Try.pinned (OpenSpec.ofChange Rows.fnExactIsBenchSpec) :=
  OpenClaim.holds_of_wide 5 Try.f5 rfl rfl rfl rfl rfl rfl rfl ⟨rfl, rfl, rfl, rfl, rfl⟩ rfl rfl rfl rfl rfl (by kernel_rfl) Try.func5 (by kernel_rfl)
    (of_decide_eq_true (by kernel_rfl)) (by unfold Func.isWrapper; first | (rw [if_pos (by decide +kernel)]; kernel_rfl) | (rw [if_neg (by decide +kernel)]; exact ⟨rfl, rfl⟩))
    (fun os started H enc _ => lifted os started H enc)
theorem proved : Rows.FnExactIsBenchSaid := over
end Go.Proofs.Ytfjgleimdaailaa.fnExactIsBench
