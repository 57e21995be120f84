/- For all numbers, ChancesFor of the program and of the reference agree, and hand back new memory. No conditions. -/
import Derived.Test.YteidpiebjjekbaaChances
import Derived.Test.YteidpiebjjekbaaMarkP
namespace Go.Proofs.Yteidpiebjjekbaa
open Go.RowKit

theorem fracsP_length (c p q t k : Nat) : (fracsP c p q t k).length = k * 2 := by
  induction k with
  | zero => rfl
  | succ k ih => simp only [fracsP, List.length_append, ih, List.length_cons, List.length_nil]; omega
theorem cfL_length (c p q : Int) : (cfL c p q).length = cfN c p q * 2 := by
  unfold cfL cfN; split
  · exact fracsP_length _ _ _ _ _
  · rfl
theorem cfN_le (c p q : Int) : cfN c p q ≤ 10 := by unfold cfN; split <;> omega
set_option maxHeartbeats 800000 in
theorem fnExactChancesFor_walk (c : Int) (hc : -9223372036854775808 ≤ c ∧ c ≤ 9223372036854775807) (p : Int) (hp : -9223372036854775808 ≤ p ∧ p ≤ 9223372036854775807) (q : Int) (hq : -9223372036854775808 ≤ q ∧ q ≤ 9223372036854775807) (w : World) :
    Calls Try.prog 6 #[.int .i64 c, .int .i64 p, .int .i64 q] w fun e w' => e = .returned (.bool true) ∧ Below w.heap.size w w' := by
  have hle := cfN_le c p q
  have hlen := cfL_length c p q
  generalize hL : cfL c p q = L at hlen
  generalize hok : cfoOk c p q = ok
  generalize hn : cfN c p q = n at hle hlen
  have HL := Lib.hid hL
  have HO := Lib.hid hok
  have HN := Lib.hid hn
  have HS := Lib.hid hlen
  clear hL hok hn hlen hc hp hq
  have tC : True := trivial
  have tD : True := trivial
  have tE : True := trivial
  have hA1 := @cellAlloc; have hA2 := @frozenAlloc; have hA3 := @setCellAlloc; go_enter Try.func6, Try.ntmps6
  go_wp2_with (first
    | (go_at_call 15; refine (ChancesForS_any _ _ _ _).mono ?_; rw [HL.out, HO.out, HN.out]; rintro e w2 ⟨ao, ca, rfl, hown2, hb2⟩)
    | (go_at_call 16; clear tC; refine (ChancesForI_any _ _ _ _).mono ?_; rw [HL.out, HO.out, HN.out]; rintro e w3 ⟨bo, cb, rfl, hown3, hb3⟩)
    | (go_at_call 17; clear tD; refine (eqIntA2S_same _ _ n _ _ L _ (RdI_pairs hown3) (RdI_below (RdI_pairs hown2) hb3) HS.out (by unfold maxLen; omega)).mono ?_; rintro e w4 ⟨rfl, hb4⟩; have hown4 := ownsPairs_below hown3 hb4 (Nat.le_refl _))
    | (go_at_call 18; refine (markIntA2S_any _ _ n _ L _ hown4 (by omega)).mono ?_; rintro e w5 ⟨rfl, hown5, hb5x⟩; have hb5 := (belowThen hb3 hb4).trans hb5x; have hB5 := belowThen hb2 hb5)
    | (go_at_call 19; clear tE; refine (heldIntA2S_any _ n _ _ (RdI_pairs hown5) (by omega)).mono ?_; rintro e w' ⟨rfl, rfl⟩)
    | (go_at_call 16; refine (ChancesForI_any _ _ _ _).mono ?_; rw [HL.out, HO.out, HN.out]; rintro e w7 ⟨co, cc, rfl, hown7, hb7⟩)
    | (go_at_call 17; refine (eqIntA2S_same _ _ n _ _ L _ (RdI_pairs hown7) (RdI_below (RdI_below (RdI_pairs hown2) hb5) hb7) HS.out (by unfold maxLen; omega)).mono ?_; rintro e w8 ⟨rfl, hb8⟩; have hr8 := RdI_below (RdI_below (RdI_pairs hown5) hb7) hb8; have hB8 := belowThen hB5 (belowThen hb7 hb8))
    | (go_at_call 19; refine (heldIntA2S_any _ n _ _ hr8 (by omega)).mono ?_; rintro e w' ⟨rfl, rfl⟩))
  go_ret
  exact ⟨rfl, by first | exact hB8 | (repeat (first | assumption | exact Below.refl _ _ | refine belowThen ?_ (Go.Joins.below_alloc1 _ _) | apply Below.drew | refine belowThen ?_ (by assumption) | refine belowThen ?_ (Go.Joins.below_draws _ _ _) | refine Below.setCell ?_ (by first | exact Nat.le_refl _ | (simp; done) | (simp; omega)) _))⟩
end Go.Proofs.Yteidpiebjjekbaa
namespace Go.Proofs.Yteidpiebjjekbaa.fnExactChancesFor
open Go.ChangeShapes Go.WideShapes Go.ChangeAt Go.RowKit Go.Joins
open Go.ChangeMaps (open_string shut_string)
set_option linter.unusedVariables false
theorem own : ownKnob Try.prog.godebug = none := by kernel_rfl
theorem laidOut : laidOutB Try.prog = true := by kernel_rfl
set_option maxRecDepth 100000 in
theorem lifted (os : Os) (started : os.Started) (H : Type) (enc : TypeId × Value → H) :
    ReturnsInHanded {} Try.checked os 6 .any (Rows.fnExactChancesForSpec.pre6 enc Try.prog Try.f6 Rows.fnExactChancesForRow.domain false) (Rows.fnExactChancesForSpec.post enc Try.prog Try.f6 false true false false) := by
  refine returnsInHanded_of_change (C := Try.checked) own started (by kernel_rfl) Try.func6
    (ChangeSpec.witness6 (enc := enc) (C := Try.checked) false ⟨#[], #[.int .i64 0, .int .i64 0, .int .i64 0], []⟩ 8 (by kernel_rfl) (by kernel_rfl) (by kernel_rfl) (by kernel_rfl)) ?_
  intro W base args ds gs before hval0 hW hcnd _
  have hval : ∀ (j : Nat) t v, Try.f6.params[j]? = some t → args[j]? = some v → Value.okWide Try.prog W .any base t v := hval0
  have hW' := hW
  obtain ⟨p, q, hA0, hV, rfl, hfz, hnd⟩ := hW
  have hA : DataW.TrodAll enc Try.prog W 0 (fun _ => true) true Try.f6.params.toList args.toList ds p := hA0
  rw [Try.params6] at hA hval
  obtain ⟨v0, vs0, d0, ds0, p0, q0, hargs, rfl, rfl, h0, r0⟩ := trodAll_cons hA
  obtain ⟨v1, vs1, d1, ds1, p1, q1, rfl, rfl, rfl, h1, r1⟩ := trodAll_cons r0
  obtain ⟨v2, vs2, d2, ds2, p2, q2, rfl, rfl, rfl, h2, r2⟩ := trodAll_cons r1
  obtain ⟨rfl, rfl, rfl⟩ := trodAll_nil r2
  obtain rfl : args = #[v0, v1, v2] := by cases args; simp_all
  obtain ⟨rfl, rfl⟩ := trodVars_none hV
  have k0 := h0
  have lt0 : ∀ x ∈ p0, x.block < W.heap.size := by obtain ⟨m, hm⟩ := k0; exact DataW.trod_lt m _ _ _ hm
  have k1 := h1
  have lt1 : ∀ x ∈ p1, x.block < W.heap.size := by obtain ⟨m, hm⟩ := k1; exact DataW.trod_lt m _ _ _ hm
  have k2 := h2
  have lt2 : ∀ x ∈ p2, x.block < W.heap.size := by obtain ⟨m, hm⟩ := k2; exact DataW.trod_lt m _ _ _ hm
  obtain ⟨x0, hv0, w0⟩ : ∃ x : Int, v0 = .int .i64 x ∧ (Lit.int .i64 x).wf = true := by obtain ⟨x, hx, _, _, wx⟩ := open_int Try.underlying3 (hval 0 3 v0 rfl rfl) h0; exact ⟨x, hx, wx⟩
  subst hv0
  obtain ⟨x1, hv1, w1⟩ : ∃ x : Int, v1 = .int .i64 x ∧ (Lit.int .i64 x).wf = true := by obtain ⟨x, hx, _, _, wx⟩ := open_int Try.underlying3 (hval 1 3 v1 rfl rfl) h1; exact ⟨x, hx, wx⟩
  subst hv1
  obtain ⟨x2, hv2, w2⟩ : ∃ x : Int, v2 = .int .i64 x ∧ (Lit.int .i64 x).wf = true := by obtain ⟨x, hx, _, _, wx⟩ := open_int Try.underlying3 (hval 2 3 v2 rfl rfl) h2; exact ⟨x, hx, wx⟩
  subst hv2
  clear hA0 hval0
  refine (fnExactChancesFor_walk x0 (by simpa [Lit.wf, IntKind.min, IntKind.max, IntKind.signed, IntKind.bits] using w0) x1 (by simpa [Lit.wf, IntKind.min, IntKind.max, IntKind.signed, IntKind.bits] using w1) x2 (by simpa [Lit.wf, IntKind.min, IntKind.max, IntKind.signed, IntKind.bits] using w2) W).mono fun e W' ⟨he, bel⟩ => ?_
  subst he
  exact ⟨_, rfl, _, _, _, [], _, [], hW', trodAll_mk1 (shut_bool Try.underlying4 _), (trodAll_cons_mk (Below.trod laidOut (by kernel_rfl) (of_decide_eq_true (by kernel_rfl)) k0 bel lt0) (trodAll_cons_mk (Below.trod laidOut (by kernel_rfl) (of_decide_eq_true (by kernel_rfl)) k1 bel lt1) (trodAll_cons_mk (Below.trod laidOut (by kernel_rfl) (of_decide_eq_true (by kernel_rfl)) k2 bel lt2) trodAll_mk0))), rfl, bel.frame _, fun h => by cases h⟩
theorem over : Rows.fnExactChancesForRow.holds Try.pinned (OpenSpec.ofChange Rows.fnExactChancesForSpec) :=
  OpenClaim.holds_of_wide 6 Try.f6 rfl rfl rfl rfl rfl rfl rfl ⟨rfl, rfl, rfl, rfl, rfl⟩ rfl rfl rfl rfl rfl (by kernel_rfl) Try.func6 (by kernel_rfl)
    (of_decide_eq_true (by kernel_rfl)) (by unfold Func.isWrapper; first | (rw [if_pos (by decide +kernel)]; kernel_rfl) | (rw [if_neg (by decide +kernel)]; exact ⟨rfl, rfl⟩))
    (fun os started H enc _ => lifted os started H enc)
theorem proved : Rows.FnExactChancesForSaid := over
end Go.Proofs.Yteidpiebjjekbaa.fnExactChancesFor
