/- For all arguments, ReadingAt of the program and of the reference agree, and the arguments are left alone. No conditions. -/
import Derived.Test.YtjlhghbikmipgaaReadS
import Derived.Test.YtjlhghbikmipgaaReadI
import Derived.Test.YtjlhghbikmipgaaToS
import Derived.Test.YtjlhghbikmipgaaEqS
import Derived.Lib.Hide
namespace Go.Proofs.Ytjlhghbikmipgaa
open Go.RowKit

set_option maxHeartbeats 1000000 in
theorem fnExactReadingAt_walk (ao_r : Option Addr) (n_r cap_r : Nat) (z_r : List Int) (k : Int) (_ : -9223372036854775808 ≤ k ∧ k ≤ 9223372036854775807) (w : World) (w_r : RowIn .i64 w ao_r n_r cap_r z_r) :
    Calls Try.prog 6 #[.slice ao_r n_r cap_r, .int .i64 k] w fun e w' => e = .returned (.bool true) ∧ Below w.heap.size w w' := by
  obtain ⟨hr_r, hn_r, hm_r⟩ := RdI_row w_r
  clear w_r
  generalize z_r.take n_r = L_r at hr_r hn_r
  have HN_r := Lib.hid hn_r
  clear hn_r
  by_cases hbig_r : n_r ≤ 1048576
  rotate_left
  · have hA1 := @cellAlloc; have hA2 := @frozenAlloc; have hA3 := @setCellAlloc; go_enter Try.func6, Try.ntmps6
    go_wp2
    go_ret
    exact ⟨rfl, Below.refl _ _⟩
  have t1 : True := trivial
  have t2 : True := trivial
  have t3 : True := trivial
  have t4 : True := trivial
  have t5 : True := trivial
  have t6 : True := trivial
  generalize hr0 : raS L_r k = r0
  have HR0 := Lib.hid hr0
  generalize hr1 : raB L_r k = r1
  have HR1 := Lib.hid hr1
  clear hr0
  clear hr1
  have hA1 := @cellAlloc; have hA2 := @frozenAlloc; have hA3 := @setCellAlloc; go_enter Try.func6, Try.ntmps6
  go_wp2_with (first
    | (go_at_call 11; clear t1; refine (toIntS_any _ _ _ L_r _ hr_r HN_r.out hbig_r).mono ?_; rintro e w1 ⟨g1, rfl, ho1, hb1⟩)
    | (go_at_call 16; clear t2; refine (ReadingAtS_any _ _ _ L_r _ _ (RdI_owns ho1) HN_r.out (by unfold maxLen; omega) (Nat.le_refl _)).mono ?_; rw [HR0.out, HR1.out]; rintro e w2 ⟨rfl, hb2⟩)
    | (go_at_call 11; clear t3; refine (toIntS_any _ _ _ L_r _ (RdI_below (RdI_below hr_r hb1) hb2) HN_r.out hbig_r).mono ?_; rintro e w3 ⟨g3, rfl, ho3, hb3⟩)
    | (go_at_call 17; clear t4; refine (ReadingAtI_any _ _ _ L_r _ _ (RdI_owns ho3) HN_r.out (by unfold maxLen; omega) (Nat.le_refl _)).mono ?_; rw [HR0.out, HR1.out]; rintro e w4 ⟨rfl, hb4⟩)
    | (go_at_call 11; clear t5; refine (toIntS_any _ _ _ L_r _ (RdI_below (RdI_below (RdI_below (RdI_below hr_r hb1) hb2) hb3) hb4) HN_r.out hbig_r).mono ?_; rintro e w5 ⟨g5, rfl, ho5, hb5⟩)
    | (go_at_call 13; clear t6; refine (eqIntS_same _ _ _ _ _ L_r _ (RdI_below (RdI_below (RdI_owns ho3) hb4) hb5) (RdI_owns ho5) HN_r.out (by unfold maxLen; omega)).mono ?_; rintro e w6 ⟨rfl, hb6⟩))
  go_ret
  exact ⟨rfl, by (repeat (first | assumption | exact Below.refl _ _ | refine belowThen ?_ (Go.Joins.below_alloc1 _ _) | apply Below.drew | refine belowThen ?_ (by assumption) | refine belowThen ?_ (Go.Joins.below_draws _ _ _) | refine Below.setCell ?_ (by first | exact Nat.le_refl _ | (simp; done) | (simp; omega)) _))⟩
end Go.Proofs.Ytjlhghbikmipgaa
namespace Go.Proofs.Ytjlhghbikmipgaa.fnExactReadingAt
open Go.ChangeShapes Go.WideShapes Go.ChangeAt Go.RowKit Go.Joins
open Go.ChangeMaps (open_string shut_string)
set_option linter.unusedVariables false
theorem own : ownKnob Try.prog.godebug = none := by kernel_rfl
theorem laidOut : laidOutB Try.prog = true := by kernel_rfl
set_option maxRecDepth 100000 in
theorem lifted (os : Os) (started : os.Started) (H : Type) (enc : TypeId × Value → H) :
    ReturnsInHanded {} Try.checked os 6 .any (Rows.fnExactReadingAtSpec.pre6 enc Try.prog Try.f6 Rows.fnExactReadingAtRow.domain false) (Rows.fnExactReadingAtSpec.post enc Try.prog Try.f6 false true false false) := by
  refine returnsInHanded_of_change (C := Try.checked) own started (by kernel_rfl) Try.func6
    (ChangeSpec.witness6 (enc := enc) (C := Try.checked) false ⟨#[], #[.slice none 0 0, .int .i64 0], []⟩ 8 (by kernel_rfl) (by kernel_rfl) (by kernel_rfl) (by kernel_rfl)) ?_
  intro W base args ds gs before hval0 hW hcnd _
  have hval : ∀ (j : Nat) t v, Try.f6.params[j]? = some t → args[j]? = some v → Value.okWide Try.prog W .any base t v := hval0
  have hW' := hW
  obtain ⟨p, q, hA0, hV, rfl, hfz, hnd⟩ := hW
  have hA : DataW.TrodAll enc Try.prog W 0 (fun _ => true) true Try.f6.params.toList args.toList ds p := hA0
  rw [Try.params6] at hA hval
  obtain ⟨v0, vs0, d0, ds0, p0, q0, hargs, rfl, rfl, h0, r0⟩ := trodAll_cons hA
  obtain ⟨v1, vs1, d1, ds1, p1, q1, rfl, rfl, rfl, h1, r1⟩ := trodAll_cons r0
  obtain ⟨rfl, rfl, rfl⟩ := trodAll_nil r1
  obtain rfl : args = #[v0, v1] := by cases args; simp_all
  obtain ⟨rfl, rfl⟩ := trodVars_none hV
  have k0 := h0
  have lt0 : ∀ x ∈ p0, x.block < W.heap.size := by obtain ⟨m, hm⟩ := k0; exact DataW.trod_lt m _ _ _ hm
  have k1 := h1
  have lt1 : ∀ x ∈ p1, x.block < W.heap.size := by obtain ⟨m, hm⟩ := k1; exact DataW.trod_lt m _ _ _ hm
  obtain ⟨a0, len0, cap0, rfl⟩ := okWide_slice Try.underlying25 (hval 0 25 v0 rfl rfl)
  obtain ⟨z0, w0⟩ : ∃ zs, RowIn .i64 W a0 len0 cap0 zs := by
    obtain ⟨fuel, hf⟩ := h0
    rcases open_ints Try.underlying25 Try.underlying3 (by kernel_rfl) hf with ⟨hcs, _⟩ | ⟨x, l, c, zs, hcs, _, hl, hm, hz, _, hcell, hwz⟩
    · simp [Value.cells] at hcs
      obtain ⟨rfl, rfl, rfl⟩ := hcs
      exact ⟨[], .inl ⟨rfl, rfl, rfl, rfl⟩⟩
    · simp [Value.cells] at hcs
      obtain ⟨rfl, rfl, rfl⟩ := hcs
      exact ⟨zs, .inr ⟨_, rfl, hl, hm, by simpa using hz, hcell, hwz⟩⟩
  obtain ⟨x1, hv1, w1⟩ : ∃ x : Int, v1 = .int .i64 x ∧ (Lit.int .i64 x).wf = true := by obtain ⟨x, hx, _, _, wx⟩ := open_int Try.underlying3 (hval 1 3 v1 rfl rfl) h1; exact ⟨x, hx, wx⟩
  subst hv1
  clear hA0 hval0
  refine (fnExactReadingAt_walk a0 len0 cap0 z0 x1 (by simpa [Lit.wf, IntKind.min, IntKind.max, IntKind.signed, IntKind.bits] using w1) W w0).mono fun e W' ⟨he, bel⟩ => ?_
  subst he
  exact ⟨_, rfl, _, _, _, [], _, [], hW', trodAll_mk1 (shut_bool Try.underlying4 _), (trodAll_cons_mk (Below.trod laidOut (by kernel_rfl) (of_decide_eq_true (by kernel_rfl)) k0 bel lt0) (trodAll_cons_mk (Below.trod laidOut (by kernel_rfl) (of_decide_eq_true (by kernel_rfl)) k1 bel lt1) trodAll_mk0)), rfl, bel.frame _, fun h => by cases h⟩
theorem over : Rows.fnExactReadingAtRow.holds Try.pinned (OpenSpec.ofChange Rows.fnExactReadingAtSpec) :=
  OpenClaim.holds_of_wide 6 Try.f6 rfl rfl rfl rfl rfl rfl rfl ⟨rfl, rfl, rfl, rfl, rfl⟩ rfl rfl rfl rfl rfl (by kernel_rfl) Try.func6 (by kernel_rfl)
    (of_decide_eq_true (by kernel_rfl)) (by unfold Func.isWrapper; first | (rw [if_pos (by decide +kernel)]; kernel_rfl) | (rw [if_neg (by decide +kernel)]; exact ⟨rfl, rfl⟩))
    (fun os started H enc _ => lifted os started H enc)
theorem proved : Rows.FnExactReadingAtSaid := over
end Go.Proofs.Ytjlhghbikmipgaa.fnExactReadingAt
