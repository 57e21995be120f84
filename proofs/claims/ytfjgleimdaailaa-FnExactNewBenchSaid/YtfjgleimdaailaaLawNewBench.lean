/- For all rows, NewBench of the program and of the reference agree, and the arguments are left alone. No conditions. -/
import Derived.Test.YtfjgleimdaailaaBenchI
import Derived.Test.YtfjgleimdaailaaToS
import Derived.Test.YtfjgleimdaailaaEqS
import Derived.Lib.Hide
namespace Go.Proofs.Ytfjgleimdaailaa
open Go.RowKit

set_option maxHeartbeats 1600000 in
set_option maxRecDepth 100000 in
theorem fnExactNewBench_walk (ao : Option Addr) (n cap : Nat) (z : List Int) (w : World) (wr : RowIn .i64 w ao n cap z) :
    Calls Try.prog 6 #[.slice ao n cap] w fun e w' => e = .returned (.bool true) ∧ Below w.heap.size w w' := by
  obtain ⟨hr, hn, hm⟩ := RdI_row wr
  clear wr
  generalize z.take n = L at hr hn
  have HN := Lib.hid hn
  clear hn
  by_cases hbig : n ≤ 1048576
  rotate_left
  · have hA1 := @cellAlloc; have hA2 := @frozenAlloc; have hA3 := @setCellAlloc; go_enter Try.func6, Try.ntmps6
    go_wp2
    go_ret
    exact ⟨rfl, Below.refl _ _⟩
  have hz := (zero_of_info (P := Try.prog) (t := 41) (v := .agg zer19) (n := 19) (by kernel_rfl)).1
  have hsz := benA_size (newZ L)
  have hone := benA_one (newZ L)
  have HS := Lib.hid (fun (a : Option Addr) (c : Nat) W (h : RdI W a L) => NewBenchS_any a n c L W h HN.out (by unfold maxLen; omega))
  have HI := Lib.hid (fun (a : Option Addr) (c : Nat) W (h : RdI W a L) => NewBenchI_any a n c L W h HN.out (by unfold maxLen; omega))
  have HE := Lib.hid (fun W => eqBench_same (newZ L) W)
  generalize benA (newZ L) = A at hsz hone HS HI HE
  generalize rowB L = q at HS HI
  have t1 : True := trivial
  have t2 : True := trivial
  have t3 : True := trivial
  have t4 : True := trivial
  have t5 : True := trivial
  have t6 : True := trivial
  have hA1 := @cellAlloc; have hA2 := @frozenAlloc; have hA3 := @setCellAlloc; go_enter Try.func6, Try.ntmps6
  go_wp2_with (first
    | (go_at_call 24; clear t1; refine (toIntS_any _ _ _ L _ hr HN.out hbig).mono ?_; rintro e w1 ⟨g1, rfl, ho1, hb1⟩)
    | (go_at_call 23; clear t2; refine (HS.out _ _ _ (RdI_owns ho1)).mono ?_; rintro e w2 ⟨rfl, hb2⟩; replace hb2 := belowThen hb1 hb2)
    | (refine wpList_store_row (by rfl) 41 _ _ (by rfl) w2.heap.size A (by rfl) (by rfl) 41 zer19 (heap_alloc_new _ _) (by rw [hsz]; kernel_rfl) (by rw [hsz]; rfl) hone ?_
       rw [World.setRow_alloc_new]
       have k3 := heap_alloc_new w2 (.cells A 41)
       have s3 : w2.heap.size < (w2.alloc (.cells A 41)).heap.size := by simp
       have hb3 := belowThen hb2 (Go.Joins.below_alloc1 w2 (.cells A 41)))
    | (go_at_call 24; clear t3; refine (toIntS_any _ _ _ L _ (RdI_below hr hb3) HN.out hbig).mono ?_; rintro e w4 ⟨g4, rfl, ho4, hb4⟩
       replace k3 := (hb4.block _ s3).trans k3
       have s4 := hb4.size
       have r4 := RdI_owns ho4
       replace hb4 := belowThen hb3 hb4)
    | (go_at_call 25; clear t4; refine (HI.out _ _ _ r4).mono ?_; rintro e w5 ⟨rfl, hb5⟩
       replace k3 := (hb5.block _ (by omega)).trans k3
       have s5 := hb5.size
       have r5 := RdI_below r4 (belowThen hb5 (Go.Joins.below_alloc1 w5 (.cells A 41)))
       have k3' : (w5.alloc (.cells A 41)).heap[w2.heap.size]? = some (.cells A 41 (0, 0)) := by rw [Below.heap_alloc _ _ _ (by omega)]; exact k3
       replace hb5 := belowThen (belowThen hb4 hb5) (Go.Joins.below_alloc1 w5 (.cells A 41)))
    | (refine wpList_store_row (by rfl) 41 _ _ (by rfl) w5.heap.size A (by rfl) (by rfl) 41 zer19 (heap_alloc_new _ _) (by rw [hsz]; kernel_rfl) (by rw [hsz]; rfl) hone ?_
       rw [World.setRow_alloc_new]
       have k5 := heap_alloc_new w5 (.cells A 41))
    | (refine wpList_load_row (by rfl) 41 _ (by rfl) w5.heap.size (by rfl) 41 _ (0, 0) _ k5 Try.underlying41 (by rfl) (by rw [hsz]; kernel_rfl) ?_)
    | (refine wpList_load_row (by rfl) 41 _ (by rfl) w2.heap.size (by rfl) 41 _ (0, 0) _ k3' Try.underlying41 (by rfl) (by rw [hsz]; kernel_rfl) ?_)
    | (go_at_call 26; refine (HE.out _).mono ?_; rintro e w6 ⟨rfl, hb6⟩
       replace r5 := RdI_below r5 hb6
       replace hb6 := belowThen hb5 hb6)
    | (go_at_call 24; clear t5; refine (toIntS_any _ _ _ L _ (RdI_below hr hb6) HN.out hbig).mono ?_; rintro e w7 ⟨g7, rfl, ho7, hb7⟩
       replace r5 := RdI_below r5 hb7
       replace hb7 := belowThen hb6 hb7)
    | (go_at_call 27; clear t6; refine (eqIntS_same _ _ _ _ _ L _ r5 (RdI_owns ho7) HN.out (by unfold maxLen; omega)).mono ?_; rintro e w8 ⟨rfl, hb8⟩))
  go_ret
  exact ⟨rfl, belowThen hb7 hb8⟩
end Go.Proofs.Ytfjgleimdaailaa
namespace Go.Proofs.Ytfjgleimdaailaa.fnExactNewBench
open Go.ChangeShapes Go.WideShapes Go.ChangeAt Go.RowKit Go.Joins
open Go.ChangeMaps (open_string shut_string)
set_option linter.unusedVariables false
theorem own : ownKnob Try.prog.godebug = none := by kernel_rfl
theorem laidOut : laidOutB Try.prog = true := by kernel_rfl
set_option maxRecDepth 100000 in
theorem lifted (os : Os) (started : os.Started) (H : Type) (enc : TypeId × Value → H) :
    ReturnsInHanded {} Try.checked os 6 .any (Rows.fnExactNewBenchSpec.pre6 enc Try.prog Try.f6 Rows.fnExactNewBenchRow.domain false) (Rows.fnExactNewBenchSpec.post enc Try.prog Try.f6 false true false false) := by
  refine returnsInHanded_of_change (C := Try.checked) own started (by kernel_rfl) Try.func6
    (ChangeSpec.witness6 (enc := enc) (C := Try.checked) false ⟨#[], #[.slice none 0 0], []⟩ 8 (by kernel_rfl) (by kernel_rfl) (by kernel_rfl) (by kernel_rfl)) ?_
  intro W base args ds gs before hval0 hW hcnd _
  have hval : ∀ (j : Nat) t v, Try.f6.params[j]? = some t → args[j]? = some v → Value.okWide Try.prog W .any base t v := hval0
  have hW' := hW
  obtain ⟨p, q, hA0, hV, rfl, hfz, hnd⟩ := hW
  have hA : DataW.TrodAll enc Try.prog W 0 (fun _ => true) true Try.f6.params.toList args.toList ds p := hA0
  rw [Try.params6] at hA hval
  obtain ⟨v0, vs0, d0, ds0, p0, q0, hargs, rfl, rfl, h0, r0⟩ := trodAll_cons hA
  obtain ⟨rfl, rfl, rfl⟩ := trodAll_nil r0
  obtain rfl : args = #[v0] := by cases args; simp_all
  obtain ⟨rfl, rfl⟩ := trodVars_none hV
  have k0 := h0
  have lt0 : ∀ x ∈ p0, x.block < W.heap.size := by obtain ⟨m, hm⟩ := k0; exact DataW.trod_lt m _ _ _ hm
  obtain ⟨a0, len0, cap0, rfl⟩ := okWide_slice Try.underlying44 (hval 0 44 v0 rfl rfl)
  obtain ⟨z0, w0⟩ : ∃ zs, RowIn .i64 W a0 len0 cap0 zs := by
    obtain ⟨fuel, hf⟩ := h0
    rcases open_ints Try.underlying44 Try.underlying3 (by kernel_rfl) hf with ⟨hcs, _⟩ | ⟨x, l, c, zs, hcs, _, hl, hm, hz, _, hcell, hwz⟩
    · simp [Value.cells] at hcs
      obtain ⟨rfl, rfl, rfl⟩ := hcs
      exact ⟨[], .inl ⟨rfl, rfl, rfl, rfl⟩⟩
    · simp [Value.cells] at hcs
      obtain ⟨rfl, rfl, rfl⟩ := hcs
      exact ⟨zs, .inr ⟨_, rfl, hl, hm, by simpa using hz, hcell, hwz⟩⟩
  clear hA0 hval0
  refine (fnExactNewBench_walk a0 len0 cap0 z0 W w0).mono fun e W' ⟨he, bel⟩ => ?_
  subst he
  exact ⟨_, rfl, _, _, _, [], _, [], hW', trodAll_mk1 (shut_bool Try.underlying4 _), (trodAll_cons_mk (Below.trod laidOut (by kernel_rfl) (of_decide_eq_true (by kernel_rfl)) k0 bel lt0) trodAll_mk0), rfl, bel.frame _, fun h => by cases h⟩
theorem over : Rows.fnExactNewBenchRow.holds Try.pinned (OpenSpec.ofChange Rows.fnExactNewBenchSpec) :=
  OpenClaim.holds_of_wide 6 Try.f6 rfl rfl rfl rfl rfl rfl rfl ⟨rfl, rfl, rfl, rfl, rfl⟩ rfl rfl rfl rfl rfl (by kernel_rfl) Try.func6 (by kernel_rfl)
    (of_decide_eq_true (by kernel_rfl)) (by unfold Func.isWrapper; first | (rw [if_pos (by decide +kernel)]; kernel_rfl) | (rw [if_neg (by decide +kernel)]; exact ⟨rfl, rfl⟩))
    (fun os started H enc _ => lifted os started H enc)
theorem proved : Rows.FnExactNewBenchSaid := over
end Go.Proofs.Ytfjgleimdaailaa.fnExactNewBench
