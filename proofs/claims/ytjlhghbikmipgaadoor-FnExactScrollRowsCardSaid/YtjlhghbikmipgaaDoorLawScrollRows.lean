/- For all arguments, ScrollRows of the program and of the reference agree, and the result is new memory, the rows of which share none. No conditions. -/
import Derived.Test.YtjlhghbikmipgaaDoorScrR
import Derived.Test.YtjlhghbikmipgaaDoorCards
import Derived.Test.YtjlhghbikmipgaaDoorTie
import Derived.Lay
import Derived.LaidOnce
import Derived.SevenTiedAt
import Derived.LaidMore
import Derived.Lib.Hide
namespace Go.Proofs.YtjlhghbikmipgaaDoor
open Go.RowKit

/-- The length of a row, or 1 where there is none. -/
def scrK (s : ByteArray) (k : Int) : Nat := if scrB s k = true then k.toNat else 1
theorem scrK_in (s : ByteArray) (k : Int) : 0 < scrK s k ∧ scrK s k ≤ 6 := by
  unfold scrK
  split
  · rename_i h
    simp only [scrB, wordB, Bool.and_eq_true, decide_eq_true_eq, inB_iff] at h
    omega
  · omega
theorem RetScrB_K {s : ByteArray} {k : Int} {w : World} {e : Ending} {w' : World} (h : RetScrB (scrN s k) k.toNat (scrR (rowW s) k.toNat) (scrB s k) w e w') : RetScrB (scrN s k) (scrK s k) (scrR (rowW s) k.toNat) (scrB s k) w e w' := by
  obtain ⟨ao, cap, gs, he, hs, hb⟩ := h
  refine ⟨ao, cap, gs, he, ?_, hb⟩
  unfold scrK
  split
  · exact hs
  · rename_i hq
    have h0 : scrN s k = 0 := by unfold scrN; rw [if_neg hq]
    rw [h0] at hs ⊢
    exact ⟨hs.1, fun i hi => by omega, fun i j _ hj => by omega⟩
set_option maxHeartbeats 2000000 in
theorem fnExactScrollRows_walk (s : ByteArray) (hs : s.size ≤ maxLen) (k : Int) (_ : -9223372036854775808 ≤ k ∧ k ≤ 9223372036854775807) (w : World)  :
    Calls Tryd.prog 8 #[.string s, .int .i64 k] w fun e w' => e = .returned (.bool true) ∧ Below w.heap.size w w' := by
  by_cases hbig_s : s.size ≤ 1048576
  rotate_left
  · unfold maxLen at *
    have hA1 := @cellAlloc; have hA2 := @frozenAlloc; have hA3 := @setCellAlloc; go_enter Tryd.func8, Tryd.ntmps8
    go_wp2
    go_ret
    exact ⟨rfl, Below.refl _ _⟩
  have HS := Lib.hid (fun W => (ScrollRowsS_any s k hs W).mono fun e w' h => RetScrB_K h)
  have HI := Lib.hid (fun W => (ScrollRowsI_any s k hs W).mono fun e w' h => RetScrB_K h)
  have hM := scrN_le s k
  obtain ⟨hK0, hK1⟩ := scrK_in s k
  generalize scrN s k = M at *
  generalize scrK s k = K at *
  generalize scrR (rowW s) k.toNat = R at *
  generalize scrB s k = q at *
  have hMK : M * K ≤ 1000 * 1000 := Nat.mul_le_mul (by omega) (by omega)
  have HMark := Lib.hid (fun B ao cap gs W h => markIntSS_any B ao M cap K gs R 1 W h hK0 (by omega) (by omega) (by omega) (by omega))
  have HHeld := Lib.hid (fun B ao cap gs W h => heldIntSS_any B ao M cap K gs 1 W h (by omega) (by omega) (by omega) (by omega))
  have HEq := Lib.hid (fun B C ao bo ca cb gs hs W ha hb => eqIntSS_same B C ao bo M ca cb K gs hs R W ha hb (by omega) (by omega))
  have hz0 : 0 ≤ 1 + ((M * K : Nat) : Int) := by omega
  have hz1 : 1 + ((M * K : Nat) : Int) ≤ 2000000 := by omega
  generalize 1 + ((M * K : Nat) : Int) = z at HMark HHeld hz0 hz1
  clear hMK
  have t1 : True := trivial
  have t2 : True := trivial
  have t3 : True := trivial
  have t4 : True := trivial
  have th4 : True := trivial
  have t5 : True := trivial
  have t6 : True := trivial
  have th7 : True := trivial
  have hA1 := @cellAlloc; have hA2 := @frozenAlloc; have hA3 := @setCellAlloc; go_enter Tryd.func8, Tryd.ntmps8
  go_wp2_with (first
  | (go_at_call 23; clear t1; refine (HS.out _).mono ?_; rintro e w1 ⟨ao1, ca1, gs1, rfl, ho1, hb1⟩; have B0_1 := hb1)
  | (go_at_call 24; clear t2; refine (HI.out _).mono ?_; rintro e w2 ⟨ao2, ca2, gs2, rfl, ho2, hb2⟩; have B0_2 := belowThen B0_1 hb2; have B1_2 := hb2)
  | (go_at_call 25; clear t3; refine (HEq.out _ _ _ _ _ _ _ _ _ ho2 (scr_below ho1 B1_2 (Nat.le_refl _))).mono ?_; rintro e w3 ⟨rfl, hb3⟩; have B0_3 := belowThen B0_2 hb3; have B1_3 := belowThen B1_2 hb3; have B2_3 := hb3)
  | (go_at_call 26; clear t4; refine (HMark.out _ _ _ _ _ (scr_below ho2 B2_3 (Nat.le_refl _))).mono ?_; rintro e w4 ⟨rfl, ho4, hbx4⟩; have B0_4 := B0_3.trans (hbx4.mono (B0_1.size)); have B1_4 := B1_3.trans (hbx4.mono (Nat.le_refl _)))
  | (go_at_call 27; clear th4; refine (HHeld.out _ _ _ _ _ ho4).mono ?_; rintro e w' ⟨rfl, rfl⟩)
  | (go_at_call 24; clear t5; refine (HI.out _).mono ?_; rintro e w5 ⟨ao5, ca5, gs5, rfl, ho5, hb5⟩; have B0_5 := belowThen B0_4 hb5; have B1_5 := belowThen B1_4 hb5; have B4_5 := hb5)
  | (go_at_call 25; clear t6; refine (HEq.out _ _ _ _ _ _ _ _ _ ho5 (scr_below ho1 B1_5 (Nat.le_refl _))).mono ?_; rintro e w6 ⟨rfl, hb6⟩; have B0_6 := belowThen B0_5 hb6; have B4_6 := belowThen B4_5 hb6)
  | (go_at_call 27; clear th7; refine (HHeld.out _ _ _ _ _ (scr_below ho4 B4_6 (Nat.le_refl _))).mono ?_; rintro e w' ⟨rfl, rfl⟩))
  go_ret
  exact ⟨rfl, B0_6⟩
end Go.Proofs.YtjlhghbikmipgaaDoor
namespace Go.Proofs.YtjlhghbikmipgaaDoor.fnExactScrollRows
open Go.ChangeShapes Go.WideShapes Go.ChangeAt Go.RowKit Go.Joins
open Go.ChangeMaps (open_string shut_string)
set_option linter.unusedVariables false
theorem own : ownKnob Tryd.prog.godebug = none := by kernel_rfl
theorem laidOut : laidOutB Tryd.prog = true := by kernel_rfl
set_option maxRecDepth 100000 in
theorem lifted (os : Os) (started : os.Started) (H : Type) (enc : TypeId × Value → H) :
    ReturnsInHanded {} Tryd.checked os 8 .any (fun w args => (Rows.fnExactScrollRowsSpec.pre enc Tryd.prog Tryd.f8 [] false w args ∧ laidMetH Tryd.prog Rows.fnExactScrollRowsRow.laid w) ∧ sizedMet enc Tryd.prog Tryd.f8 (OpenSpec.ofChange Rows.fnExactScrollRowsSpec) false w args)
      (Rows.fnExactScrollRowsSpec.post enc Tryd.prog Tryd.f8 false true false false) := by
  refine returnsInHanded_of_change_and (C := Tryd.checked) (X := fun w _ => laidMetH Tryd.prog Rows.fnExactScrollRowsRow.laid w) (fun _ _ _ hh h => h.of_heap hh) own started (by kernel_rfl) Tryd.func8
    (ChangeSpec.witness_shaped (enc := enc) (C := Tryd.checked) (os := os) (X := fun w _ => laidMetH Tryd.prog Rows.fnExactScrollRowsRow.laid w) false (World.laidAll Tryd.prog os Rows.fnExactScrollRowsRow.laid) #[.string ⟨#[]⟩, .int .i64 0] 8 (World.laidAll_os _ _ _)
      (World.shaped_of_ZipB (by kernel_rfl) (by kernel_rfl)) (by kernel_rfl) (by kernel_rfl) (by kernel_rfl)
      (by rw [MakeChecks.laidMetH_plain _ _ _ (by kernel_rfl)]; exact laidMet_laidAll _ (by kernel_rfl) (by kernel_rfl))) ?_
  intro W base args ds gs before hval0 hW _ _ _ _
  have hval : ∀ (j : Nat) t v, Tryd.f8.params[j]? = some t → args[j]? = some v → Value.okWide Tryd.prog W .any base t v := hval0
  have hW' := hW
  obtain ⟨p, q, hA0, hV, rfl, hfz, hnd⟩ := hW
  have hA : DataW.TrodAll enc Tryd.prog W 0 (fun _ => true) true Tryd.f8.params.toList args.toList ds p := hA0
  rw [Tryd.params8] at hA hval
  obtain ⟨v0, vs0, d0, ds0, p0, q0, hargs, rfl, rfl, h0, r0⟩ := trodAll_cons hA
  obtain ⟨v1, vs1, d1, ds1, p1, q1, rfl, rfl, rfl, h1, r1⟩ := trodAll_cons r0
  obtain ⟨rfl, rfl, rfl⟩ := trodAll_nil r1
  obtain rfl : args = #[v0, v1] := by cases args; simp_all
  obtain ⟨rfl, rfl⟩ := trodVars_none hV
  have k0 := h0
  have lt0 : ∀ x ∈ p0, x.block < W.heap.size := by obtain ⟨m, hm⟩ := k0; exact DataW.trod_lt m _ _ _ hm
  have k1 := h1
  have lt1 : ∀ x ∈ p1, x.block < W.heap.size := by obtain ⟨m, hm⟩ := k1; exact DataW.trod_lt m _ _ _ hm
  obtain ⟨s0, hv0, ws0⟩ : ∃ s : ByteArray, v0 = .string s ∧ s.size ≤ maxLen := by obtain ⟨s, hx, _, _, hs⟩ := open_string Tryd.underlying9 (hval 0 9 v0 rfl rfl) h0; exact ⟨s, hx, hs⟩
  subst hv0
  obtain ⟨x1, hv1, w1⟩ : ∃ x : Int, v1 = .int .i64 x ∧ (Lit.int .i64 x).wf = true := by obtain ⟨x, hx, _, _, wx⟩ := open_int Tryd.underlying3 (hval 1 3 v1 rfl rfl) h1; exact ⟨x, hx, wx⟩
  subst hv1
  clear hA0 hval0
  refine (fnExactScrollRows_walk s0 ws0 x1 (by simpa [Lit.wf, IntKind.min, IntKind.max, IntKind.signed, IntKind.bits] using w1) W).mono fun e W' ⟨he, bel⟩ => ?_
  subst he
  exact ⟨_, rfl, _, _, _, [], _, [], hW', trodAll_mk1 (shut_bool Tryd.underlying4 _), (trodAll_cons_mk (Below.trod laidOut (by kernel_rfl) (of_decide_eq_true (by kernel_rfl)) k0 bel lt0) (trodAll_cons_mk (Below.trod laidOut (by kernel_rfl) (of_decide_eq_true (by kernel_rfl)) k1 bel lt1) trodAll_mk0)), rfl, bel.frame _, fun h => by cases h⟩
theorem over : Rows.fnExactScrollRowsRow.holds Tryd.pinned (OpenSpec.ofChange Rows.fnExactScrollRowsSpec) :=
  OpenClaim.holds_of_wide 8 Tryd.f8 rfl rfl rfl rfl rfl rfl rfl ⟨rfl, rfl, rfl, rfl, rfl⟩ rfl rfl rfl rfl rfl (by kernel_rfl) Tryd.func8 (by kernel_rfl)
    (of_decide_eq_true (by kernel_rfl)) (by unfold Func.isWrapper; first | (rw [if_pos (by decide +kernel)]; kernel_rfl) | (rw [if_neg (by decide +kernel)]; exact ⟨rfl, rfl⟩))
    (fun os started H enc _ => lifted os started H enc)
theorem proved : Rows.FnExactScrollRowsCardSaid :=
  Claim7.holds_tied_plain_at .later [] [.data, .pinned] true (true, "fb8d71a8706e55f38baab5e1f11e98de0294b5320b6c76a5bd346ab6660456d9") false
    over (fun _ h => by cases h) (by kernel_rfl) (fun _ h => by cases h) fnExactScrollRows_row_tie rfl ⟨rfl, rfl⟩ (by kernel_rfl) rfl
    (fun f fn hf hfn => by
      obtain rfl : f = 8 := Option.some.inj ((show Tryd.prog.funcNamed "loop.example/g01265/laws.FnExactScrollRows" = some 8 by kernel_rfl).symm.trans hf) |>.symm
      obtain rfl : fn = Tryd.f8 := (Option.some.inj (Tryd.func8.symm.trans hfn)).symm
      exact ⟨by kernel_rfl, fun j t ht => by
        rw [Tryd.params8] at ht
        have hm : t ∈ [9, 3] := by simpa using Array.mem_of_getElem? ht
        have hall : ([9, 3].all fun u => !(Tryd.prog).wantsStandIn u) = true := by kernel_rfl
        exact (show (Tryd.prog).wantsStandIn t = false by simpa using List.all_eq_true.1 hall t hm)⟩)
    (by kernel_rfl)
end Go.Proofs.YtjlhghbikmipgaaDoor.fnExactScrollRows
