/- For all arguments, ScrollChanges of the program and of the reference agree. No conditions. -/
import Derived.Test.YtjlhghbikmipgaaDoorScrD
import Derived.Test.YtjlhghbikmipgaaDoorCards
import Derived.Test.YtjlhghbikmipgaaDoorTie
import Derived.Lay
import Derived.LaidOnce
import Derived.SevenTiedAt
import Derived.LaidMore
import Derived.Lib.Hide
namespace Go.Proofs.YtjlhghbikmipgaaDoor
open Go.RowKit

theorem scrR_ok (s : ByteArray) (K : Nat) : ∀ i, (scrR (rowW s) K i).length = K ∧ ∀ x ∈ scrR (rowW s) K i, inB 0 127 x = true := fun i => by
  refine ⟨scrP_length _ _ _ _, fun x hx => ?_⟩
  unfold scrR scrP at hx
  obtain ⟨p, hp, rfl⟩ := List.mem_map.1 hx
  split
  · rw [List.getD_eq_getElem?_getD]
    cases h : (rowW s)[((p : Int) - ((K : Int) - 1 - i)).toNat]? with
    | none => rfl
    | some y => exact rowW_mem s y (List.mem_of_getElem? h)
  · rfl
def schZ (s : ByteArray) (k : Int) : Int := if scrB s k = true then ((sumZ (rowsZ (scrR (rowW s) k.toNat) (scrM s.size k.toNat) k.toNat) k.toNat (scrM s.size k.toNat + 1) : Nat) : Int) else 0
theorem scrB_parts {s : ByteArray} {k : Int} (h : scrB s k = true) : 1 ≤ k.toNat ∧ k.toNat ≤ 6 ∧ s.size ≤ 12 ∧ allIn s = true ∧ (k.toNat : Int) = k ∧ scrM s.size k.toNat ≤ 17 ∧ wordB s 12 = true ∧ inB 1 6 k = true := by
  have h0 := h
  simp only [scrB, wordB, Bool.and_eq_true, decide_eq_true_eq, inB_iff] at h
  have h2 : wordB s 12 = true ∧ inB 1 6 k = true := by simpa [scrB] using h0
  refine ⟨by omega, by omega, h.1.1, h.1.2, by omega, ?_, h2⟩
  unfold scrM
  split <;> omega
set_option maxHeartbeats 1000000 in
theorem ScrollChangesS_all (s : ByteArray) (k : Int) (hs : s.size ≤ maxLen) (w : World) : Calls Tryd.prog 28 #[.string s, .int .i64 k] w fun e w' => e = .returned (.tuple #[.int .i64 (schZ s k), .bool (scrB s k)]) ∧ Below w.heap.size w w' := by
  by_cases hq : scrB s k = true
  · obtain ⟨a1, a2, a3, a4, a5, a6, a7, a8⟩ := scrB_parts hq
    have h := ScrollChangesS_any s k hs k.toNat (scrM s.size k.toNat) (scrR (rowW s) k.toNat) a5 a1 a2 w (Lib.hid fun W => l10Scroll_any s k.toNat a1 a2 a3 a4 W) (Lib.hid fun W => by have := l10Word_any s 12 (by omega) hs W; rw [a7] at this; exact this) (Lib.hid (by rw [a5]; exact a8)) a6 (scrR_ok s _)
    rw [a5] at h
    unfold schZ
    rw [if_pos hq, hq]
    exact h
  · have HW := Lib.hid (fun W => l10Word_any s 12 (by omega) hs W)
    unfold schZ
    rw [if_neg hq]
    rw [Bool.not_eq_true] at hq
    rw [hq]
    unfold scrB at hq
    generalize hq1 : wordB s 12 = q1 at *
    generalize hq2 : inB 1 6 k = q2 at *
    clear hq1
    have H2 := Lib.hid hq2
    clear hq2
    rcases q1 with _ | _
    · clear hq
      have hA1 := @cellAlloc; have hA2 := @frozenAlloc; have hA3 := @setCellAlloc; go_enter Tryd.func28, Tryd.ntmps28
      go_wp2_with (first | (go_at_call 30; refine (HW.out _).mono ?_; rintro e w' ⟨rfl, rfl⟩))
      go_ret2
      exact ⟨rfl, by (repeat (first | assumption | exact Below.refl _ _ | refine belowThen ?_ (Go.Joins.below_alloc1 _ _) | apply Below.drew | refine belowThen ?_ (by assumption) | refine belowThen ?_ (Go.Joins.below_draws _ _ _) | refine Below.setCell ?_ (by first | exact Nat.le_refl _ | (simp; done) | (simp; omega)) _))⟩
    rcases q2 with _ | _
    · clear hq
      have hA1 := @cellAlloc; have hA2 := @frozenAlloc; have hA3 := @setCellAlloc; go_enter Tryd.func28, Tryd.ntmps28
      go_wp2_with (first | (go_at_call 30; refine (HW.out _).mono ?_; rintro e w' ⟨rfl, rfl⟩) | (go_at_call 42; refine (l1In_any _ _ _ _).mono ?_; rw [H2.out]; rintro e w' ⟨rfl, rfl⟩))
      go_ret2
      exact ⟨rfl, by (repeat (first | assumption | exact Below.refl _ _ | refine belowThen ?_ (Go.Joins.below_alloc1 _ _) | apply Below.drew | refine belowThen ?_ (by assumption) | refine belowThen ?_ (Go.Joins.below_draws _ _ _) | refine Below.setCell ?_ (by first | exact Nat.le_refl _ | (simp; done) | (simp; omega)) _))⟩
    · cases hq
set_option maxHeartbeats 1000000 in
theorem ScrollChangesI_all (s : ByteArray) (k : Int) (hs : s.size ≤ maxLen) (w : World) : Calls Tryd.prog 29 #[.string s, .int .i64 k] w fun e w' => e = .returned (.tuple #[.int .i64 (schZ s k), .bool (scrB s k)]) ∧ Below w.heap.size w w' := by
  have HW0 := Lib.hid (fun W => isScroll_any s k hs W)
  by_cases hq : scrB s k = true
  · obtain ⟨a1, a2, a3, a4, a5, a6, a7, a8⟩ := scrB_parts hq
    have HW := HW0.out
    rw [hq, ← a5] at HW
    have HScr : ∀ W, Calls Tryd.prog 45 #[.string s, .int .i64 k.toNat] W fun e w' => ∃ ao cap gs, e = .returned (.slice ao (scrM s.size k.toNat) cap) ∧ scr w' W.heap.size (.slice ao (scrM s.size k.toNat) cap) (scrM s.size k.toNat) k.toNat gs (scrR (rowW s) k.toNat) ∧ (scrM s.size k.toNat = 0 → Value.slice ao (scrM s.size k.toNat) cap = .slice none 0 0) ∧ Below W.heap.size W w' := fun W => by
      by_cases h0 : s.size = 0
      · have hM : scrM s.size k.toNat = 0 := by unfold scrM; rw [if_pos h0]
        rw [hM]
        exact (scroll_nil s k.toNat h0 W).mono fun e w' ⟨he, hw⟩ => ⟨none, 0, fun _ => 0, he, scr_nil _ _ _ _ _, fun _ => rfl, by rw [← hw]; exact Below.refl _ _⟩
      · have hM : scrM s.size k.toNat ≠ 0 := by unfold scrM; rw [if_neg h0]; omega
        exact (scroll_any s k.toNat a1 a2 a3 a4 W).mono fun e w' ⟨ao, cap, gs, he, hs, hb⟩ => ⟨ao, cap, gs, he, hs, fun h => absurd h hM, hb⟩
    have h := ScrollChangesI_any s k.toNat (scrM s.size k.toNat) (scrR (rowW s) k.toNat) a1 a2 w (Lib.hid HScr) (Lib.hid HW) a6 (scrR_ok s _)
    rw [a5] at h
    unfold schZ
    rw [if_pos hq, hq]
    exact h
  · unfold schZ
    rw [if_neg hq]
    rw [Bool.not_eq_true] at hq
    rw [hq] at HW0
    rw [hq]
    have hA1 := @cellAlloc; have hA2 := @frozenAlloc; have hA3 := @setCellAlloc; go_enter Tryd.func29, Tryd.ntmps29
    go_wp2_with (first | (go_at_call 44; refine (HW0.out _).mono ?_; rintro e w1 ⟨rfl, hb1⟩))
    go_ret2
    exact ⟨rfl, hb1⟩
set_option maxHeartbeats 1000000 in
theorem fnExactScrollChanges_walk (s : ByteArray) (hs : s.size ≤ maxLen) (k : Int) (_ : -9223372036854775808 ≤ k ∧ k ≤ 9223372036854775807) (w : World)  :
    Calls Tryd.prog 9 #[.string s, .int .i64 k] w fun e w' => e = .returned (.bool true) ∧ Below w.heap.size w w' := by
  by_cases hbig_s : s.size ≤ 1048576
  rotate_left
  · unfold maxLen at *
    have hA1 := @cellAlloc; have hA2 := @frozenAlloc; have hA3 := @setCellAlloc; go_enter Tryd.func9, Tryd.ntmps9
    go_wp2
    go_ret
    exact ⟨rfl, Below.refl _ _⟩
  have HS := Lib.hid (fun W => ScrollChangesS_all s k hs W)
  have HI := Lib.hid (fun W => ScrollChangesI_all s k hs W)
  generalize schZ s k = z at HS HI
  generalize scrB s k = q at HS HI
  have hA1 := @cellAlloc; have hA2 := @frozenAlloc; have hA3 := @setCellAlloc; go_enter Tryd.func9, Tryd.ntmps9
  go_wp2_with (first
    | (go_at_call 28; refine (HS.out _).mono ?_; rintro e w1 ⟨rfl, hb1⟩)
    | (go_at_call 29; refine (HI.out _).mono ?_; rintro e w2 ⟨rfl, hb2⟩))
  go_ret
  exact ⟨rfl, belowThen hb1 hb2⟩
end Go.Proofs.YtjlhghbikmipgaaDoor
namespace Go.Proofs.YtjlhghbikmipgaaDoor.fnExactScrollChanges
open Go.ChangeShapes Go.WideShapes Go.ChangeAt Go.RowKit Go.Joins
open Go.ChangeMaps (open_string shut_string)
set_option linter.unusedVariables false
theorem own : ownKnob Tryd.prog.godebug = none := by kernel_rfl
theorem laidOut : laidOutB Tryd.prog = true := by kernel_rfl
set_option maxRecDepth 100000 in
theorem lifted (os : Os) (started : os.Started) (H : Type) (enc : TypeId × Value → H) :
    ReturnsInHanded {} Tryd.checked os 9 .any (fun w args => (Rows.fnExactScrollChangesSpec.pre enc Tryd.prog Tryd.f9 [] false w args ∧ laidMetH Tryd.prog Rows.fnExactScrollChangesRow.laid w) ∧ sizedMet enc Tryd.prog Tryd.f9 (OpenSpec.ofChange Rows.fnExactScrollChangesSpec) false w args)
      (Rows.fnExactScrollChangesSpec.post enc Tryd.prog Tryd.f9 false true false false) := by
  refine returnsInHanded_of_change_and (C := Tryd.checked) (X := fun w _ => laidMetH Tryd.prog Rows.fnExactScrollChangesRow.laid w) (fun _ _ _ hh h => h.of_heap hh) own started (by kernel_rfl) Tryd.func9
    (ChangeSpec.witness_shaped (enc := enc) (C := Tryd.checked) (os := os) (X := fun w _ => laidMetH Tryd.prog Rows.fnExactScrollChangesRow.laid w) false (World.laidAll Tryd.prog os Rows.fnExactScrollChangesRow.laid) #[.string ⟨#[]⟩, .int .i64 0] 8 (World.laidAll_os _ _ _)
      (World.shaped_of_ZipB (by kernel_rfl) (by kernel_rfl)) (by kernel_rfl) (by kernel_rfl) (by kernel_rfl)
      (by rw [MakeChecks.laidMetH_plain _ _ _ (by kernel_rfl)]; exact laidMet_laidAll _ (by kernel_rfl) (by kernel_rfl))) ?_
  intro W base args ds gs before hval0 hW _ _ _ _
  have hval : ∀ (j : Nat) t v, Tryd.f9.params[j]? = some t → args[j]? = some v → Value.okWide Tryd.prog W .any base t v := hval0
  have hW' := hW
  obtain ⟨p, q, hA0, hV, rfl, hfz, hnd⟩ := hW
  have hA : DataW.TrodAll enc Tryd.prog W 0 (fun _ => true) true Tryd.f9.params.toList args.toList ds p := hA0
  rw [Tryd.params9] at hA hval
  obtain ⟨v0, vs0, d0, ds0, p0, q0, hargs, rfl, rfl, h0, r0⟩ := trodAll_cons hA
  obtain ⟨v1, vs1, d1, ds1, p1, q1, rfl, rfl, rfl, h1, r1⟩ := trodAll_cons r0
  obtain ⟨rfl, rfl, rfl⟩ := trodAll_nil r1
  obtain rfl : args = #[v0, v1] := by cases args; simp_all
  obtain ⟨rfl, rfl⟩ := trodVars_none hV
  have k0 := h0
  have lt0 : ∀ x ∈ p0, x.block < W.heap.size := by obtain ⟨m, hm⟩ := k0; exact DataW.trod_lt m _ _ _ hm
  have k1 := h1
  have lt1 : ∀ x ∈ p1, x.block < W.heap.size := by obtain ⟨m, hm⟩ := k1; exact DataW.trod_lt m _ _ _ hm
  obtain ⟨s0, hv0, ws0⟩ : ∃ s : ByteArray, v0 = .string s ∧ s.size ≤ maxLen := by obtain ⟨s, hx, _, _, hs⟩ := open_string Tryd.underlying9 (hval 0 9 v0 rfl rfl) h0; exact ⟨s, hx, hs⟩
  subst hv0
  obtain ⟨x1, hv1, w1⟩ : ∃ x : Int, v1 = .int .i64 x ∧ (Lit.int .i64 x).wf = true := by obtain ⟨x, hx, _, _, wx⟩ := open_int Tryd.underlying3 (hval 1 3 v1 rfl rfl) h1; exact ⟨x, hx, wx⟩
  subst hv1
  clear hA0 hval0
  refine (fnExactScrollChanges_walk s0 ws0 x1 (by simpa [Lit.wf, IntKind.min, IntKind.max, IntKind.signed, IntKind.bits] using w1) W).mono fun e W' ⟨he, bel⟩ => ?_
  subst he
  exact ⟨_, rfl, _, _, _, [], _, [], hW', trodAll_mk1 (shut_bool Tryd.underlying4 _), (trodAll_cons_mk (Below.trod laidOut (by kernel_rfl) (of_decide_eq_true (by kernel_rfl)) k0 bel lt0) (trodAll_cons_mk (Below.trod laidOut (by kernel_rfl) (of_decide_eq_true (by kernel_rfl)) k1 bel lt1) trodAll_mk0)), rfl, bel.frame _, fun h => by cases h⟩
theorem over : Rows.fnExactScrollChangesRow.holds Tryd.pinned (OpenSpec.ofChange Rows.fnExactScrollChangesSpec) :=
  OpenClaim.holds_of_wide 9 Tryd.f9 rfl rfl rfl rfl rfl rfl rfl ⟨rfl, rfl, rfl, rfl, rfl⟩ rfl rfl rfl rfl rfl (by kernel_rfl) Tryd.func9 (by kernel_rfl)
    (of_decide_eq_true (by kernel_rfl)) (by unfold Func.isWrapper; first | (rw [if_pos (by decide +kernel)]; kernel_rfl) | (rw [if_neg (by decide +kernel)]; exact ⟨rfl, rfl⟩))
    (fun os started H enc _ => lifted os started H enc)
theorem proved : Rows.FnExactScrollChangesCardSaid :=
  Claim7.holds_tied_plain_at .later [] [.data, .pinned] true (true, "fb8d71a8706e55f38baab5e1f11e98de0294b5320b6c76a5bd346ab6660456d9") false
    over (fun _ h => by cases h) (by kernel_rfl) (fun _ h => by cases h) fnExactScrollChanges_row_tie rfl ⟨rfl, rfl⟩ (by kernel_rfl) rfl
    (fun f fn hf hfn => by
      obtain rfl : f = 9 := Option.some.inj ((show Tryd.prog.funcNamed "loop.example/g01265/laws.FnExactScrollChanges" = some 9 by kernel_rfl).symm.trans hf) |>.symm
      obtain rfl : fn = Tryd.f9 := (Option.some.inj (Tryd.func9.symm.trans hfn)).symm
      exact ⟨by kernel_rfl, fun j t ht => by
        rw [Tryd.params9] at ht
        have hm : t ∈ [9, 3] := by simpa using Array.mem_of_getElem? ht
        have hall : ([9, 3].all fun u => !(Tryd.prog).wantsStandIn u) = true := by kernel_rfl
        exact (show (Tryd.prog).wantsStandIn t = false by simpa using List.all_eq_true.1 hall t hm)⟩)
    (by kernel_rfl)
end Go.Proofs.YtjlhghbikmipgaaDoor.fnExactScrollChanges
