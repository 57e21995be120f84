/- For every number and list, LightableBars of the program and of the reference agree, and the list is left alone. No conditions. -/
import Derived.Test.YtincekchaolebaaLight
import Derived.Test.YtincekchaolebaaToS
import Derived.Test.YtincekchaolebaaEqS
namespace Go.Proofs.Ytincekchaolebaa
open Go.RowKit

/-- The letters of the bars that can be lit. -/
def lightS (c : Int) (L : List Int) (n : Nat) : ByteArray := if playB c L n = true then lettersP (nextB L c.toNat) 7 else ⟨#[]⟩
set_option maxHeartbeats 400000 in
theorem LightableBarsS_any (c : Int) (ao : Option Addr) (n cap : Nat) (L : List Int) (w : World) (hr : RdI w ao L) (hn : L.length = n) (hm : n ≤ maxLen) (hcap : n ≤ cap) :
    Calls Try.prog 21 #[.int .i64 c, .slice ao n cap] w fun e w' => e = .returned (.tuple #[.string (lightS c L n), .bool (playB c L n)]) ∧ Below w.heap.size w w' := by
  unfold lightS
  generalize hp : playB c L n = p
  have HP := Lib.hid hp
  have hon := fun h => playB_on (L := L) (n := n) (c := c) (hp.trans h)
  clear hp
  rcases p with _ | _
  · go_enter Try.func21, Try.ntmps21
    go_wp2_with (first | (go_at_call 51; refine (l11Good_any _ _ _ _ L _ hr hn hm hcap).mono ?_; rw [HP.out]; rintro e w1 ⟨rfl, hb1⟩))
    go_ret2
    exact ⟨rfl, hb1⟩
  · obtain ⟨hD, hc⟩ := hon rfl
    rw [inB_iff] at hc
    obtain ⟨C, rfl⟩ := Int.eq_ofNat_of_zero_le hc.1
    have hC : C < 128 := by omega
    rw [if_pos rfl, Int.toNat_natCast]
    have HD := Lib.hid hD
    have HN := Lib.hid hn
    clear hD hc hon hn
    go_enter Try.func21, Try.ntmps21
    go_wp2_with (first | (go_at_call 51; refine (l11Good_any _ _ _ _ L _ hr HN.out hm hcap).mono ?_; rw [HP.out]; rintro e w1 ⟨rfl, hb1⟩))
    go_loopw [6, 7] (fun s i wr => ∃ k : Nat, k ≤ 7 ∧ i = .int .i64 k ∧ s = .string (lettersP (nextB L C) k) ∧ Below w.heap.size w wr) (fun _ i _ => 7 - (intOf i).toNat)
    case atStart => exact ⟨0, by omega, rfl, rfl, hb1⟩
    case round =>
      obtain ⟨k, hle, rfl, rfl, hbw⟩ := hrel
      by_cases hlt : k < 7
      · have hsz := lettersP_size (nextB L C) k
        have hsucc : lettersP (nextB L C) (k + 1) = if nextB L C k = true then lettersP (nextB L C) k ++ (⟨#[97, 98, 99, 100, 101, 102, 103]⟩ : ByteArray).extract k (k + 1) else lettersP (nextB L C) k := rfl
        generalize lettersP (nextB L C) k = S at hsz hsucc ⊢
        generalize hq : nextB L C k = q at hsucc
        have HQ := Lib.hid hq
        clear hq
        have HS := Lib.hid hsucc
        clear hsucc
        rcases q with _ | _
        all_goals
          go_wp2_with (first | (go_at_call 52; refine (l11Next_any C k hC hlt _ _ _ L _ (RdI_below hr hbw) HN.out hm HD.out).mono ?_; rw [HQ.out]; rintro e w2 ⟨rfl, hb2⟩))
          go_roundw
          case rel => exact ⟨k + 1, by omega, by go_num, by rw [HS.out]; rfl, belowThen hbw hb2⟩
          case measure => simp [intOf]; omega
      · have hk : k = 7 := by omega
        subst hk
        go_wp2
        go_ret2
        exact ⟨rfl, hbw⟩
theorem LightableBarsI_any (c : Int) (ao : Option Addr) (n cap : Nat) (L : List Int) (w : World) (hr : RdI w ao L) (hn : L.length = n) (hm : n ≤ maxLen) (hcap : n ≤ cap) :
    Calls Try.prog 22 #[.int .i64 c, .slice ao n cap] w fun e w' => e = .returned (.tuple #[.string (lightS c L n), .bool (playB c L n)]) ∧ Below w.heap.size w w' := by
  unfold lightS
  generalize hp : playB c L n = p
  have HP := Lib.hid hp
  have hon := fun h => playB_on (L := L) (n := n) (c := c) (hp.trans h)
  clear hp
  rcases p with _ | _
  · go_enter Try.func22, Try.ntmps22
    go_wp2_with (first | (go_at_call 53; refine (isPlayable_any _ _ _ _ L _ hr hn hm hcap).mono ?_; rw [HP.out]; rintro e w1 ⟨rfl, hb1⟩))
    go_ret2
    exact ⟨rfl, hb1⟩
  · obtain ⟨hD, hc⟩ := hon rfl
    rw [inB_iff] at hc
    obtain ⟨C, rfl⟩ := Int.eq_ofNat_of_zero_le hc.1
    have hC : C < 128 := by omega
    rw [if_pos rfl, Int.toNat_natCast]
    have hS : lettersP (fun k => lightM L C / 2 ^ k % 2 == 1) 7 = lettersP (nextB L C) 7 := lettersP_congr _ _ 7 fun i hi => maskP_bit (nextB L C) i hi
    rw [← hS]
    have HD := Lib.hid hD
    have HN := Lib.hid hn
    clear hD hc hon hn hS
    go_enter Try.func22, Try.ntmps22
    go_wp2_with (first | (go_at_call 53; refine (isPlayable_any _ _ _ _ L _ hr HN.out hm hcap).mono ?_; rw [HP.out]; rintro e w1 ⟨rfl, hb1⟩) | (go_at_call 55; refine (lightable_any C hC _ _ _ L _ (RdI_below hr hb1) HN.out hm HD.out).mono ?_; rintro e w2 ⟨rfl, hb2⟩) | (go_at_call 54; refine (barsOf_any _ (lightM_lt L C) _).mono ?_; rintro e w' ⟨rfl, rfl⟩))
    go_ret2
    exact ⟨rfl, belowThen hb1 hb2⟩
set_option maxHeartbeats 400000 in
theorem fnExactLightableBars_walk (c : Int) (hc : -9223372036854775808 ≤ c ∧ c ≤ 9223372036854775807) (a0 : Option Addr) (len0 cap0 : Nat) (z0 : List Int) (w : World) (w0 : RowIn .i64 w a0 len0 cap0 z0) :
    Calls Try.prog 5 #[.int .i64 c, .slice a0 len0 cap0] w fun e w' => e = .returned (.bool true) ∧ Below w.heap.size w w' := by
  obtain ⟨hr, hn, hm⟩ := RdI_row w0
  clear w0
  generalize z0.take len0 = L at hr hn
  have HN := Lib.hid hn
  clear hn
  by_cases hbig : len0 ≤ 1048576
  · have tA : True := trivial
    have tB : True := trivial
    generalize hg : lightS c L len0 = g
    generalize hi : playB c L len0 = i
    have HG := Lib.hid hg
    have HI := Lib.hid hi
    clear hg hi
    have hA1 := @cellAlloc; have hA2 := @frozenAlloc; have hA3 := @setCellAlloc; go_enter Try.func5, Try.ntmps5
    go_wp2_with (first
      | (go_at_call 16; clear tA; refine (toIntS_any _ _ _ L _ hr HN.out hbig).mono ?_; rintro e w1 ⟨g1, rfl, ho1, hb1⟩)
      | (go_at_call 21; refine (LightableBarsS_any _ _ _ _ L _ (RdI_owns ho1) HN.out (by unfold maxLen; omega) (Nat.le_refl _)).mono ?_; rw [HG.out, HI.out]; rintro e w2 ⟨rfl, hb2⟩)
      | (go_at_call 16; clear tB; refine (toIntS_any _ _ _ L _ (RdI_below (RdI_below hr hb1) hb2) HN.out hbig).mono ?_; rintro e w3 ⟨g3, rfl, ho3, hb3⟩)
      | (go_at_call 22; refine (LightableBarsI_any _ _ _ _ L _ (RdI_owns ho3) HN.out (by unfold maxLen; omega) (Nat.le_refl _)).mono ?_; rw [HG.out, HI.out]; rintro e w4 ⟨rfl, hb4⟩)
      | (go_at_call 16; refine (toIntS_any _ _ _ L _ (RdI_below (RdI_below (RdI_below (RdI_below hr hb1) hb2) hb3) hb4) HN.out hbig).mono ?_; rintro e w5 ⟨g5, rfl, ho5, hb5⟩)
      | (go_at_call 18; refine (eqIntS_same _ _ _ _ _ L _ (RdI_below (RdI_below (RdI_owns ho3) hb4) hb5) (RdI_owns ho5) HN.out (by unfold maxLen; omega)).mono ?_; rintro e w6 ⟨rfl, hb6⟩))
    go_ret
    exact ⟨rfl, by (repeat (first | assumption | exact Below.refl _ _ | refine belowThen ?_ (Go.Joins.below_alloc1 _ _) | apply Below.drew | refine belowThen ?_ (by assumption) | refine belowThen ?_ (Go.Joins.below_draws _ _ _) | refine Below.setCell ?_ (by first | exact Nat.le_refl _ | (simp; done) | (simp; omega)) _))⟩
  · have hA1 := @cellAlloc; have hA2 := @frozenAlloc; have hA3 := @setCellAlloc; go_enter Try.func5, Try.ntmps5
    go_wp2
    go_ret
    exact ⟨rfl, Below.refl _ _⟩
end Go.Proofs.Ytincekchaolebaa
namespace Go.Proofs.Ytincekchaolebaa.fnExactLightableBars
open Go.ChangeShapes Go.WideShapes Go.ChangeAt Go.RowKit Go.Joins
open Go.ChangeMaps (open_string shut_string)
set_option linter.unusedVariables false
theorem own : ownKnob Try.prog.godebug = none := by kernel_rfl
theorem laidOut : laidOutB Try.prog = true := by kernel_rfl
set_option maxRecDepth 100000 in
theorem lifted (os : Os) (started : os.Started) (H : Type) (enc : TypeId × Value → H) :
    ReturnsInHanded {} Try.checked os 5 .any (Rows.fnExactLightableBarsSpec.pre6 enc Try.prog Try.f5 Rows.fnExactLightableBarsRow.domain false) (Rows.fnExactLightableBarsSpec.post enc Try.prog Try.f5 false true false false) := by
  refine returnsInHanded_of_change (C := Try.checked) own started (by kernel_rfl) Try.func5
    (ChangeSpec.witness6 (enc := enc) (C := Try.checked) false ⟨#[], #[.int .i64 0, .slice none 0 0], []⟩ 8 (by kernel_rfl) (by kernel_rfl) (by kernel_rfl) (by kernel_rfl)) ?_
  intro W base args ds gs before hval0 hW hcnd _
  have hval : ∀ (j : Nat) t v, Try.f5.params[j]? = some t → args[j]? = some v → Value.okWide Try.prog W .any base t v := hval0
  have hW' := hW
  obtain ⟨p, q, hA0, hV, rfl, hfz, hnd⟩ := hW
  have hA : DataW.TrodAll enc Try.prog W 0 (fun _ => true) true Try.f5.params.toList args.toList ds p := hA0
  rw [Try.params5] at hA hval
  obtain ⟨v0, vs0, d0, ds0, p0, q0, hargs, rfl, rfl, h0, r0⟩ := trodAll_cons hA
  obtain ⟨v1, vs1, d1, ds1, p1, q1, rfl, rfl, rfl, h1, r1⟩ := trodAll_cons r0
  obtain ⟨rfl, rfl, rfl⟩ := trodAll_nil r1
  obtain rfl : args = #[v0, v1] := by cases args; simp_all
  obtain ⟨rfl, rfl⟩ := trodVars_none hV
  have k0 := h0
  have lt0 : ∀ x ∈ p0, x.block < W.heap.size := by obtain ⟨m, hm⟩ := k0; exact DataW.trod_lt m _ _ _ hm
  have k1 := h1
  have lt1 : ∀ x ∈ p1, x.block < W.heap.size := by obtain ⟨m, hm⟩ := k1; exact DataW.trod_lt m _ _ _ hm
  obtain ⟨x0, hv0, w0⟩ : ∃ x : Int, v0 = .int .i64 x ∧ (Lit.int .i64 x).wf = true := by obtain ⟨x, hx, _, _, wx⟩ := open_int Try.underlying3 (hval 0 3 v0 rfl rfl) h0; exact ⟨x, hx, wx⟩
  subst hv0
  obtain ⟨a1, len1, cap1, rfl⟩ := okWide_slice Try.underlying22 (hval 1 22 v1 rfl rfl)
  obtain ⟨z1, w1⟩ : ∃ zs, RowIn .i64 W a1 len1 cap1 zs := by
    obtain ⟨fuel, hf⟩ := h1
    rcases open_ints Try.underlying22 Try.underlying3 (by kernel_rfl) hf with ⟨hcs, _⟩ | ⟨x, l, c, zs, hcs, _, hl, hm, hz, _, hcell, hwz⟩
    · simp [Value.cells] at hcs
      obtain ⟨rfl, rfl, rfl⟩ := hcs
      exact ⟨[], .inl ⟨rfl, rfl, rfl, rfl⟩⟩
    · simp [Value.cells] at hcs
      obtain ⟨rfl, rfl, rfl⟩ := hcs
      exact ⟨zs, .inr ⟨_, rfl, hl, hm, by simpa using hz, hcell, hwz⟩⟩
  clear hA0 hval0
  refine (fnExactLightableBars_walk x0 (by simpa [Lit.wf, IntKind.min, IntKind.max, IntKind.signed, IntKind.bits] using w0) a1 len1 cap1 z1 W w1).mono fun e W' ⟨he, bel⟩ => ?_
  subst he
  exact ⟨_, rfl, _, _, _, [], _, [], hW', trodAll_mk1 (shut_bool Try.underlying4 _), (trodAll_cons_mk (Below.trod laidOut (by kernel_rfl) (of_decide_eq_true (by kernel_rfl)) k0 bel lt0) (trodAll_cons_mk (Below.trod laidOut (by kernel_rfl) (of_decide_eq_true (by kernel_rfl)) k1 bel lt1) trodAll_mk0)), rfl, bel.frame _, fun h => by cases h⟩
theorem over : Rows.fnExactLightableBarsRow.holds Try.pinned (OpenSpec.ofChange Rows.fnExactLightableBarsSpec) :=
  OpenClaim.holds_of_wide 5 Try.f5 rfl rfl rfl rfl rfl rfl rfl ⟨rfl, rfl, rfl, rfl, rfl⟩ rfl rfl rfl rfl rfl (by kernel_rfl) Try.func5 (by kernel_rfl)
    (of_decide_eq_true (by kernel_rfl)) (by unfold Func.isWrapper; first | (rw [if_pos (by decide +kernel)]; kernel_rfl) | (rw [if_neg (by decide +kernel)]; exact ⟨rfl, rfl⟩))
    (fun os started H enc _ => lifted os started H enc)
theorem proved : Rows.FnExactLightableBarsSaid := over
end Go.Proofs.Ytincekchaolebaa.fnExactLightableBars
