/- MeanChanges of the program and of the reference agree. No conditions. -/
import Derived.Test.YtfjgleimdaailaaCount
import Derived.Test.YtfjgleimdaailaaDigit
import Derived.Test.YtfjgleimdaailaaFrac
import Derived.Test.YtfjgleimdaailaaEqA
import Derived.Test.YtfjgleimdaailaaIdx
import Derived.Test.YtfjgleimdaailaaTable
import Derived.Deep.OwnRows
import Derived.Deep.RegionWith
namespace Go.Proofs.Ytfjgleimdaailaa
open Go.RowKit

def rowP (a : Nat) : Nat → Nat
  | 0 => 0
  | k + 1 => rowP a k + chg a k
def allP : Nat → Nat
  | 0 => 0
  | k + 1 => allP k + rowP k 10
theorem rowP_le (a k : Nat) : rowP a k ≤ 7 * k := by
  induction k with
  | zero => exact Nat.le_refl _
  | succ k ih => have := cnt_le (digC a ^^^ digC k); unfold rowP chg; omega
theorem allP_le (k : Nat) : allP k ≤ 70 * k := by
  induction k with
  | zero => exact Nat.le_refl _
  | succ k ih => have := rowP_le k 10; unfold allP; omega
theorem xor_lt (a b : Nat) (ha : a < 128) (hb : b < 128) : a ^^^ b < 128 := Nat.xor_lt_two_pow (n := 7) ha hb
theorem l2Far_any (a b : Nat) (ha : a < 128) (hb : b < 128) (w : World) : Calls Try.prog 68 #[.int .i64 a, .int .i64 b] w
    fun e w' => e = .returned (.int .i64 (cnt (a ^^^ b))) ∧ w = w' := by
  have hx := xor64 a b (by omega) (by omega)
  go_enter Try.func68, Try.ntmps68
  go_wp2_with (go_at_call 79; refine (l2Count_any _ (xor_lt a b ha hb) _).mono ?_; rintro e w' ⟨rfl, rfl⟩)
  go_ret
  exact ⟨rfl, rfl⟩
set_option maxHeartbeats 400000 in
theorem MeanChangesS_any (w : World) : Calls Try.prog 41 #[] w
    fun e w' => e = .returned (.agg #[.int .i64 ((allP 10 / Nat.gcd (allP 10) 100 : Nat) : Int), .int .i64 ((100 / Nat.gcd (allP 10) 100 : Nat) : Int)]) ∧ Below w.heap.size w w' := by
  have hA1 := @cellAlloc; have hA2 := @frozenAlloc; have hA3 := @setCellAlloc; go_enter Try.func41, Try.ntmps41
  go_wp2
  go_loopw [1, 2] (fun s i wr => ∃ a : Nat, a ≤ 10 ∧ i = .int .i64 a ∧ s = .int .i64 (allP a) ∧ Below (w.heap.size + 1) (w.alloc (.cells #[.int .i64 0, .int .i64 0] 59)) wr) (fun _ i _ => 10 - (intOf i).toNat)
  case atStart => exact ⟨0, by omega, rfl, rfl, Below.refl _ _⟩
  case round =>
    obtain ⟨a, ha, rfl, rfl, hbw⟩ := hrel
    have hal := allP_le a
    by_cases hlt : a < 10
    · have hd : decide ((a : Int) < 10) = true := by simp; omega
      go_wp2_with fail
      obtain ⟨wo, hwo⟩ : ∃ wo : World, wo = wr := ⟨_, rfl⟩
      subst hwo
      go_loopw [1, 3] (fun s i wi => ∃ b : Nat, b ≤ 10 ∧ i = .int .i64 b ∧ s = .int .i64 ((allP a + rowP a b : Nat) : Int) ∧ Below wo.heap.size wo wi) (fun _ i _ => 10 - (intOf i).toNat)
      case atStart => exact ⟨0, by omega, rfl, rfl, Below.refl _ _⟩
      case round =>
        obtain ⟨b, hb, rfl, rfl, hbi⟩ := hrel
        have hrl := rowP_le a b
        by_cases hlb : b < 10
        · have hc := cnt_le (digC a ^^^ digC b)
          have tA : True := trivial
          go_wp2_with (first | (go_at_call 69; clear tA; refine (l2Digit_any a hlt _).mono ?_; rintro e w1 ⟨rfl, hb1⟩) | (go_at_call 69; refine (l2Digit_any b hlb _).mono ?_; rintro e w2 ⟨rfl, hb2⟩) | (go_at_call 68; refine (l2Far_any _ _ (digC_lt _) (digC_lt _) _).mono ?_; rintro e w' ⟨rfl, rfl⟩))
          go_roundw
          case rel => exact ⟨b + 1, by omega, by go_num, by simp only [rowP, chg]; go_num, belowThen hbi (belowThen hb1 hb2)⟩
          case measure => simp [intOf]; omega
        · have hb10 : b = 10 := by omega
          subst hb10
          go_wp2
          go_roundw
          case rel => exact ⟨a + 1, by omega, by go_num, rfl, hbw.trans (hbi.mono (by have := hbw.size; simp at this; omega))⟩
          case measure => simp [intOf]; omega
    · have ha10 : a = 10 := by omega
      subst ha10
      have hs9 := hbw.size
      simp only [heapAlloc] at hs9
      have hB : Below (w.alloc (.cells #[.int .i64 0, .int .i64 0] 59)).heap.size (w.alloc (.cells #[.int .i64 0, .int .i64 0] 59)) wr := by simpa using hbw
      have hc9 := cellRule hB
      have hf9 := frozenRule hB
      go_wp2_with (first | (go_at_call 66; refine (l9Cut_any (allP 10) 100 (by omega) (by omega) (by omega) _).mono ?_; rintro e w3 ⟨rfl, hb3⟩; have hs3 := hb3.size; (try simp only [heapAlloc, heapSet] at hs3); have hc3 := cellRule hb3; have hf3 := frozenRule hb3))
      exact bodyPost_ret (v := .agg #[.int .i64 ((allP 10 / Nat.gcd (allP 10) 100 : Nat) : Int), .int .i64 ((100 / Nat.gcd (allP 10) 100 : Nat) : Int)]) (by simp [results, Try.results41, go_sem, ↓IntWalk.iteOmega, *]) rfl ⟨rfl, by (repeat (first | assumption | exact Below.refl _ _ | refine belowThen ?_ (Go.Joins.below_alloc1 _ _) | apply Below.drew | refine belowThen ?_ (by assumption) | refine belowThen ?_ (Go.Joins.below_draws _ _ _) | refine Below.setCell ?_ (by first | exact Nat.le_refl _ | (simp; done) | (simp; omega)) _))⟩

theorem tab_row (i k : Nat) (hk : k < 10) : tab (i * 10 + k) = chg i k := by
  have e1 : (i * 10 + k) / 10 = i := by omega
  have e2 : (i * 10 + k) % 10 = k := by omega
  simp only [tab, e1, e2]
set_option maxHeartbeats 800000 in
theorem MeanChangesI_any (w : World) : Calls Try.prog 42 #[] w
    fun e w' => e = .returned (.agg #[.int .i64 ((allP 10 / Nat.gcd (allP 10) 100 : Nat) : Int), .int .i64 ((100 / Nat.gcd (allP 10) 100 : Nat) : Int)]) ∧ Below w.heap.size w w' := by
  have hA1 := @cellAlloc; have hA2 := @frozenAlloc; have hA3 := @setCellAlloc; go_enter Try.func42, Try.ntmps42
  go_wp2_with (first | (go_at_call 70; refine (ChangeTable_any _).mono ?_; rintro e w1 ⟨rfl, hb1⟩))
  have hB1 : Below (w.heap.size + 1) (w.alloc (.cells #[.int .i64 0, .int .i64 0] 59)) w1 := by simpa using hb1
  clear hb1
  go_loopw [1, 7] (fun s i wr => ∃ a : Nat, a ≤ 10 ∧ i = .int .i64 a ∧ s = .int .i64 (allP a) ∧ Below (w.heap.size + 1) (w.alloc (.cells #[.int .i64 0, .int .i64 0] 59)) wr) (fun _ i _ => 10 - (intOf i).toNat)
  case atStart => exact ⟨0, by omega, rfl, rfl, hB1⟩
  case round =>
    clear hB1
    obtain ⟨a, ha, rfl, rfl, hbw⟩ := hrel
    have hal := allP_le a
    by_cases hlt : a < 10
    · have hd : decide ((a : Int) < 10) = true := by simp; omega
      have hix := idxRow10 tabA a hlt
      have hCs : (tabA.extract (a * 10) (a * 10 + 10)).size = 10 := by rw [Array.size_extract, tabA_size]; omega
      have hCi : ∀ k, k < 10 → (tabA.extract (a * 10) (a * 10 + 10))[k]? = some (.int .i64 (chg a k : Int)) := by
        intro k hk
        rw [Array.getElem?_extract, if_pos (by rw [tabA_size]; omega), tabA_get _ (by omega), tab_row a k hk]
      generalize tabA.extract (a * 10) (a * 10 + 10) = C at hix hCs hCi
      have h1c : C.all (·.oneCell') = true := by
        rw [Array.all_eq_true]
        intro k hk
        have := hCi k (by omega)
        rw [Array.getElem?_eq_getElem hk] at this
        rw [Option.some.inj this]
        rfl
      have HS := Lib.hid hCs
      have HI := Lib.hid hCi
      have H1 := Lib.hid h1c
      clear hCs hCi h1c
      go_wp2_with (first | (refine wpList_store_row (by rfl) 85 _ _ (by rfl) wr.heap.size C (by rfl) (by rfl) 85 _ (heap_alloc_new _ _) (by rw [HS.out]; kernel_rfl) (by rw [HS.out]; rfl) H1.out ?_; rw [World.setRow_alloc_new]) | (refine wpList_load_row (by rfl) 85 _ (by rfl) wr.heap.size (by rfl) 85 _ (0, 0) _ (heap_alloc_new _ _) Try.underlying85 (by rfl) (by rw [HS.out]; kernel_rfl) ?_))
      obtain ⟨wo, hwo⟩ : ∃ wo : World, wo = wr := ⟨_, rfl⟩
      subst hwo
      go_loop [1, 11] (fun s i => ∃ b : Nat, b ≤ 10 ∧ i = .int .i64 b ∧ s = .int .i64 ((allP a + rowP a b : Nat) : Int)) (fun _ i => 10 - (intOf i).toNat)
      case atStart => exact ⟨0, by omega, rfl, rfl⟩
      case round =>
        obtain ⟨b, hb, rfl, rfl⟩ := hrel
        have hrl := rowP_le a b
        by_cases hlb : b < 10
        · have hc : chg a b ≤ 7 := cnt_le _
          have hib := idxInt10 C b hlb _ (HI.out b hlb)
          go_wp2
          go_round
          case rel => exact ⟨b + 1, by omega, by go_num, by simp only [rowP]; go_num⟩
          case measure => simp [intOf]; omega
        · have hb10 : b = 10 := by omega
          subst hb10
          go_wp2
          go_roundw
          case rel => exact ⟨a + 1, by omega, by go_num, rfl, hbw.alloc (by have := hbw.size; simp at this; omega) _⟩
          case measure => simp [intOf]; omega
    · have ha10 : a = 10 := by omega
      subst ha10
      have hs9 := hbw.size
      simp only [heapAlloc] at hs9
      have hB : Below (w.alloc (.cells #[.int .i64 0, .int .i64 0] 59)).heap.size (w.alloc (.cells #[.int .i64 0, .int .i64 0] 59)) wr := by simpa using hbw
      have hc9 := cellRule hB
      have hf9 := frozenRule hB
      go_wp2_with (first | (go_at_call 67; refine (fraction_any (allP 10) 100 (by omega) (by omega) (by omega) _).mono ?_; rintro e w3 ⟨rfl, hb3⟩; have hs3 := hb3.size; (try simp only [heapAlloc, heapSet] at hs3); have hc3 := cellRule hb3; have hf3 := frozenRule hb3))
      exact bodyPost_ret (v := .agg #[.int .i64 ((allP 10 / Nat.gcd (allP 10) 100 : Nat) : Int), .int .i64 ((100 / Nat.gcd (allP 10) 100 : Nat) : Int)]) (by simp [results, Try.results42, go_sem, ↓IntWalk.iteOmega, *]) rfl ⟨rfl, by (repeat (first | assumption | exact Below.refl _ _ | refine belowThen ?_ (Go.Joins.below_alloc1 _ _) | apply Below.drew | refine belowThen ?_ (by assumption) | refine belowThen ?_ (Go.Joins.below_draws _ _ _) | refine Below.setCell ?_ (by first | exact Nat.le_refl _ | (simp; done) | (simp; omega)) _))⟩
theorem fnExactMeanChanges_walk (w : World) : Calls Try.prog 12 #[] w fun e w' => e = .returned (.bool true) ∧ Below w.heap.size w w' := by
  have hA1 := @cellAlloc; have hA2 := @frozenAlloc; have hA3 := @setCellAlloc; go_enter Try.func12, Try.ntmps12
  go_wp2_with (first | (go_at_call 41; refine (MeanChangesS_any _).mono ?_; rintro e w2 ⟨rfl, hb2⟩; have hs2 := hb2.size; (try simp only [heapAlloc, heapSet] at hs2); have hc2 := cellRule hb2; have hf2 := frozenRule hb2) | (go_at_call 42; refine (MeanChangesI_any _).mono ?_; rintro e w3 ⟨rfl, hb3⟩; have hs3 := hb3.size; (try simp only [heapAlloc, heapSet] at hs3); have hc3 := cellRule hb3; have hf3 := frozenRule hb3) | (go_at_call 40; refine (eqIntA2_same _ _ _).mono ?_; rintro e w4 ⟨rfl, hb4⟩; have hs4 := hb4.size; (try simp only [heapAlloc, heapSet] at hs4); have hc4 := cellRule hb4; have hf4 := frozenRule hb4))
  go_ret
  exact ⟨rfl, by (repeat (first | assumption | exact Below.refl _ _ | refine belowThen ?_ (Go.Joins.below_alloc1 _ _) | apply Below.drew | refine belowThen ?_ (by assumption) | refine belowThen ?_ (Go.Joins.below_draws _ _ _) | refine Below.setCell ?_ (by first | exact Nat.le_refl _ | (simp; done) | (simp; omega)) _))⟩
end Go.Proofs.Ytfjgleimdaailaa
namespace Go.Proofs.Ytfjgleimdaailaa.fnExactMeanChanges
open Go.ChangeShapes Go.WideShapes Go.ChangeAt Go.RowKit Go.Joins
open Go.ChangeMaps (open_string shut_string)
set_option linter.unusedVariables false
theorem own : ownKnob Try.prog.godebug = none := by kernel_rfl
theorem laidOut : laidOutB Try.prog = true := by kernel_rfl
set_option maxRecDepth 100000 in
theorem lifted (os : Os) (started : os.Started) (H : Type) (enc : TypeId × Value → H) :
    ReturnsInHanded {} Try.checked os 12 .any (Rows.fnExactMeanChangesSpec.pre6 enc Try.prog Try.f12 Rows.fnExactMeanChangesRow.domain false) (Rows.fnExactMeanChangesSpec.post enc Try.prog Try.f12 false true false false) := by
  refine returnsInHanded_of_change (C := Try.checked) own started (by kernel_rfl) Try.func12
    (ChangeSpec.witness6 (enc := enc) (C := Try.checked) false ⟨#[], #[], []⟩ 8 (by kernel_rfl) (by kernel_rfl) (by kernel_rfl) (by kernel_rfl)) ?_
  intro W base args ds gs before hval0 hW hcnd _
  have hval : ∀ (j : Nat) t v, Try.f12.params[j]? = some t → args[j]? = some v → Value.okWide Try.prog W .any base t v := hval0
  have hW' := hW
  obtain ⟨p, q, hA0, hV, rfl, hfz, hnd⟩ := hW
  have hA : DataW.TrodAll enc Try.prog W 0 (fun _ => true) true Try.f12.params.toList args.toList ds p := hA0
  obtain ⟨hargs, rfl, rfl⟩ := trodAll_none hA
  obtain rfl : args = #[] := by cases args; simp_all
  obtain ⟨rfl, rfl⟩ := trodVars_none hV
  clear hA0 hval0
  refine (fnExactMeanChanges_walk W).mono fun e W' ⟨he, bel⟩ => ?_
  subst he
  exact ⟨_, rfl, _, _, _, [], _, [], hW', trodAll_mk1 (shut_bool Try.underlying4 _), trodAll_mk0, rfl, bel.frame _, fun h => by cases h⟩
theorem over : Rows.fnExactMeanChangesRow.holds Try.pinned (OpenSpec.ofChange Rows.fnExactMeanChangesSpec) :=
  OpenClaim.holds_of_wide 12 Try.f12 rfl rfl rfl rfl rfl rfl rfl ⟨rfl, rfl, rfl, rfl, rfl⟩ rfl rfl rfl rfl rfl (by kernel_rfl) Try.func12 (by kernel_rfl)
    (of_decide_eq_true (by kernel_rfl)) (by unfold Func.isWrapper; first | (rw [if_pos (by decide +kernel)]; kernel_rfl) | (rw [if_neg (by decide +kernel)]; exact ⟨rfl, rfl⟩))
    (fun os started H enc _ => lifted os started H enc)
theorem proved : Rows.FnExactMeanChangesSaid := over
end Go.Proofs.Ytfjgleimdaailaa.fnExactMeanChanges
