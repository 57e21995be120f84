/- The contract of the program's ScrollChanges. -/
import Derived.Test.YtjlhghbikmipgaaDoorScrC
import Derived.Deep.AppendLies
namespace Go.Proofs.YtjlhghbikmipgaaDoor
open Go.RowKit

theorem madeOwn (K : Nat) (hK : K ≤ 1000) (W : World) (B : Nat) (hB : B ≤ W.heap.size) : ownsInts (W.alloc (.cells (madeCells #[.int .i64 0] K) 3)) B (.slice (some ⟨W.heap.size, 0, none⟩) K K) (List.replicate K 0) := by
  have e1 : (madeCells #[Value.int .i64 0] K).toList = (List.replicate K (0 : Int)).map (Value.int .i64) := (toList_madeCells_one _ _).trans (by simp)
  have h := World.ownsRow_lit (base := B) (e := 3) (size := 1) W (madeCells #[Value.int .i64 0] K) K hB (by unfold maxLen; omega) (by rw [← Array.length_toList, e1]; simp)
  rw [e1] at h
  refine .inl ?_
  simpa using h
theorem RdI_low {w w' : World} {b B : Nat} {L : List Int} (h : RdI w (some ⟨b, 0, none⟩) L) (hlt : b < B) (hb : Below B w w') : RdI w' (some ⟨b, 0, none⟩) L := by
  rcases h with h | ⟨b2, o2, he, hb2, hc⟩
  · exact .inl h
  · simp only [Option.some.injEq, Addr.mk.injEq] at he
    obtain ⟨rfl, rfl, -⟩ := he
    exact .inr ⟨b, 0, rfl, Nat.lt_of_lt_of_le hb2 hb.size, fun j hj => (World.cell?_of_block (w := w) (hb.block _ hlt)).trans (hc j hj)⟩
set_option maxHeartbeats 2000000 in
set_option maxRecDepth 100000 in
theorem ScrollChangesI_any (s : ByteArray) (K M : Nat) (R : Nat → List Int) (h1K : 1 ≤ K) (hK6 : K ≤ 6) (w : World)
   (HScr : Hid (∀ W, Calls Tryd.prog 45 #[.string s, .int .i64 K] W fun e w' => ∃ ao cap gs, e = .returned (.slice ao M cap) ∧ scr w' W.heap.size (.slice ao M cap) M K gs R ∧ (M = 0 → Value.slice ao M cap = .slice none 0 0) ∧ Below W.heap.size W w')) (HW : Hid (∀ W, Calls Tryd.prog 44 #[.string s, .int .i64 K] W fun e w' => e = .returned (.bool true) ∧ Below W.heap.size W w')) (hM17 : M ≤ 17) (hR : ∀ i, (R i).length = K ∧ ∀ x ∈ R i, inB 0 127 x = true) :
    Calls Tryd.prog 29 #[.string s, .int .i64 K] w fun e w' => e = .returned (.tuple #[.int .i64 (sumZ (rowsZ R M K) K (M + 1)), .bool true]) ∧ Below w.heap.size w w' := by
  have hmk := madeRow K (by omega)
  have RdI_zeros := fun (W : World) => RdI_made K W
  have HOwn := Lib.hid (fun W B hB => madeOwn K (by omega) W B hB)
  have hzm : ∀ x ∈ List.replicate K (0 : Int), inB 0 127 x = true := fun x hx => by rw [List.mem_replicate] at hx; rw [hx.2]; rfl
  have Hin : Hid (∀ j, j ≤ M → ∀ x ∈ rowsZ R M K j, inB 0 127 x = true) := Lib.hid fun j hj => by unfold rowsZ; split; exact (hR j).2; exact hzm
  have Hpl : Hid (∀ j, j ≤ M + 1 → (prevZ (rowsZ R M K) K j).length = K) := Lib.hid fun j hj => by
    cases j with
    | zero => simp [prevZ]
    | succ j => show (rowsZ R M K j).length = K; unfold rowsZ; split; exact (hR j).1; simp
  have Hpi : Hid (∀ j, j ≤ M + 1 → ∀ x ∈ prevZ (rowsZ R M K) K j, inB 0 127 x = true) := Lib.hid fun j hj => by
    cases j with
    | zero => exact hzm
    | succ j => show ∀ x ∈ rowsZ R M K j, inB 0 127 x = true; unfold rowsZ; split; exact (hR j).2; exact hzm
  clear hzm
  generalize madeCells #[Value.int .i64 0] K = Mk at hmk RdI_zeros HOwn
  have hA1 := @cellAlloc; have hA2 := @frozenAlloc; have hA3 := @setCellAlloc; go_enter Tryd.func29, Tryd.ntmps29
  go_wp2_with (first | (go_at_call 44; refine (HW.out _).mono ?_; rintro e w1 ⟨rfl, hb1⟩))
  go_region
  go_wp2_with fail
  have h2 : ownsInts ((w1.alloc (.cells Mk 3)).alloc (.cells Mk 3)) (w1.heap.size + 1) (.slice (some ⟨w1.heap.size + 1, 0, none⟩) K K) (List.replicate K 0) := by
    have := HOwn.out (w1.alloc (.cells Mk 3)) (w1.heap.size + 1) (by simp)
    simpa using this
  go_region_law (first
    | (go_simp; go_at_call 45; with_reducible refine (HScr.out (((w1.alloc (.cells Mk 3)).alloc (.cells Mk 3)).alloc (.cells #[.slice (some ⟨w1.heap.size + 1, 0, none⟩) K K] 25)).drew.drew).mono ?_; rintro e w4 ⟨ao, cap, gs, rfl, hsc, hnil, hb4⟩
       have hz7 := RdI_below (RdI_below (RdI_zeros w1) (by (repeat (first | assumption | exact Below.refl _ _ | refine belowThen ?_ (Go.Joins.below_alloc1 _ _) | apply Below.drew | refine belowThen ?_ (by assumption) | refine belowThen ?_ (Go.Joins.below_draws _ _ _) | refine Below.setCell ?_ (by first | exact Nat.le_refl _ | (simp; done) | (simp; omega)) _)))) hb4
       have hs4 : w1.heap.size + 1 ≤ w4.heap.size := by have := hb4.size; simp at this; omega
       replace hsc := scr_below (C := w1.heap.size + 1) hsc (Below.refl _ _) (by simp <;> omega)
       have hc3 := (hb4.cell (p := ⟨w1.heap.size + 1 + 1, 0, none⟩) (by simp)).trans (show _ = some (Value.slice (some ⟨w1.heap.size + 1, 0, none⟩) K K) by go_simp)
       have hr3 := ownsInts_below (ownsInts_below h2 (by (repeat (first | assumption | exact Below.refl _ _ | refine belowThen ?_ (Go.Joins.below_alloc1 _ _) | apply Below.drew | refine belowThen ?_ (by assumption) | refine belowThen ?_ (Go.Joins.below_draws _ _ _) | refine Below.setCell ?_ (by first | exact Nat.le_refl _ | (simp; done) | (simp; omega)) _))) (Nat.le_refl _)) hb4 (Nat.le_refl _))
    | (go_simp; go_at_call 45; with_reducible refine (HScr.out ((w1.alloc (.cells Mk 3)).alloc (.cells Mk 3)).drew.drew).mono ?_; rintro e w4 ⟨ao, cap, gs, rfl, hsc, hnil, hb4⟩
       have hz7 := RdI_below (RdI_below (RdI_zeros w1) (by (repeat (first | assumption | exact Below.refl _ _ | refine belowThen ?_ (Go.Joins.below_alloc1 _ _) | apply Below.drew | refine belowThen ?_ (by assumption) | refine belowThen ?_ (Go.Joins.below_draws _ _ _) | refine Below.setCell ?_ (by first | exact Nat.le_refl _ | (simp; done) | (simp; omega)) _)))) hb4
       have hs4 : w1.heap.size + 1 ≤ w4.heap.size := by have := hb4.size; simp at this; omega
       replace hsc := scr_below (C := w1.heap.size + 1) hsc (Below.refl _ _) (by simp <;> omega)
       have hr2 := ownsInts_below (ownsInts_below h2 (by (repeat (first | assumption | exact Below.refl _ _ | refine belowThen ?_ (Go.Joins.below_alloc1 _ _) | apply Below.drew | refine belowThen ?_ (by assumption) | refine belowThen ?_ (Go.Joins.below_draws _ _ _) | refine Below.setCell ?_ (by first | exact Nat.le_refl _ | (simp; done) | (simp; omega)) _))) (Nat.le_refl _)) hb4 (Nat.le_refl _))
    | (go_simp; go_at_call 45; refine (HScr.out _).mono ?_; rintro e w4 ⟨ao, cap, gs, rfl, hsc, hnil, hb4⟩
       have hz7 := RdI_below (RdI_below (RdI_zeros w1) (by (repeat (first | assumption | exact Below.refl _ _ | refine belowThen ?_ (Go.Joins.below_alloc1 _ _) | apply Below.drew | refine belowThen ?_ (by assumption) | refine belowThen ?_ (Go.Joins.below_draws _ _ _) | refine Below.setCell ?_ (by first | exact Nat.le_refl _ | (simp; done) | (simp; omega)) _)))) hb4
       have hs4 : w1.heap.size + 1 ≤ w4.heap.size := by have := hb4.size; simp at this; omega
       replace hsc := scr_below (C := w1.heap.size + 1) hsc (Below.refl _ _) (by simp <;> omega))
    | (refine stepAppendRd (by rfl) _ _ (by rfl) (w1.heap.size + 1) _ M K gs R (by rfl) ⟨w4.heap.size + 1, 0, none⟩ (by rfl) (scr_below hsc (by (repeat (first | assumption | exact Below.refl _ _ | refine belowThen ?_ (Go.Joins.below_alloc1 _ _) | apply Below.drew | refine belowThen ?_ (by assumption) | refine belowThen ?_ (Go.Joins.below_draws _ _ _) | refine Below.setCell ?_ (by first | exact Nat.le_refl _ | (simp; done) | (simp; omega)) _))) (Nat.le_refl _)) hnil w4.heap.size (List.replicate K 0) (ownsInts_below (HOwn.out w4 _ hs4) (by (repeat (first | assumption | exact Below.refl _ _ | refine belowThen ?_ (Go.Joins.below_alloc1 _ _) | apply Below.drew | refine belowThen ?_ (by assumption) | refine belowThen ?_ (Go.Joins.below_draws _ _ _) | refine Below.setCell ?_ (by first | exact Nat.le_refl _ | (simp; done) | (simp; omega)) _))) (Nat.le_refl _)) (by simp) (by rw [Addr.add_lit]; go_simp) (by omega) (by simp; omega) ?_
       intro G cap2 w5 hrd5 hb5
       replace hb5 := (Go.Joins.below_alloc2 w4 (.cells Mk 3) _ |>.mono hs4).trans hb5)
    | (refine stepAppendRd (by rfl) _ _ (by rfl) (w1.heap.size + 1) _ M K gs R (by rfl) ⟨w4.heap.size, 0, none⟩ (by rfl) (scr_below hsc (by (repeat (first | assumption | exact Below.refl _ _ | refine belowThen ?_ (Go.Joins.below_alloc1 _ _) | apply Below.drew | refine belowThen ?_ (by assumption) | refine belowThen ?_ (Go.Joins.below_draws _ _ _) | refine Below.setCell ?_ (by first | exact Nat.le_refl _ | (simp; done) | (simp; omega)) _))) (Nat.le_refl _)) hnil (w1.heap.size + 1) (List.replicate K 0) (ownsInts_below hr2 (by (repeat (first | assumption | exact Below.refl _ _ | refine belowThen ?_ (Go.Joins.below_alloc1 _ _) | apply Below.drew | refine belowThen ?_ (by assumption) | refine belowThen ?_ (Go.Joins.below_draws _ _ _) | refine Below.setCell ?_ (by first | exact Nat.le_refl _ | (simp; done) | (simp; omega)) _))) (Nat.le_refl _)) (by simp) (by rw [Addr.add_lit]; go_simp) (by omega) (by simp; omega) ?_
       intro G cap2 w5 hrd5 hb5
       replace hb5 := (Go.Joins.below_alloc1 w4 _ |>.mono hs4).trans hb5)
    | (refine stepAppendRd (by rfl) _ _ (by rfl) (w1.heap.size + 1) _ M K gs R (by rfl) ⟨w1.heap.size + 1 + 1, 0, none⟩ (by rfl) hsc hnil (w1.heap.size + 1) (List.replicate K 0) hr3 (by simp) (by rw [Addr.add_lit]; exact hc3) (by omega) hs4 ?_
       intro G cap2 w5 hrd5 hb5)
    | (trace_state; fail))
  all_goals
    have hz5 := RdI_low hz7 (Nat.lt_succ_self _) hb5
    have hbw4 : Below w.heap.size w w4 := belowThen (by (repeat (first | assumption | exact Below.refl _ _ | refine belowThen ?_ (Go.Joins.below_alloc1 _ _) | apply Below.drew | refine belowThen ?_ (by assumption) | refine belowThen ?_ (Go.Joins.below_draws _ _ _) | refine Below.setCell ?_ (by first | exact Nat.le_refl _ | (simp; done) | (simp; omega)) _))) hb4
    have hbw5 : Below w.heap.size w w5 := hbw4.trans (hb5.mono (by have := hb1.size; omega))
    have hrd : RdSS w5 G (M + 1) K _ (rowsZ R M K) := hrd5
    clear hrd5 hz7 hsc hnil hb4 hb5 hs4 hbw4 h2
    generalize hR' : rowsZ R M K = R' at *
    have HR' := Lib.hid hR'
    clear hR'
    generalize (fun i => if i < M then gs i else _) = gs' at hrd
    simp only [List.getElem_toArray, List.getElem_cons_succ, List.getElem_cons_zero, Act.put, List.setIfInBounds_toArray, List.set_cons_succ, List.set_cons_zero]
    go_wp2
    go_loop [6, 7, 24] (fun sm lv i => ∃ (j : Nat) (lo : Option Addr), j ≤ M + 1 ∧ i = .int .i64 j ∧ sm = .int .i64 ((sumZ R' K j : Nat) : Int) ∧ lv = .slice lo K K ∧ RdI w5 lo (prevZ R' K j)) (fun _ _ i => M + 1 - (intOf i).toNat)
    case atStart => exact ⟨0, _, by omega, rfl, rfl, rfl, hz5⟩
    case round =>
      obtain ⟨j, lo, hj, rfl, rfl, rfl, hlo⟩ := hrel
      have hsum := sumZ_le R' K j
      have hsl : 7 * K * j ≤ 7 * 6 * 18 := Nat.mul_le_mul (by omega) (by omega)
      have hpl := Hpl.out j hj
      have hpi := Hpi.out j hj
      clear hz5
      by_cases hlt : j < M + 1
      · obtain ⟨hx, hrd2, hl⟩ := hrd.2 j hlt
        have HC := Lib.hid (changes_any lo (some ⟨gs' j, 0, none⟩) K K K K (prevZ R' K j) (R' j) w5 hlo hrd2 hpl hl (Nat.le_refl _) (by omega) hpi (Hin.out j (by omega)))
        have hsuc : sumZ R' K (j + 1) = sumZ R' K j + chP (prevZ R' K j) (R' j) K := rfl
        have hcl := chP_le (prevZ R' K j) (R' j) K
        generalize chP (prevZ R' K j) (R' j) K = y at HC hsuc hcl
        generalize sumZ R' K j = S at hsum hsuc ⊢
        have HS := Lib.hid hsuc
        clear hsuc hpl hpi hlo hl hrd
        have hji : (j : Int) < (M : Int) + 1 := by omega
        go_wp2_with (first | (go_at_call 40; refine HC.out.mono ?_; rintro e w' ⟨rfl, rfl⟩))
        go_round
        case rel => exact ⟨j + 1, some ⟨gs' j, 0, none⟩, by omega, by go_num, by rw [HS.out]; go_num, rfl, hrd2⟩
        case measure => simp [intOf]; omega
      · have hjn : j = M + 1 := by omega
        subst hjn
        generalize hSM : sumZ R' K (M + 1) = S at hsum ⊢
        have HSM := Lib.hid hSM
        clear hSM hpl hpi hlo
        go_wp2
        go_ret2
        exact ⟨by rw [HR'.out, HSM.out]; simp, hbw5⟩
end Go.Proofs.YtjlhghbikmipgaaDoor
