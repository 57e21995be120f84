/- Contracts of ScrollChanges of the program and of the reference. -/
import Derived.Test.YtjlhghbikmipgaaDoorScrR
import Derived.Test.YtjlhghbikmipgaaDoorWCh
import Derived.Deep.RegionLaw
namespace Go.Proofs.YtjlhghbikmipgaaDoor
open Go.RowKit

/-- What is read of rows of one length, whichever blocks they lie in. -/
def RdSS (w : World) (G m K : Nat) (gs : Nat → Nat) (R : Nat → List Int) : Prop :=
  G < w.heap.size ∧ ∀ i, i < m → w.cell? ⟨G, i, none⟩ = some (.slice (some ⟨gs i, 0, none⟩) K K) ∧ RdI w (some ⟨gs i, 0, none⟩) (R i) ∧ (R i).length = K
theorem RdSS_below {w w' : World} {G m K : Nat} {gs : Nat → Nat} {R : Nat → List Int} (h : RdSS w G m K gs R) (hb : Below w.heap.size w w') : RdSS w' G m K gs R :=
  ⟨Nat.lt_of_lt_of_le h.1 hb.size, fun i hi => by
    obtain ⟨h1, h2, h3⟩ := h.2 i hi
    exact ⟨(hb.cell (p := ⟨G, i, none⟩) h.1).trans h1, RdI_below h2 hb, h3⟩⟩
/-- The row behind the last one is dark. -/
def rowsZ (R : Nat → List Int) (M K i : Nat) : List Int := if i < M then R i else List.replicate K 0
/-- The row that is shown ahead of row i. -/
def prevZ (R : Nat → List Int) (K : Nat) : Nat → List Int
  | 0 => List.replicate K 0
  | i + 1 => R i
def sumZ (R : Nat → List Int) (K : Nat) : Nat → Nat
  | 0 => 0
  | j + 1 => sumZ R K j + chP (prevZ R K j) (R j) K
theorem sumZ_le (R : Nat → List Int) (K j : Nat) : sumZ R K j ≤ 7 * K * j := by
  induction j with
  | zero => exact Nat.le_refl _
  | succ j ih =>
    have := chP_le (prevZ R K j) (R j) K
    have h2 : 7 * K * (j + 1) = 7 * K * j + 7 * K := Nat.mul_succ _ _
    unfold sumZ
    omega
theorem madeRow (K : Nat) (hK : K ≤ 1000) (w : World) : (Instr.makeSlice 25 (.int .i64 (K : Int)) (.int .i64 (K : Int))).run Tryd.prog w = .ok (.slice (some ⟨w.heap.size, 0, none⟩) K K) (w.alloc (.cells (madeCells #[.int .i64 0] K) 3)) :=
  run_make_row' 25 3 (.int .i64 0) 8 Tryd.underlying25 infoInt rfl .i64 .i64 K (by omega) (by omega) w
theorem RdI_made (K : Nat) (w : World) : RdI (w.alloc (.cells (madeCells #[.int .i64 0] K) 3)) (some ⟨w.heap.size, 0, none⟩) (List.replicate K 0) := by
  refine .inr ⟨w.heap.size, 0, rfl, by simp, fun j hj => ?_⟩
  rw [List.length_replicate] at hj
  have h2 : (madeCells #[Value.int .i64 0] K)[j]? = some (.int .i64 0) := by
    rw [← Array.getElem?_toList, toList_madeCells_one]
    simp [hj]
  rw [Nat.zero_add, World.cell?_alloc_at _ _ _ _ rfl, h2]
  simp [hj]
set_option maxHeartbeats 1000000 in
set_option maxRecDepth 100000 in
theorem ScrollChangesS_any (s : ByteArray) (k : Int) (hs : s.size ≤ maxLen) (K M : Nat) (R : Nat → List Int) (hK : (K : Int) = k) (h1K : 1 ≤ K) (hK6 : K ≤ 6) (w : World)
   (HScr : Hid (∀ W, Calls Tryd.prog 43 #[.string s, .int .i64 K] W (RetScr M K R W))) (HW : Hid (∀ W, Calls Tryd.prog 30 #[.string s, .int .i64 12] W fun e w' => e = .returned (.bool true) ∧ W = w')) (H2 : Hid (inB 1 6 (K : Int) = true)) (hM17 : M ≤ 17) (hR : ∀ i, (R i).length = K ∧ ∀ x ∈ R i, inB 0 127 x = true) :
    Calls Tryd.prog 28 #[.string s, .int .i64 K] w fun e w' => e = .returned (.tuple #[.int .i64 (sumZ (rowsZ R M K) K (M + 1)), .bool true]) ∧ Below w.heap.size w w' := by
  have hmk := madeRow K (by omega)
  have RdI_zeros := fun (K' : Nat) (W : World) => RdI_made K W
  have hcg : ∀ i, i < M → R i = rowsZ R M K i := fun i hi => by unfold rowsZ; rw [if_pos hi]
  have hzm : ∀ x ∈ List.replicate K (0 : Int), inB 0 127 x = true := fun x hx => by rw [List.mem_replicate] at hx; rw [hx.2]; rfl
  have Hin : Hid (∀ j, j ≤ M → ∀ x ∈ rowsZ R M K j, inB 0 127 x = true) := Lib.hid fun j hj => by unfold rowsZ; split; exact (hR j).2; exact hzm
  have Hpl : Hid (∀ j, j ≤ M → (prevZ (rowsZ R M K) K j).length = K) := Lib.hid fun j hj => by
    cases j with
    | zero => simp [prevZ]
    | succ j => show (rowsZ R M K j).length = K; unfold rowsZ; split; exact (hR j).1; simp
  have Hpi : Hid (∀ j, j ≤ M → ∀ x ∈ prevZ (rowsZ R M K) K j, inB 0 127 x = true) := Lib.hid fun j hj => by
    cases j with
    | zero => exact hzm
    | succ j => show ∀ x ∈ rowsZ R M K j, inB 0 127 x = true; unfold rowsZ; split; exact (hR j).2; exact hzm
  have HM : Hid (rowsZ R M K M = List.replicate K 0) := Lib.hid (by unfold rowsZ; rw [if_neg (Nat.lt_irrefl _)])
  generalize madeCells #[Value.int .i64 0] K = Mk at hmk RdI_zeros
  clear hzm
  clear hK
  have hA1 := @cellAlloc; have hA2 := @frozenAlloc; have hA3 := @setCellAlloc; go_enter Tryd.func28, Tryd.ntmps28
  go_wp2_with (first | (go_at_call 30; refine (HW.out _).mono ?_; rintro e w' ⟨rfl, rfl⟩) | (go_at_call 42; refine (l1In_any _ _ _ _).mono ?_; rw [H2.out]; rintro e w' ⟨rfl, rfl⟩))
  go_region_law (go_simp; go_at_call 43; refine (HScr.out _).mono ?_; rintro e w1 ⟨ao, cap, gs, rfl, hsc, hb1⟩)
  · have hz : RdI (w1) (some ⟨w.heap.size, 0, none⟩) (List.replicate K 0) := RdI_below (RdI_below (RdI_zeros K w) (by (repeat (first | assumption | exact Below.refl _ _ | refine belowThen ?_ (Go.Joins.below_alloc1 _ _) | apply Below.drew | refine belowThen ?_ (by assumption) | refine belowThen ?_ (Go.Joins.below_draws _ _ _) | refine Below.setCell ?_ (by first | exact Nat.le_refl _ | (simp; done) | (simp; omega)) _)))) hb1
    have hbW : Below w.heap.size w (w1) := belowThen (by (repeat (first | assumption | exact Below.refl _ _ | refine belowThen ?_ (Go.Joins.below_alloc1 _ _) | apply Below.drew | refine belowThen ?_ (by assumption) | refine belowThen ?_ (Go.Joins.below_draws _ _ _) | refine Below.setCell ?_ (by first | exact Nat.le_refl _ | (simp; done) | (simp; omega)) _))) hb1
    have hscW := scr_below (C := 0) (scr_congr hsc hcg) (Below.refl _ _) (Nat.zero_le _)
    clear hsc
    generalize hR' : rowsZ R M K = R' at *
    have HR' := Lib.hid hR'
    clear hR'
    go_wp2
    clear hb1
    go_loopw [6, 7, 9] (fun sm lv i wr => ∃ (j : Nat) (lo : Option Addr), j ≤ M ∧ i = .int .i64 j ∧ sm = .int .i64 ((sumZ R' K j : Nat) : Int) ∧ lv = .slice lo K K ∧ RdI wr lo (prevZ R' K j) ∧ scr wr 0 (.slice ao M cap) M K gs R' ∧ Below w.heap.size w wr) (fun _ _ i _ => M - (intOf i).toNat)
    case atStart => exact ⟨0, _, by omega, rfl, rfl, rfl, by first | exact hz | exact RdI_below hz (by (repeat (first | assumption | exact Below.refl _ _ | refine belowThen ?_ (Go.Joins.below_alloc1 _ _) | apply Below.drew | refine belowThen ?_ (by assumption) | refine belowThen ?_ (Go.Joins.below_draws _ _ _) | refine Below.setCell ?_ (by first | exact Nat.le_refl _ | (simp; done) | (simp; omega)) _))), by first | exact hscW | exact scr_below hscW (by (repeat (first | assumption | exact Below.refl _ _ | refine belowThen ?_ (Go.Joins.below_alloc1 _ _) | apply Below.drew | refine belowThen ?_ (by assumption) | refine belowThen ?_ (Go.Joins.below_draws _ _ _) | refine Below.setCell ?_ (by first | exact Nat.le_refl _ | (simp; done) | (simp; omega)) _))) (Nat.le_refl _), by first | exact hbW | exact belowThen hbW (by (repeat (first | assumption | exact Below.refl _ _ | refine belowThen ?_ (Go.Joins.below_alloc1 _ _) | apply Below.drew | refine belowThen ?_ (by assumption) | refine belowThen ?_ (Go.Joins.below_draws _ _ _) | refine Below.setCell ?_ (by first | exact Nat.le_refl _ | (simp; done) | (simp; omega)) _)))⟩
    case round =>
      obtain ⟨j, lo, hj, rfl, rfl, rfl, hlo, hsr, hbw⟩ := hrel
      have HO := Lib.hid hsr
      have hsum := sumZ_le R' K j
      have hsl : 7 * K * j ≤ 7 * 6 * 17 := Nat.mul_le_mul (by omega) (by omega)
      have hpl := Hpl.out j hj
      have hpi := Hpi.out j hj
      clear hz hbW hscW
      by_cases hlt : j < M
      · obtain ⟨ao', cap', he, h0 | ⟨g, rfl, hBg, hg, hcells⟩⟩ := scr_read hsr
        · omega
        simp only [Value.slice.injEq] at he
        obtain ⟨rfl, -, -⟩ := he
        obtain ⟨hx, hrd, hl⟩ := hcells j hlt
        have HC := Lib.hid (l4Changes_any lo (some ⟨gs j, 0, none⟩) K K K K (prevZ R' K j) (R' j) wr hlo hrd hpl hl (Nat.le_refl _) (by omega) hpi (Hin.out j hj))
        have hsuc : sumZ R' K (j + 1) = sumZ R' K j + chP (prevZ R' K j) (R' j) K := rfl
        have hcl := chP_le (prevZ R' K j) (R' j) K
        generalize chP (prevZ R' K j) (R' j) K = y at HC hsuc hcl
        generalize sumZ R' K j = S at hsum hsuc ⊢
        have HS := Lib.hid hsuc
        clear hsuc hcells hsr hpl hpi hlo hl
        have hji : (j : Int) < (M : Int) := by omega
        go_wp2_with (first | (go_at_call 39; refine HC.out.mono ?_; rintro e w2 ⟨rfl, hb2⟩; have hx2 := (hb2.cell (p := ⟨g, j, none⟩) hg).trans hx))
        go_roundw
        case rel => exact ⟨j + 1, some ⟨gs j, 0, none⟩, by omega, by go_num, by rw [HS.out]; go_num, rfl, RdI_below hrd hb2, scr_below HO.out hb2 (Nat.le_refl _), belowThen hbw hb2⟩
        case measure => simp [intOf]; omega
      · have hjn : j = M := by omega
        subst hjn
        have HC := Lib.hid (fun (W : World) (h1 : RdI W lo (prevZ R' K j)) (a : Option Addr) (h2 : RdI W a (List.replicate K 0)) => l4Changes_any lo a K K K K (prevZ R' K j) (List.replicate K 0) W h1 h2 hpl (by simp) (Nat.le_refl _) (by omega) hpi (fun x hx => by rw [List.mem_replicate] at hx; rw [hx.2]; rfl))
        have hsuc : sumZ R' K (j + 1) = sumZ R' K j + chP (prevZ R' K j) (R' j) K := rfl
        rw [HM.out] at hsuc
        have hcl := chP_le (prevZ R' K j) (List.replicate K 0) K
        generalize chP (prevZ R' K j) (List.replicate K 0) K = y at HC hcl hsuc
        generalize sumZ R' K j = S at hsum hsuc ⊢
        have HSuc := Lib.hid hsuc
        have hlz := RdI_below hlo (Go.Joins.below_alloc1 wr (.cells Mk 3))
        have hzz := RdI_zeros K wr
        clear hsuc hsr hpl hpi hlo
        go_wp2_with (first | (go_at_call 39; refine (HC.out _ hlz _ hzz).mono ?_; rintro e w2 ⟨rfl, hb2⟩))
        go_ret2
        exact ⟨by rw [HR'.out, HSuc.out]; simp, belowThen (belowThen hbw (Go.Joins.below_alloc1 _ _)) hb2⟩
  · have hz : RdI (w1.alloc (.cells Mk 3)) (some ⟨w1.heap.size, 0, none⟩) (List.replicate K 0) := RdI_zeros K w1
    have hbW : Below w.heap.size w (w1.alloc (.cells Mk 3)) := belowThen (belowThen (by (repeat (first | assumption | exact Below.refl _ _ | refine belowThen ?_ (Go.Joins.below_alloc1 _ _) | apply Below.drew | refine belowThen ?_ (by assumption) | refine belowThen ?_ (Go.Joins.below_draws _ _ _) | refine Below.setCell ?_ (by first | exact Nat.le_refl _ | (simp; done) | (simp; omega)) _))) hb1) (Go.Joins.below_alloc1 _ _)
    have hscW := scr_below (C := 0) (scr_congr hsc hcg) (Go.Joins.below_alloc1 _ (.cells Mk 3)) (Nat.zero_le _)
    clear hsc
    generalize hR' : rowsZ R M K = R' at *
    have HR' := Lib.hid hR'
    clear hR'
    go_wp2
    clear hb1
    go_loopw [6, 7, 9] (fun sm lv i wr => ∃ (j : Nat) (lo : Option Addr), j ≤ M ∧ i = .int .i64 j ∧ sm = .int .i64 ((sumZ R' K j : Nat) : Int) ∧ lv = .slice lo K K ∧ RdI wr lo (prevZ R' K j) ∧ scr wr 0 (.slice ao M cap) M K gs R' ∧ Below w.heap.size w wr) (fun _ _ i _ => M - (intOf i).toNat)
    case atStart => exact ⟨0, _, by omega, rfl, rfl, rfl, by first | exact hz | exact RdI_below hz (by (repeat (first | assumption | exact Below.refl _ _ | refine belowThen ?_ (Go.Joins.below_alloc1 _ _) | apply Below.drew | refine belowThen ?_ (by assumption) | refine belowThen ?_ (Go.Joins.below_draws _ _ _) | refine Below.setCell ?_ (by first | exact Nat.le_refl _ | (simp; done) | (simp; omega)) _))), by first | exact hscW | exact scr_below hscW (by (repeat (first | assumption | exact Below.refl _ _ | refine belowThen ?_ (Go.Joins.below_alloc1 _ _) | apply Below.drew | refine belowThen ?_ (by assumption) | refine belowThen ?_ (Go.Joins.below_draws _ _ _) | refine Below.setCell ?_ (by first | exact Nat.le_refl _ | (simp; done) | (simp; omega)) _))) (Nat.le_refl _), by first | exact hbW | exact belowThen hbW (by (repeat (first | assumption | exact Below.refl _ _ | refine belowThen ?_ (Go.Joins.below_alloc1 _ _) | apply Below.drew | refine belowThen ?_ (by assumption) | refine belowThen ?_ (Go.Joins.below_draws _ _ _) | refine Below.setCell ?_ (by first | exact Nat.le_refl _ | (simp; done) | (simp; omega)) _)))⟩
    case round =>
      obtain ⟨j, lo, hj, rfl, rfl, rfl, hlo, hsr, hbw⟩ := hrel
      have HO := Lib.hid hsr
      have hsum := sumZ_le R' K j
      have hsl : 7 * K * j ≤ 7 * 6 * 17 := Nat.mul_le_mul (by omega) (by omega)
      have hpl := Hpl.out j hj
      have hpi := Hpi.out j hj
      clear hz hbW hscW
      by_cases hlt : j < M
      · obtain ⟨ao', cap', he, h0 | ⟨g, rfl, hBg, hg, hcells⟩⟩ := scr_read hsr
        · omega
        simp only [Value.slice.injEq] at he
        obtain ⟨rfl, -, -⟩ := he
        obtain ⟨hx, hrd, hl⟩ := hcells j hlt
        have HC := Lib.hid (l4Changes_any lo (some ⟨gs j, 0, none⟩) K K K K (prevZ R' K j) (R' j) wr hlo hrd hpl hl (Nat.le_refl _) (by omega) hpi (Hin.out j hj))
        have hsuc : sumZ R' K (j + 1) = sumZ R' K j + chP (prevZ R' K j) (R' j) K := rfl
        have hcl := chP_le (prevZ R' K j) (R' j) K
        generalize chP (prevZ R' K j) (R' j) K = y at HC hsuc hcl
        generalize sumZ R' K j = S at hsum hsuc ⊢
        have HS := Lib.hid hsuc
        clear hsuc hcells hsr hpl hpi hlo hl
        have hji : (j : Int) < (M : Int) := by omega
        go_wp2_with (first | (go_at_call 39; refine HC.out.mono ?_; rintro e w2 ⟨rfl, hb2⟩; have hx2 := (hb2.cell (p := ⟨g, j, none⟩) hg).trans hx))
        go_roundw
        case rel => exact ⟨j + 1, some ⟨gs j, 0, none⟩, by omega, by go_num, by rw [HS.out]; go_num, rfl, RdI_below hrd hb2, scr_below HO.out hb2 (Nat.le_refl _), belowThen hbw hb2⟩
        case measure => simp [intOf]; omega
      · have hjn : j = M := by omega
        subst hjn
        have HC := Lib.hid (fun (W : World) (h1 : RdI W lo (prevZ R' K j)) (a : Option Addr) (h2 : RdI W a (List.replicate K 0)) => l4Changes_any lo a K K K K (prevZ R' K j) (List.replicate K 0) W h1 h2 hpl (by simp) (Nat.le_refl _) (by omega) hpi (fun x hx => by rw [List.mem_replicate] at hx; rw [hx.2]; rfl))
        have hsuc : sumZ R' K (j + 1) = sumZ R' K j + chP (prevZ R' K j) (R' j) K := rfl
        rw [HM.out] at hsuc
        have hcl := chP_le (prevZ R' K j) (List.replicate K 0) K
        generalize chP (prevZ R' K j) (List.replicate K 0) K = y at HC hcl hsuc
        generalize sumZ R' K j = S at hsum hsuc ⊢
        have HSuc := Lib.hid hsuc
        have hlz := RdI_below hlo (Go.Joins.below_alloc1 wr (.cells Mk 3))
        have hzz := RdI_zeros K wr
        clear hsuc hsr hpl hpi hlo
        go_wp2_with (first | (go_at_call 39; refine (HC.out _ hlz _ hzz).mono ?_; rintro e w2 ⟨rfl, hb2⟩))
        go_ret2
        exact ⟨by rw [HR'.out, HSuc.out]; simp, belowThen (belowThen hbw (Go.Joins.below_alloc1 _ _)) hb2⟩
theorem runAppendRd (w : World) (ty : TypeId) (B : Nat) (v : Value) (m K : Nat) (gs : Nat → Nat) (R : Nat → List Int) (hsc : scr w B v m K gs R) (hv : m = 0 → v = .slice none 0 0) (g : Nat) (Z : List Int) (hz : ownsInts w B (.slice (some ⟨g, 0, none⟩) K K) Z) (hZ : Z.length = K)
    (ad : Addr) (hc : w.cell? (ad.add 0) = some (.slice (some ⟨g, 0, none⟩) K K)) (hm : m ≤ 1000) (hB : B ≤ w.heap.size) :
    ∃ G cap w', (Builtin.append_ #[32, 32] ty #[v, .slice (some ad) 1 1]).run Tryd.prog w = .ok (.slice (some ⟨G, 0, none⟩) (m + 1) cap) w' ∧ RdSS w' G (m + 1) K (fun i => if i < m then gs i else g) (fun i => if i < m then R i else Z) ∧ Below B w w' := by
  obtain ⟨i0, hi, hz0, hz1, hz2⟩ := info_parts infoInts
  have hown : w.ownsRow B 25 1 v m ((List.range m).map fun i => Value.slice (some ⟨gs i, 0, none⟩) K K) := by
    rcases hsc.1 with h | ⟨h0, h1, a, h2⟩
    · exact h
    · rw [hv h0] at h2; cases h2
  obtain ⟨G, cap, w', hr, h2, h3, h4, h5⟩ := run_append_lies w 32 ty B 25 i0 (.slice none 0 0) 1 24 Tryd.underlying32 hi hz0 hz1 hz2 rfl (by decide) v m _ hown ad 1 1 [.slice (some ⟨g, 0, none⟩) K K] rfl
    (fun j u hu => by
      have h0 : j = 0 := by have := (List.getElem?_eq_some_iff.1 hu).1; simpa using this
      subst h0
      simp at hu
      rw [hc, hu]) (by simp [Value.oneCell']) (by decide) (by unfold maxLen; omega) (by omega) hB _ rfl
  have hk : ∀ k, k < w.heap.size → (v.ownBlock = some k → ∀ cur, w.heap[k]? ≠ some (.cells cur 25 (0, 0))) → w'.heap[k]? = w.heap[k]? := by
    intro k hk hne
    refine h3.block k hk ?_
    intro hcc
    rcases hown.2 with ⟨rfl, _⟩ | ⟨g9, _, cur, rfl, _, hgg, _⟩
    · simp [Value.ownBlock] at hcc
    · simp only [Value.ownBlock, Option.some.injEq] at hcc
      subst hcc
      exact hne rfl cur hgg
  have hbel : Below B w w' := (Below.refl B w).grown h3 hB (fun k hk => (World.ownsRow.lt hown k hk).1)
  refine ⟨G, cap, w', hr, ⟨h5, fun i hi => ?_⟩, hbel⟩
  have hcell : ∀ i, i < m + 1 → w'.cell? ⟨G, i, none⟩ = (((List.range m).map fun i => Value.slice (some ⟨gs i, 0, none⟩) K K) ++ [.slice (some ⟨g, 0, none⟩) K K])[i]? := fun i hi => World.ownsRow.cellAt h2 i (by omega)
  rw [hcell i hi]
  dsimp only
  by_cases hlt : i < m
  · rw [if_pos hlt, if_pos hlt]
    obtain ⟨a1, a2, a3, a4⟩ := hsc.2.1 i hlt
    refine ⟨?_, ?_, a3⟩
    · rw [List.getElem?_append_left (by simpa using hlt)]
      simp [hlt]
    · subst a3
      exact RdI_owns (ownsInts_apart (by decide) a4 hk)
  · rw [if_neg hlt, if_neg hlt]
    have him : i = m := by omega
    subst him
    refine ⟨?_, ?_, hZ⟩
    · rw [List.getElem?_append_right (by simp)]
      simp
    · subst hZ
      exact RdI_owns (ownsInts_apart (by decide) hz hk)
theorem stepAppendRd {ops : Array Oper} {o : Oper} {a : Act} {w : World} {K' : Act → World → Prop} {Q : Exit → Act → World → Prop} {E : Prop} (hgd : o.guard = none) (s x : Operand)
    (ho : o.op = .call { callee := .builtin .append, args := #[s, x], argTypes := #[32, 32] })
    (B : Nat) (v : Value) (m K : Nat) (gs : Nat → Nat) (R : Nat → List Int) (hs : a.eval s = v) (ad : Addr) (hx : a.eval x = .slice (some ad) 1 1) (hsc : scr w B v m K gs R) (hv : m = 0 → v = .slice none 0 0) (g : Nat) (Z : List Int) (hz : ownsInts w B (.slice (some ⟨g, 0, none⟩) K K) Z) (hZ : Z.length = K)
    (hc : w.cell? (ad.add 0) = some (.slice (some ⟨g, 0, none⟩) K K)) (hm : m ≤ 1000) (hB : B ≤ w.heap.size)
    (h : ∀ G cap w', RdSS w' G (m + 1) K (fun i => if i < m then gs i else g) (fun i => if i < m then R i else Z) → Below B w w' → K' (a.put o.dst (.slice (some ⟨G, 0, none⟩) (m + 1) cap)) w') :
    if Region.wanted o (yielded ops a.tmps) = true then Oper.wp Tryd.prog o a w K' Q else E := by
  have hw : Region.wanted o (yielded ops a.tmps) = true := by simp [Region.wanted, hgd]
  rw [if_pos hw]
  obtain ⟨G, cap, w', hr, h2, h3⟩ := runAppendRd w o.type B v m K gs R hsc hv g Z hz hZ ad hc hm hB
  unfold Oper.wp execOp
  simp only [ho, resolve, invoke, builtin, Sem.run_bind, Sem.run_pure, Result.andThen_ok, List.map_toArray, List.map_cons, List.map_nil, hs, hx, hr]
  exact h G cap w' h2 h3
end Go.Proofs.YtjlhghbikmipgaaDoor
