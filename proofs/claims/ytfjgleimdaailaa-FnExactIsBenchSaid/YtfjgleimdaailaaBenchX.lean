/- The two judgements of a bench. -/
import Derived.Test.YtfjgleimdaailaaBenchW
namespace Go.Proofs.Ytfjgleimdaailaa
open Go.RowKit

set_option maxHeartbeats 1000000 in
theorem IsBenchS_any (F : Nat → Int) (w : World) : Calls Try.prog 20 #[.agg (benT F)] w fun e w' => e = .returned (.bool (benchB F)) ∧ Below w.heap.size w w' := by
  have hr := heap_alloc_new w (.cells (benT F) 41)
  have hb := Go.Joins.below_alloc1 w (.cells (benT F) 41)
  have hsz := benT_size F
  have HG := Lib.hid (fun W => l12Good_any F W)
  generalize benT F = A at *
  generalize benchB F = q at *
  have hA1 := @cellAlloc; have hA2 := @frozenAlloc; have hA3 := @setCellAlloc; go_enter Try.func20, Try.ntmps20
  go_wp2_with (first
    | (refine wpList_load_row (by rfl) 41 _ (by rfl) w.heap.size (by rfl) 41 _ (0, 0) _ hr Try.underlying41 (by rfl) (by rw [hsz]; kernel_rfl) ?_)
    | (go_at_call 53; refine (HG.out _).mono ?_; rintro e w1 ⟨rfl, hb1⟩))
  go_ret
  exact ⟨rfl, belowThen hb hb1⟩
/-- The first n Faults of a bench, their numbers one behind the other. -/
def flt (F : Nat → Int) : Nat → List Int
  | 0 => []
  | n + 1 => flt F n ++ [F (6 + n), F (12 + n)]
theorem flt_length (F : Nat → Int) (n : Nat) : (flt F n).length = n * 2 := by
  induction n with
  | zero => rfl
  | succ n ih => simp [flt, ih]; omega
theorem flt_at (F : Nat → Int) (n k : Nat) (h : k < n) : (flt F n).getD (k * 2) 0 = F (6 + k) ∧ (flt F n).getD (k * 2 + 1) 0 = F (12 + k) := by
  induction n with
  | zero => omega
  | succ n ih =>
    have hl := flt_length F n
    unfold flt
    rw [List.getD_eq_getElem?_getD, List.getD_eq_getElem?_getD]
    by_cases hk : k < n
    · rw [List.getElem?_append_left (by omega), List.getElem?_append_left (by omega), ← List.getD_eq_getElem?_getD, ← List.getD_eq_getElem?_getD]
      exact ih hk
    · have : k = n := by omega
      subst this
      rw [List.getElem?_append_right (by omega), List.getElem?_append_right (by omega), hl]
      simp
theorem infoFault : (Try.prog.info? 26).map (fun i => (i.zero, i.size, i.bytes)) = some (some (.agg #[.int .i64 0, .int .i64 0]), 2, 16) := by kernel_rfl
/-- The slice value v owns a row of n Faults. -/
def ownsFl (w : World) (B : Nat) (v : Value) (n : Nat) (L : List Int) : Prop := ownsG w B 26 2 v n (L.map (Value.int .i64))
theorem RdI_fl {w : World} {B : Nat} {ao : Option Addr} {n cap : Nat} {L : List Int} (h : ownsFl w B (.slice ao n cap) n L) : RdI w ao L := by
  have hl := ownsG_len h
  rw [List.length_map] at hl
  obtain ⟨ao', cap', he, ⟨h0, _⟩ | ⟨g, rfl, _, hlt, _, hc, _⟩⟩ := ownsG_shape h
  · subst h0; exact .inl (List.eq_nil_of_length_eq_zero (by omega))
  · simp only [Value.slice.injEq] at he
    obtain ⟨rfl, _, _⟩ := he
    exact .inr ⟨g, 0, rfl, hlt, fun j hj => by
      rw [Nat.zero_add, hc j (by omega)]
      simp [hj]⟩
theorem wpAppendFl {ops : Array Oper} {rest : List Oper} {o : Oper} {a : Act} {Q : Exit → Act → World → Prop} (w : World) (hgd : o.guard = none) (s x : Operand)
    (ho : o.op = .call { callee := .builtin .append, args := #[s, x], argTypes := #[74, 74] })
    (B : Nat) (v : Value) (n : Nat) (L : List Int) (hs : a.eval s = v) (hown : ownsFl w B v n L) (z1 z2 : Int) (t' : TypeId) (hx : a.eval x = .slice (some ⟨w.heap.size, 0, none⟩) 1 1)
    (hn : n ≤ 1000000000) (hB : B ≤ w.heap.size)
    (h : ∀ ao cap w', ownsFl w' B (.slice ao (n + 1) cap) (n + 1) (L ++ [z1, z2]) → Below B w w' → wpList Try.prog ops Q rest (a.put o.dst (.slice ao (n + 1) cap)) w') :
    wpList Try.prog ops Q (o :: rest) a (w.alloc (.cells #[.int .i64 z1, .int .i64 z2] t')) :=
  wpAppendG w hgd s x _ _ (.agg #[.int .i64 0, .int .i64 0]) 2 16 ho Try.underlying74 infoFault rfl (by decide) (by decide) B v n _ hs hown [.int .i64 z1, .int .i64 z2] _ hx rfl (by simp [Value.oneCell']) hn hB
    fun ao cap w' h2 hb _ => h ao cap w' (by unfold ownsFl; simpa using h2) hb
set_option maxHeartbeats 2000000 in
set_option maxRecDepth 100000 in
theorem faults_any (F : Nat → Int) (w : World) : Calls Try.prog 57 #[.agg (benT F)] w fun e w' => ∃ ao cap, e = .returned (.slice ao 6 cap) ∧ RdI w' ao (flt F 6) ∧ Below w.heap.size w w' := by
  have hr := boxRow F w 41
  have hb := Go.Joins.below_alloc1 w (.cells (benT F) 41)
  have hsz := benT_size F
  have HF := Lib.hid (fun k hk W => fault_any F k hk W)
  have HBL := Lib.hid (fun (W : World) (h : W.rowIs w.heap.size 41 19 (fun j => .int .i64 (F j))) => box_range h)
  have hs := Lib.hid (fun k => (show flt F (k + 1) = flt F k ++ [F (6 + k), F (12 + k)] from rfl))
  have h0 : ∀ W, ownsFl W (w.heap.size + 1) (.slice none 0 0) 0 (flt F 0) := fun W => .inl (World.ownsRow_nil W _ _ _)
  generalize benT F = A at *
  obtain ⟨W, hW⟩ : ∃ W, w.alloc (.cells A 41) = W := ⟨_, rfl⟩
  have hsW : w.heap.size + 1 ≤ W.heap.size := by rw [← hW]; simp
  rw [hW] at hr hb
  have hA1 := @cellAlloc; have hA2 := @frozenAlloc; have hA3 := @setCellAlloc; go_enter Try.func57, Try.ntmps57
  go_wp2
  clear hW
  go_loopw [3, 5] (fun v i wr => ∃ k : Nat, k ≤ 6 ∧ i = .int .i64 k ∧ ownsFl wr (w.heap.size + 1) v k (flt F k) ∧ w.heap.size + 1 ≤ wr.heap.size ∧ wr.rowIs w.heap.size 41 19 (fun j => .int .i64 (F j)) ∧ Below w.heap.size w wr) (fun _ i _ => 6 - (intOf i).toNat)
  case atStart => exact ⟨0, by omega, rfl, h0 _, hsW, hr, hb⟩
  case round =>
    obtain ⟨k, hk, rfl, hown, hsz2, hrr, hbw⟩ := hrel
    clear hr hb h0 hsW
    by_cases hlt : k < 6
    · have hload := Lib.hid (HBL.out wr hrr)
      have HC := Lib.hid (HF.out k hlt)
      have hsk := hs.out k
      have hrlt := hrr.lt
      obtain ⟨ao, cap, rfl, -⟩ := ownsG_shape hown
      generalize F (6 + k) = d at hsk HC
      generalize F (12 + k) = l at hsk HC
      have HSk := Lib.hid hsk
      clear hsk
      have hc2 : (k : Int) < 6 := by omega
      go_wp2_with (first
        | (refine wpList_load_guarded 41 _ (by rfl) (by rfl) w.heap.size 0 (by rfl) A _ hload.out Try.underlying41 rfl (by rw [hsz]; kernel_rfl) ?_)
        | (go_at_call 76; refine (HC.out _).mono ?_; rintro e w1 ⟨rfl, hb1⟩)
        | (refine wpAppendFl w1 (by rfl) _ _ (by rfl) (w.heap.size + 1) _ k (flt F k) (by rfl) (ownsG_below hown hb1 (Nat.le_refl _)) d l _ (by rfl) (by omega) (by have := hb1.size; omega) ?_
           intro ao2 cap2 w2 hown2 hb2
           rw [← HSk.out] at hown2))
      go_roundw
      case rel => exact ⟨k + 1, by omega, by go_num, hown2, by have := hb1.size; have := hb2.size; omega, (hrr.of_block (hb1.block _ hrlt)).of_block (hb2.block _ (by omega)), (belowThen hbw hb1).trans (hb2.mono (by omega))⟩
      case measure => simp [intOf]; omega
    · have hk6 : k = 6 := by omega
      subst hk6
      obtain ⟨ao, cap, rfl, -⟩ := ownsG_shape hown
      have hrd := Lib.hid (RdI_fl hown)
      go_wp2
      go_ret
      exact ⟨ao, cap, rfl, hrd.out, hbw⟩
theorem bench_eq (F : Nat → Int) : (rowB ((List.range 6).map F) && (allF (flt F 6) 6 && inB 0 1000 (F 18))) = benchB F := by
  unfold benchB rowB
  have h1 : allF (flt F 6) 6 = (List.range 6).all fun k => faultB (F (6 + k)) (F (12 + k)) := by
    unfold allF
    rw [Bool.eq_iff_iff, List.all_eq_true, List.all_eq_true]
    constructor
    · intro h k hk
      obtain ⟨e1, e2⟩ := flt_at F 6 k (List.mem_range.1 hk)
      have := h k hk
      rw [e1, e2] at this
      exact this
    · intro h k hk
      obtain ⟨e1, e2⟩ := flt_at F 6 k (List.mem_range.1 hk)
      rw [e1, e2]
      exact h k hk
  rw [h1, List.all_map, ← Bool.and_assoc]
  congr 1
  rw [Bool.eq_iff_iff]
  simp only [fiveOk, Bool.and_eq_true, List.all_eq_true, decide_eq_true_eq, List.length_map, List.length_range, Function.comp]
  constructor
  · rintro ⟨⟨-, ha⟩, hb⟩ k hk
    exact ⟨ha k hk, hb k hk⟩
  · intro h
    exact ⟨⟨Nat.le_refl _, fun k hk => (h k hk).1⟩, fun k hk => (h k hk).2⟩
set_option maxHeartbeats 2000000 in
set_option maxRecDepth 100000 in
theorem IsBenchI_any (F : Nat → Int) (w : World) : Calls Try.prog 22 #[.agg (benT F)] w fun e w' => e = .returned (.bool (benchB F)) ∧ Below w.heap.size w w' := by
  have hq := bench_eq F
  have hr := boxRow F w 41
  have hb := Go.Joins.below_alloc1 w (.cells (benT F) 41)
  have hsz := benT_size F
  have HFs := Lib.hid (fun W => faults_any F W)
  have HBL := Lib.hid (fun (W : World) (h : W.rowIs w.heap.size 41 19 (fun j => .int .i64 (F j))) => box_range h)
  have HR := Lib.hid (fun (W : World) (h : W.rowIs w.heap.size 41 19 (fun j => .int .i64 (F j))) => IsRow_any (some ⟨w.heap.size, 0, none⟩) 6 6 ((List.range 6).map F) W (.inr ⟨w.heap.size, 0, rfl, h.lt, fun j hj => by
    have h6 : j < 6 := by simpa using hj
    rw [Nat.zero_add, h.cell (by omega)]
    simp [h6]⟩) (by simp) (by unfold maxLen; omega))
  have HA := Lib.hid (fun (ao : Option Addr) (cap : Nat) (W : World) h => areAllF_any ao 6 cap (flt F 6) W h (flt_length F 6) (by omega))
  generalize benT F = A at *
  generalize rowB ((List.range 6).map F) = r at hq HR
  generalize allF (flt F 6) 6 = f at hq HA
  rw [← hq]
  clear hq
  obtain ⟨W, hW⟩ : ∃ W, w.alloc (.cells A 41) = W := ⟨_, rfl⟩
  rw [hW] at hr hb
  have e18 := hr.cell (i := 18) (by omega)
  generalize F 18 = m at e18 ⊢
  have hrlt := hr.lt
  rcases r with _ | _
  · have hA1 := @cellAlloc; have hA2 := @frozenAlloc; have hA3 := @setCellAlloc; go_enter Try.func22, Try.ntmps22
    go_wp2_with (first | (go_at_call 55; refine (HR.out _ hr).mono ?_; rintro e w1 ⟨rfl, hb1⟩))
    go_ret
    exact ⟨rfl, belowThen hb hb1⟩
  · rcases f with _ | _
    · have hA1 := @cellAlloc; have hA2 := @frozenAlloc; have hA3 := @setCellAlloc; go_enter Try.func22, Try.ntmps22
      go_wp2_with (first
        | (go_at_call 55; refine (HR.out _ hr).mono ?_; rintro e w1 ⟨rfl, hb1⟩; have hload := Lib.hid (HBL.out _ (hr.of_block (hb1.block _ hrlt))))
        | (refine wpList_load_guarded 41 _ (by rfl) (by rfl) w.heap.size 0 (by rfl) A _ hload.out Try.underlying41 rfl (by rw [hsz]; kernel_rfl) ?_)
        | (go_at_call 57; refine (HFs.out _).mono ?_; rintro e w2 ⟨ao, cap, rfl, hrd, hb2⟩)
        | (go_at_call 56; refine (HA.out _ _ _ hrd).mono ?_; rintro e w3 ⟨rfl, hb3⟩))
      go_ret
      exact ⟨rfl, belowThen (belowThen (belowThen hb hb1) hb2) hb3⟩
    · have hA1 := @cellAlloc; have hA2 := @frozenAlloc; have hA3 := @setCellAlloc; go_enter Try.func22, Try.ntmps22
      go_wp2_with (first
        | (go_at_call 55; refine (HR.out _ hr).mono ?_; rintro e w1 ⟨rfl, hb1⟩; have hload := Lib.hid (HBL.out _ (hr.of_block (hb1.block _ hrlt))))
        | (refine wpList_load_guarded 41 _ (by rfl) (by rfl) w.heap.size 0 (by rfl) A _ hload.out Try.underlying41 rfl (by rw [hsz]; kernel_rfl) ?_)
        | (go_at_call 57; refine (HFs.out _).mono ?_; rintro e w2 ⟨ao, cap, rfl, hrd, hb2⟩)
        | (go_at_call 56; refine (HA.out _ _ _ hrd).mono ?_; rintro e w3 ⟨rfl, hb3⟩
           replace e18 : w3.cell? ⟨w.heap.size, 18, none⟩ = some (.int .i64 m) := by
             rw [World.cell?_of_block (w := w2) (hb3.block _ (by have := hb1.size; have := hb2.size; show w.heap.size < _; omega)), World.cell?_of_block (w := w1) (hb2.block _ (by have := hb1.size; show w.heap.size < _; omega)), World.cell?_of_block (w := W) (hb1.block _ hrlt)]
             exact e18)
        | (go_at_call 58; refine (within_any _ _ _ _).mono ?_; rintro e w' ⟨rfl, rfl⟩))
      go_ret
      exact ⟨rfl, belowThen (belowThen (belowThen hb hb1) hb2) hb3⟩
end Go.Proofs.Ytfjgleimdaailaa
