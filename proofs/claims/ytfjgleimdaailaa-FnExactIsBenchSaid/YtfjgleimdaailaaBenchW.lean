/- Contracts of the law's copy of a bench, and of the two judgements of a bench. -/
import Derived.Test.YtfjgleimdaailaaBenchV
namespace Go.Proofs.Ytfjgleimdaailaa
open Go.RowKit

theorem setCells_other (b : Nat) : ∀ (vs : List Value) (o : Nat) (w : World) (k : Nat), k ≠ b → (w.setCells b o vs).heap[k]? = w.heap[k]?
  | [], _, _, _, _ => rfl
  | v :: r, o, w, k, h => by
    rw [World.setCells, setCells_other b r _ _ k h, Below.heap_setCell _ _ _ _ (by simpa using h)]
theorem rowIs_setCells (b : Nat) (t : TypeId) (n : Nat) (g : Nat → Value) : ∀ (vs : List Value) (o : Nat) (w : World) (f : Nat → Value), w.rowIs b t n f → (∀ j, j < n → (if o ≤ j ∧ j < o + vs.length then vs[j - o]? = some (g j) else f j = g j)) → (w.setCells b o vs).rowIs b t n g
  | [], o, w, f, h, hg => h.congr fun j hj => by
      have := hg j hj
      rw [if_neg (by rw [List.length_nil]; omega)] at this
      exact this
  | v :: r, o, w, f, h, hg => by
    rw [World.setCells]
    refine rowIs_setCells b t n g r _ _ _ (h.set o v) fun j hj => ?_
    have h1 := hg j hj
    by_cases h2 : o + 1 ≤ j ∧ j < o + 1 + r.length
    · rw [if_pos h2]
      rw [if_pos (by simp; omega)] at h1
      rw [show j - o = (j - (o + 1)) + 1 by omega] at h1
      simpa using h1
    · rw [if_neg h2]
      by_cases h3 : j = o
      · subst h3
        rw [if_pos (by simp), Nat.sub_self] at h1
        simpa using h1
      · rw [if_neg h3]
        rw [if_neg (by simp; omega)] at h1
        exact h1
theorem setCells_below {B b : Nat} {w0 : World} : ∀ (vs : List Value) (o : Nat) (w : World), Below B w0 w → B ≤ b → Below B w0 (w.setCells b o vs)
  | [], _, _, h, _ => h
  | v :: r, o, w, h, hb => by rw [World.setCells]; exact setCells_below r _ _ (h.setCell (by exact hb) _) hb
theorem rowIs_range {w : World} {b : Nat} {t : TypeId} {n : Nat} {F : Nat → Int} (h : w.rowIs b t n (fun j => .int .i64 (F j))) (o : Nat) (ho : o + 6 ≤ n) : w.rangeAt b o (c6 fun j => F (o + j)) := fun j v hj => by
  have h6 : j < 6 := (List.getElem?_eq_some_iff.1 hj).1
  rw [c6_get _ _ h6] at hj
  rw [h.cell (by omega), hj]
theorem rowIs_there {w : World} {b : Nat} {t : TypeId} {n : Nat} {f : Nat → Value} (h : w.rowIs b t n f) (o m : Nat) (ho : o + m ≤ n) : w.there b o m := fun j hj => ⟨by rw [h.cell (by omega)]; rfl, h.frozen _⟩
/-- The bench is copied as far as k: the box at h, the result at h + 1, the copy at h + 2. -/
def BSt (F : Nat → Int) (h : Nat) (t1 t2 : TypeId) (w : World) (k : Nat) (W : World) : Prop :=
  W.rowIs h t1 19 (fun j => .int .i64 (F j)) ∧ W.heap[h + 1]? = some (.cells zer19 t2 (0, 0)) ∧ W.rowIs (h + 2) t2 19 (fun j => .int .i64 (if j < k then F j else 0)) ∧ Below h w W
theorem BSt_below {F : Nat → Int} {h : Nat} {t1 t2 : TypeId} {w : World} {k : Nat} {W W' : World} (hs : BSt F h t1 t2 w k W) (hb : Below W.heap.size W W') (hh : h ≤ W.heap.size) : BSt F h t1 t2 w k W' :=
  ⟨hs.1.of_block (hb.block _ hs.1.lt), (hb.block _ (Array.getElem?_eq_some_iff.1 hs.2.1).1).trans hs.2.1, hs.2.2.1.of_block (hb.block _ hs.2.2.1.lt), hs.2.2.2.trans (hb.mono hh)⟩
theorem BSt_le {F : Nat → Int} {h : Nat} {t1 t2 : TypeId} {w : World} {k : Nat} {W : World} (hs : BSt F h t1 t2 w k W) : h ≤ W.heap.size := Nat.le_of_lt hs.1.lt
theorem BSt_set {F : Nat → Int} {h : Nat} {t1 t2 : TypeId} {w : World} {k : Nat} {W : World} (hs : BSt F h t1 t2 w k W) (hk : k + 6 ≤ 19) : BSt F h t1 t2 w (k + 6) (W.setCells (h + 2) k (c6 fun j => F (k + j)).toArray.toList) := by
  refine ⟨hs.1.of_block (setCells_other _ _ _ _ _ (by omega)), (setCells_other _ _ _ _ _ (by omega)).trans hs.2.1, ?_, setCells_below _ _ _ hs.2.2.2 (by omega)⟩
  refine rowIs_setCells _ _ _ _ _ _ _ _ hs.2.2.1 fun j hj => ?_
  have hl : (c6 fun j => F (k + j)).toArray.toList.length = 6 := rfl
  rw [hl]
  by_cases h1 : k ≤ j ∧ j < k + 6
  · rw [if_pos h1, if_pos (by omega)]
    have := c6_get (fun j => F (k + j)) (j - k) (by omega)
    rw [List.toList_toArray, this, show k + (j - k) = j by omega]
  · rw [if_neg h1]
    by_cases h2 : j < k
    · rw [if_pos h2, if_pos (by omega)]
    · rw [if_neg h2, if_neg (by omega)]
theorem BSt_end {F : Nat → Int} {h : Nat} {t1 t2 : TypeId} {w : World} {W : World} (hs : BSt F h t1 t2 w 18 W) :
    W.cell? ⟨h, 18, none⟩ = some (.int .i64 (F 18)) ∧ W.cell? ⟨h + 1 + 1, 18, none⟩ = some (.int .i64 0) ∧ W.frozen? ⟨h + 1 + 1, 18, none⟩ = false ∧
    (W.setCell ⟨h + 1 + 1, 18, none⟩ (.int .i64 (F 18))).heap[h + 1 + 1]? = some (.cells (benT F) t2 (0, 0)) ∧ (W.setCell ⟨h + 1 + 1, 18, none⟩ (.int .i64 (F 18))).heap[h + 1]? = some (.cells zer19 t2 (0, 0)) ∧ Below h w (W.setCell ⟨h + 1 + 1, 18, none⟩ (.int .i64 (F 18))) := by
  have h2 := hs.2.2.1
  refine ⟨hs.1.cell (by omega), h2.cell (i := 18) (by omega), h2.frozen 18, ?_, ?_, hs.2.2.2.setCell (by show h ≤ h + 1 + 1; omega) _⟩
  · obtain ⟨C, hC, hCs, hCi⟩ := h2.set 18 (.int .i64 (F 18))
    rw [hC]
    have : C = benT F := by
      apply Array.ext_getElem?
      intro j
      by_cases hj : j < 19
      · rw [hCi j hj, benT_get F j hj]
        by_cases h18 : j = 18
        · simp [h18]
        · have : j < 18 := by omega
          simp [h18, this]
      · rw [Array.getElem?_eq_none (by omega), Array.getElem?_eq_none (by rw [benT_size]; omega)]
    rw [this]
  · rw [Below.heap_setCell _ _ _ _ (by first | omega | (simp; omega) | simp)]; exact hs.2.1
set_option maxHeartbeats 2000000 in
set_option maxRecDepth 100000 in
theorem toBench_any (F : Nat → Int) (w : World) : Calls Try.prog 21 #[.agg (benT F)] w fun e w' => e = .returned (.agg (benT F)) ∧ Below w.heap.size w w' := by
  have hz := (zero_of_info (P := Try.prog) (t := 41) (v := .agg zer19) (n := 19) (by kernel_rfl)).1
  have hz0 : ∀ i, i < 19 → zer19[i]? = some (.int .i64 0) := fun i hi => by
    have h := benA_get (fun _ => 0) i hi
    rw [benA_zero] at h
    rw [h]; simp
  have hs0 : BSt F w.heap.size 39 41 w 0 (((w.alloc (.cells (benT F) 39)).alloc (.cells zer19 41)).alloc (.cells zer19 41)) := by
    refine ⟨World.rowIs.alloc (World.rowIs.alloc (boxRow F w _) _) _, ?_, ?_, by (repeat (first | assumption | exact Below.refl _ _ | refine belowThen ?_ (Go.Joins.below_alloc1 _ _) | apply Below.drew | refine belowThen ?_ (by assumption) | refine belowThen ?_ (Go.Joins.below_draws _ _ _) | refine Below.setCell ?_ (by first | exact Nat.le_refl _ | (simp; done) | (simp; omega)) _))⟩
    · rw [Below.heap_alloc _ _ _ (by simp)]
      have h := heap_alloc_new (w.alloc (.cells (benT F) 39)) (.cells zer19 41); rw [heapAlloc] at h; exact h
    · exact ⟨zer19, by have h := heap_alloc_new ((w.alloc (.cells (benT F) 39)).alloc (.cells zer19 41)) (.cells zer19 41); rw [heapAlloc, heapAlloc] at h; exact h, rfl, fun i hi => by rw [hz0 i hi]; simp⟩
  obtain ⟨W, hW⟩ : ∃ W, ((w.alloc (.cells (benT F) 39)).alloc (.cells zer19 41)).alloc (.cells zer19 41) = W := ⟨_, rfl⟩
  rw [hW] at hs0
  have HEnd := Lib.hid (fun (W' : World) (h : BSt F w.heap.size 39 41 w 18 W') => BSt_end h)
  have hone := benT_one F
  have hsz := benT_size F
  have HGet := Lib.hid (fun i h => benT_get F i h)
  have HX0 := Lib.hid (fun W => toIntA6_any (fun j => F (0 + j)) W)
  have HX6 := Lib.hid (fun W => toIntA6_any (fun j => F (6 + j)) W)
  have HX12 := Lib.hid (fun W => toIntA6_any (fun j => F (12 + j)) W)
  have HS0 := Lib.hid (fun W' h => BSt_set (F := F) (h := w.heap.size) (t1 := 39) (t2 := 41) (w := w) (k := 0) (W := W') h (by omega))
  have HS6 := Lib.hid (fun W' h => BSt_set (F := F) (h := w.heap.size) (t1 := 39) (t2 := 41) (w := w) (k := 6) (W := W') h (by omega))
  have HS12 := Lib.hid (fun W' h => BSt_set (F := F) (h := w.heap.size) (t1 := 39) (t2 := 41) (w := w) (k := 12) (W := W') h (by omega))
  have HR0 := Lib.hid (fun (W' : World) (h : BSt F w.heap.size 39 41 w 0 W') => rowIs_range h.1 0 (by omega))
  have HR6 := Lib.hid (fun (W' : World) (h : BSt F w.heap.size 39 41 w 6 W') => rowIs_range h.1 6 (by omega))
  have HR12 := Lib.hid (fun (W' : World) (h : BSt F w.heap.size 39 41 w 12 W') => rowIs_range h.1 12 (by omega))
  have l0 : (c6 fun j => F (0 + j)).length = 6 := rfl
  have m0 : (c6 fun j => F (0 + j)).toArray.size = 6 := rfl
  have l6 : (c6 fun j => F (6 + j)).length = 6 := rfl
  have m6 : (c6 fun j => F (6 + j)).toArray.size = 6 := rfl
  have l12 : (c6 fun j => F (12 + j)).length = 6 := rfl
  have m12 : (c6 fun j => F (12 + j)).toArray.size = 6 := rfl
  have o0 : (c6 fun j => F (0 + j)).toArray.all (·.oneCell') = true := by simp [c6, Value.oneCell']
  have o6 : (c6 fun j => F (6 + j)).toArray.all (·.oneCell') = true := by simp [c6, Value.oneCell']
  have o12 : (c6 fun j => F (12 + j)).toArray.all (·.oneCell') = true := by simp [c6, Value.oneCell']
  generalize (c6 fun j => F (0 + j)) = X0 at *
  generalize (c6 fun j => F (6 + j)) = X6 at *
  generalize (c6 fun j => F (12 + j)) = X12 at *
  generalize benT F = A at *
  have t0 : True := trivial
  have t1 : True := trivial
  have t2 : True := trivial
  have s0 := Lib.hid hs0
  clear hs0 hz0
  have hA1 := @cellAlloc; have hA2 := @frozenAlloc; have hA3 := @setCellAlloc; go_enter Try.func21, Try.ntmps21
  go_wp2_with (first
    | (refine wpList_load_mid (by rfl) 37 _ (by rfl) w.heap.size 0 (by rfl) X0 _ (HR0.out _ s0.out) Try.underlying37 rfl (by rw [l0]; kernel_rfl) ?_)
    | (go_at_call 54; clear t0; refine (HX0.out _).mono ?_; rintro e w1 ⟨rfl, hb1⟩
       have s1 := Lib.hid (BSt_below s0.out hb1 (BSt_le s0.out)); clear hb1)
    | (refine wpList_store_mid (by rfl) 37 _ _ (by rfl) (w.heap.size + 2) 0 X0.toArray (by rfl) (by rfl) (rowIs_there s1.out.2.2.1 _ _ (by rw [m0]; omega)) (by rw [m0]; kernel_rfl) o0 ?_
       have s2 := Lib.hid (HS0.out _ s1.out)
       generalize w1.setCells (w.heap.size + 2) 0 X0.toArray.toList = w2 at s2 ⊢)
    | (refine wpList_load_mid (by rfl) 37 _ (by rfl) w.heap.size 6 (by rfl) X6 _ (HR6.out _ s2.out) Try.underlying37 rfl (by rw [l6]; kernel_rfl) ?_)
    | (go_at_call 54; clear t1; refine (HX6.out _).mono ?_; rintro e w3 ⟨rfl, hb3⟩
       have s3 := Lib.hid (BSt_below s2.out hb3 (BSt_le s2.out)); clear hb3)
    | (refine wpList_store_mid (by rfl) 37 _ _ (by rfl) (w.heap.size + 2) 6 X6.toArray (by rfl) (by rfl) (rowIs_there s3.out.2.2.1 _ _ (by rw [m6]; omega)) (by rw [m6]; kernel_rfl) o6 ?_
       have s4 := Lib.hid (HS6.out _ s3.out)
       generalize w3.setCells (w.heap.size + 2) 6 X6.toArray.toList = w4 at s4 ⊢)
    | (refine wpList_load_mid (by rfl) 37 _ (by rfl) w.heap.size 12 (by rfl) X12 _ (HR12.out _ s4.out) Try.underlying37 rfl (by rw [l12]; kernel_rfl) ?_)
    | (go_at_call 54; clear t2; refine (HX12.out _).mono ?_; rintro e w5 ⟨rfl, hb5⟩
       have s5 := Lib.hid (BSt_below s4.out hb5 (BSt_le s4.out)); clear hb5)
    | (refine wpList_store_mid (by rfl) 37 _ _ (by rfl) (w.heap.size + 2) 12 X12.toArray (by rfl) (by rfl) (rowIs_there s5.out.2.2.1 _ _ (by rw [m12]; omega)) (by rw [m12]; kernel_rfl) o12 ?_
       have s6 := Lib.hid (HS12.out _ s5.out)
       generalize w5.setCells (w.heap.size + 2) 12 X12.toArray.toList = w6 at s6 ⊢
       obtain ⟨e18, f18, g18, h18, i18, b18⟩ := HEnd.out _ s6.out
       generalize F 18 = y at e18 h18 i18 b18)
    | (refine wpList_load_row (by rfl) 41 _ (by rfl) (w.heap.size + 1 + 1) (by rfl) 41 _ (0, 0) _ h18 Try.underlying41 (by rfl) (by rw [hsz]; kernel_rfl) ?_)
    | (refine wpList_store_row (by rfl) 41 _ _ (by rfl) (w.heap.size + 1) A (by rfl) (by rfl) 41 zer19 i18 (by rw [hsz]; kernel_rfl) (by rw [hsz]; rfl) hone ?_))
  refine bodyPost_ret (v := .agg A) (results_cell_one (p := 2) (ty := 41) (by rfl) _ _ (w.heap.size + 1) 41 A (0, 0) _ (by rfl) (heapRowSame _ _ _ _ _ i18) Try.underlying41 rfl (by rw [hsz]; kernel_rfl)) rfl ⟨rfl, ?_⟩
  exact setRow_below b18 (by omega) _
/-- A bench is one. -/
def fiveOk (F : Nat → Int) (n : Nat) : Bool := (List.range n).all fun k => inB 0 127 (F k) && faultB (F (6 + k)) (F (12 + k))
def benchB (F : Nat → Int) : Bool := fiveOk F 6 && inB 0 1000 (F 18)
theorem fiveOk_succ (F : Nat → Int) (k : Nat) : fiveOk F (k + 1) = (fiveOk F k && (inB 0 127 (F k) && faultB (F (6 + k)) (F (12 + k)))) := by simp [fiveOk, List.range_succ]
theorem fiveOk_bad (F : Nat → Int) (k n : Nat) (h : k < n) (hb : (inB 0 127 (F k) && faultB (F (6 + k)) (F (12 + k))) = false) : fiveOk F n = false := by
  unfold fiveOk
  rw [List.all_eq_false]
  exact ⟨k, List.mem_range.2 h, by rw [hb]; simp⟩
theorem box_range {F : Nat → Int} {W : World} {b : Nat} {t : TypeId} (h : W.rowIs b t 19 (fun j => .int .i64 (F j))) : W.rangeAt b 0 (benT F).toList := fun j v hj => by
  have h1 : j < 19 := (List.getElem?_eq_some_iff.1 hj).1
  rw [Array.getElem?_toList, benT_get F j h1] at hj
  rw [h.cell (by omega), Nat.zero_add, hj]
theorem wpList_load_guarded {ops : Array Oper} {rest : List Oper} {op : Oper} {a : Act} {w : World} {Q : Exit → Act → World → Prop} (ty : TypeId) (x : Operand) (ho : op.op = .load ty x)
    (hw : Region.wanted op (yielded ops a.tmps) = true)
    (b o : Nat) (hx : a.eval x = .pointer (some ⟨b, o, none⟩)) (cs : Array Value) (d : TypeDesc) (hc : w.rangeAt b o cs.toList)
    (hu : Try.prog.underlying ty = some d) (hd : d.isRow = true) (hi : (Try.prog.info? ty).map (·.size) = some cs.size)
    (h : wpList Try.prog ops Q rest (a.put op.dst (.agg cs)) w) : wpList Try.prog ops Q (op :: rest) a w := by
  unfold wpList
  rw [if_pos hw]
  exact .inl (wp_load_mid ty x ho b o hx cs.toList d hc hu hd (by rw [hi]; simp) (by simpa using h))
set_option maxHeartbeats 2000000 in
set_option maxRecDepth 100000 in
theorem l12Good_any (F : Nat → Int) (w : World) : Calls Try.prog 53 #[.agg (benT F)] w fun e w' => e = .returned (.bool (benchB F)) ∧ Below w.heap.size w w' := by
  have hr := boxRow F w 41
  have hb := Go.Joins.below_alloc1 w (.cells (benT F) 41)
  have hsz := benT_size F
  have HF := Lib.hid (fun k hk W => l12Fault_any F k hk W)
  unfold benchB
  have hsucc := Lib.hid (fun k => fiveOk_succ F k)
  have hbad := Lib.hid (fun k hk => fiveOk_bad F k 6 hk)
  have h0 : fiveOk F 0 = true := rfl
  have HBL := Lib.hid (fun (W : World) (h : W.rowIs w.heap.size 41 19 (fun j => .int .i64 (F j))) => box_range h)
  generalize benT F = A at *
  obtain ⟨W, hW⟩ : ∃ W, w.alloc (.cells A 41) = W := ⟨_, rfl⟩
  rw [hW] at hr hb
  obtain ⟨q, hq⟩ : ∃ q, fiveOk F 6 = q := ⟨_, rfl⟩
  have HQ := Lib.hid hq
  rw [hq]
  clear hq
  have hA1 := @cellAlloc; have hA2 := @frozenAlloc; have hA3 := @setCellAlloc; go_enter Try.func53, Try.ntmps53
  go_wp2
  clear hW
  go_loopw [3] (fun i wr => ∃ k : Nat, k ≤ 6 ∧ i = .int .i64 k ∧ fiveOk F k = true ∧ wr.rowIs w.heap.size 41 19 (fun j => .int .i64 (F j)) ∧ Below w.heap.size w wr) (fun i _ => 6 - (intOf i).toNat)
  case atStart => exact ⟨0, by omega, rfl, h0, hr, hb⟩
  case round =>
    obtain ⟨k, hk, rfl, hfk, hrr, hbw⟩ := hrel
    have HFK := Lib.hid hfk
    clear hr hb h0 hfk
    by_cases hlt : k < 6
    · have ek := hrr.cell (i := k) (by omega)
      have hs := hsucc.out k
      have hd := hbad.out k hlt
      rw [HFK.out, Bool.true_and] at hs
      have HC := Lib.hid (fun W => HF.out k hlt W)
      generalize F k = x at ek hs hd
      generalize F (6 + k) = d at hs hd HC
      generalize F (12 + k) = l at hs hd HC
      have HS := Lib.hid hs
      have HD := Lib.hid hd
      clear hs hd
      have hc2 : (k : Int) < 6 := by omega
      generalize hx : inB 0 127 x = qx at HS HD
      have HX := Lib.hid hx
      clear hx
      rcases qx with _ | _
      · have HE := Lib.hid (HD.out rfl)
        clear HS HD
        go_wp2_with (first | (go_at_call 44; refine (l2Cell_any _ _).mono ?_; rw [HX.out]; rintro e w' ⟨rfl, rfl⟩))
        go_ret
        exact ⟨ret_bool (by rw [← HQ.out, HE.out]; rfl), hbw⟩
      · have HL := Lib.hid (fun W => l3Fault_any d l W)
        generalize hf : faultB d l = qf at HS HD HL
        clear hf
        rcases qf with _ | _
        · have HE := Lib.hid (HD.out rfl)
          clear HS HD
          have hload := Lib.hid (HBL.out wr hrr)
          go_wp2_with (first
            | (go_at_call 44; refine (l2Cell_any _ _).mono ?_; rw [HX.out]; rintro e w' ⟨rfl, rfl⟩)
            | (refine wpList_load_guarded 41 _ (by rfl) (by rfl) w.heap.size 0 (by rfl) A _ hload.out Try.underlying41 rfl (by rw [hsz]; kernel_rfl) ?_)
            | (go_at_call 72; refine (HC.out _).mono ?_; rintro e w1 ⟨rfl, hb1⟩)
            | (go_at_call 43; refine (HL.out _).mono ?_; rintro e w2 ⟨rfl, hb2⟩))
          go_ret
          exact ⟨ret_bool (by rw [← HQ.out, HE.out]; rfl), belowThen (belowThen hbw hb1) hb2⟩
        · have hload := Lib.hid (HBL.out wr hrr)
          go_wp2_with (first
            | (go_at_call 44; refine (l2Cell_any _ _).mono ?_; rw [HX.out]; rintro e w' ⟨rfl, rfl⟩)
            | (refine wpList_load_guarded 41 _ (by rfl) (by rfl) w.heap.size 0 (by rfl) A _ hload.out Try.underlying41 rfl (by rw [hsz]; kernel_rfl) ?_)
            | (go_at_call 72; refine (HC.out _).mono ?_; rintro e w1 ⟨rfl, hb1⟩)
            | (go_at_call 43; refine (HL.out _).mono ?_; rintro e w2 ⟨rfl, hb2⟩))
          go_roundw
          case rel => exact ⟨k + 1, by omega, by go_num, HS.out, (hrr.of_block (hb1.block _ hrr.lt)).of_block (hb2.block _ (by have := hrr.lt; have := hb1.size; omega)), belowThen (belowThen hbw hb1) hb2⟩
          case measure => simp [intOf]; omega
    · have hk6 : k = 6 := by omega
      subst hk6
      have e18 := hrr.cell (i := 18) (by omega)
      have hQ : q = true := by rw [← HQ.out, HFK.out]
      subst hQ
      go_wp2_with (first | (go_at_call 71; refine (l1In_any _ _ _ _).mono ?_; rintro e w' ⟨rfl, rfl⟩))
      go_ret
      exact ⟨rfl, hbw⟩
end Go.Proofs.Ytfjgleimdaailaa
