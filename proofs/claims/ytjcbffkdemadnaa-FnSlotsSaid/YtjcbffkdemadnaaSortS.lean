/- The program's sorting of Slots. -/
import Derived.Test.YtjcbffkdemadnaaSlot
import Derived.Test.YtjcbffkdemadnaaLtS
import Derived.Shelf.SlSortCmp.NoneTotal
import Derived.Shelf.Lay
import Derived.Ground.SlsfProg
import Derived.Lib.Hide
import Derived.Deep.RegionHeld3
namespace Go.Proofs
open Go.Shelf Go.RowKit Go.Lib Go.Sort
shelf_lay_g SlLaysF0.n6 Slsf 6 at Try 33 as Try.sortSl
end Go.Proofs
namespace Go.Proofs.Ytjcbffkdemadnaa
open Go.RowKit Go.Sort

/-- The world has grown by blocks and draws alone. -/
def Grows (w w' : World) : Prop := ∃ q os, w' = grow (w.drewN q) os
theorem Grows_refl (w : World) : Grows w w := ⟨0, #[], by simp [grow, World.drewN]⟩
theorem Grows_drew {w a : World} (h : Grows w a) : Grows w a.drew := by
  obtain ⟨q, os, rfl⟩ := h
  exact ⟨q + 1, os, by simp [grow, World.drewN, World.drew]; omega⟩
theorem Grows_drewN {w a : World} (h : Grows w a) (n : Nat) : Grows w (a.drewN n) := by
  obtain ⟨q, os, rfl⟩ := h
  exact ⟨q + n, os, by simp [grow, World.drewN]; omega⟩
theorem Grows_alloc {w a : World} (h : Grows w a) (o : Obj) : Grows w (a.alloc o) := by
  obtain ⟨q, os, rfl⟩ := h
  exact ⟨q, os ++ #[o], by rw [alloc_eq_grow, grow_grow]⟩
def cmpI (x y : Int) : Int := if x < y then -1 else if y < x then 1 else 0
/-- How two Slots compare. -/
def cmpS (x y : Int × Int) : Int := if cmpI x.1 y.1 ≠ 0 then cmpI x.1 y.1 else cmpI x.2 y.2
theorem ltOf_cmpS : ltOf cmpS = ltS := by
  funext x y
  unfold ltOf cmpS cmpI ltS
  by_cases h1 : x.1 < y.1
  · simp [h1]
  · by_cases h2 : y.1 < x.1
    · have : x.1 ≠ y.1 := by omega
      simp [h1, h2, this]
    · have : x.1 = y.1 := by omega
      by_cases h3 : x.2 < y.2
      · simp [h1, h2, h3, this]
      · by_cases h4 : y.2 < x.2 <;> simp [h1, h2, h3, h4, this]
theorem swoS : SWO (ltOf cmpS) where
  irrefl x := by rw [ltOf_cmpS, Bool.eq_false_iff, ne_eq, ltS_iff]; omega
  trans x y z h1 h2 := by rw [ltOf_cmpS, ltS_iff] at *; omega
  ntrans x y z h1 h2 := by rw [ltOf_cmpS, Bool.eq_false_iff, ne_eq, ltS_iff] at *; omega
theorem totS (x y : Int × Int) (h1 : ltOf cmpS x y = false) (h2 : ltOf cmpS y x = false) : x = y := by
  rw [ltOf_cmpS, Bool.eq_false_iff, ne_eq, ltS_iff] at *
  exact Prod.ext (by omega) (by omega)
theorem isNaN_any (x : Int) (w : World) : Calls Try.prog 59 #[.int .i64 x] w fun e w' => e = .returned (.bool false) ∧ w = w' := by
  go_enter Try.func59, Try.ntmps59
  go_wp2
  go_ret
  exact ⟨ret_bool (by simp), rfl⟩
theorem Compare_any (x y : Int) (w : World) : Calls Try.prog 36 #[.int .i64 x, .int .i64 y] w fun e w' => e = .returned (.int .i64 (cmpI x y)) ∧ w = w' := by
  unfold cmpI
  by_cases h1 : x < y
  · rw [if_pos h1]
    have d1 : decide (x < y) = true := decide_eq_true h1
    go_enter Try.func36, Try.ntmps36
    go_wp2_with (go_at_call 59; refine (isNaN_any _ _).mono ?_; rintro e w1 ⟨rfl, rfl⟩)
    go_ret
    exact ⟨rfl, rfl⟩
  · rw [if_neg h1]
    have d1 : decide (x < y) = false := decide_eq_false h1
    by_cases h2 : y < x
    · rw [if_pos h2]
      have d2 : decide (y < x) = true := decide_eq_true h2
      go_enter Try.func36, Try.ntmps36
      go_wp2_with (go_at_call 59; refine (isNaN_any _ _).mono ?_; rintro e w1 ⟨rfl, rfl⟩)
      go_ret
      exact ⟨rfl, rfl⟩
    · rw [if_neg h2]
      have d2 : decide (y < x) = false := decide_eq_false h2
      go_enter Try.func36, Try.ntmps36
      go_wp2_with (go_at_call 59; refine (isNaN_any _ _).mono ?_; rintro e w1 ⟨rfl, rfl⟩)
      go_ret
      exact ⟨rfl, rfl⟩
set_option maxHeartbeats 800000 in
theorem Or_any (g : Nat) (a b : Int) (w : World) (h0 : w.cell? ⟨g, 0, none⟩ = some (.int .i64 a)) (h1 : w.cell? ⟨g, 1, none⟩ = some (.int .i64 b)) :
    Calls Try.prog 35 #[.slice (some ⟨g, 0, none⟩) 2 2] w fun e w' => e = .returned (.int .i64 (if a ≠ 0 then a else b)) ∧ w = w' := by
  by_cases ha : a ≠ 0
  · rw [if_pos ha]
    have hne : (a != 0) = true := by simpa using ha
    go_enter Try.func35, Try.ntmps35
    go_wp2
    refine wp_loop_rounds 1 ?_
    rw [rounds_succ]
    go_wp2
    go_ret
    exact ⟨rfl, rfl⟩
  · rw [if_neg ha]
    have ha0 : a = 0 := by omega
    subst ha0
    by_cases hb : b = 0
    · subst hb
      go_enter Try.func35, Try.ntmps35
      go_wp2
      refine wp_loop_rounds 3 ?_
      rw [rounds_succ]
      go_wp2
      rw [rounds_succ]
      go_wp2
      rw [rounds_succ]
      go_wp2
      go_ret
      exact ⟨rfl, rfl⟩
    · have hne : (b != 0) = true := by simpa using hb
      go_enter Try.func35, Try.ntmps35
      go_wp2
      refine wp_loop_rounds 2 ?_
      rw [rounds_succ]
      go_wp2
      rw [rounds_succ]
      go_wp2
      go_ret
      exact ⟨rfl, rfl⟩
theorem keepB {W0 W : World} {b1 b2 : Nat} {x1 y1 x2 y2 : Option Value} (h : W.cell? ⟨b1, 0, none⟩ = x1 ∧ W.cell? ⟨b1, 1, none⟩ = y1 ∧ W.cell? ⟨b2, 0, none⟩ = x2 ∧ W.cell? ⟨b2, 1, none⟩ = y2 ∧ b1 < W.heap.size ∧ b2 < W.heap.size ∧ Grows W0 W) (o : Obj) :
    (W.alloc o).cell? ⟨b1, 0, none⟩ = x1 ∧ (W.alloc o).cell? ⟨b1, 1, none⟩ = y1 ∧ (W.alloc o).cell? ⟨b2, 0, none⟩ = x2 ∧ (W.alloc o).cell? ⟨b2, 1, none⟩ = y2 ∧ b1 < (W.alloc o).heap.size ∧ b2 < (W.alloc o).heap.size ∧ Grows W0 (W.alloc o) := by
  obtain ⟨h1, h2, h3, h4, h5, h6, h7⟩ := h
  refine ⟨?_, ?_, ?_, ?_, by simp; omega, by simp; omega, Grows_alloc h7 o⟩
  · rw [World.cell?_alloc_past _ _ _ h5]; exact h1
  · rw [World.cell?_alloc_past _ _ _ h5]; exact h2
  · rw [World.cell?_alloc_past _ _ _ h6]; exact h3
  · rw [World.cell?_alloc_past _ _ _ h6]; exact h4
theorem keepD {W0 W : World} {b1 b2 : Nat} {x1 y1 x2 y2 : Option Value} (h : W.cell? ⟨b1, 0, none⟩ = x1 ∧ W.cell? ⟨b1, 1, none⟩ = y1 ∧ W.cell? ⟨b2, 0, none⟩ = x2 ∧ W.cell? ⟨b2, 1, none⟩ = y2 ∧ b1 < W.heap.size ∧ b2 < W.heap.size ∧ Grows W0 W) :
    W.drew.cell? ⟨b1, 0, none⟩ = x1 ∧ W.drew.cell? ⟨b1, 1, none⟩ = y1 ∧ W.drew.cell? ⟨b2, 0, none⟩ = x2 ∧ W.drew.cell? ⟨b2, 1, none⟩ = y2 ∧ b1 < W.drew.heap.size ∧ b2 < W.drew.heap.size ∧ Grows W0 W.drew :=
  ⟨h.1, h.2.1, h.2.2.1, h.2.2.2.1, h.2.2.2.2.1, h.2.2.2.2.2.1, Grows_drew h.2.2.2.2.2.2⟩
set_option maxHeartbeats 400000 in
theorem cmpFn_any (x y : Int × Int) (w : World) : Calls Try.prog 34 #[.agg #[.int .i64 x.1, .int .i64 x.2], .agg #[.int .i64 y.1, .int .i64 y.2]] w
    fun e w' => e = .returned (.int .i64 (cmpS x y)) ∧ Grows w w' := by
  obtain ⟨x0, x1⟩ := x
  obtain ⟨y0, y1⟩ := y
  unfold cmpS
  simp only
  have C1 := Lib.hid (fun W => Compare_any x0 y0 W)
  have C2 := Lib.hid (fun W => Compare_any x1 y1 W)
  generalize cmpI x0 y0 = c1 at *
  generalize cmpI x1 y1 = c2 at *
  have HO := Lib.hid (fun g W h0 h1 => Or_any g c1 c2 W h0 h1)
  generalize (if c1 ≠ 0 then c1 else c2) = c3 at *
  obtain ⟨B, hB⟩ : ∃ B, w.heap.size = B := ⟨_, rfl⟩
  obtain ⟨W0, hW0⟩ : ∃ W0, (w.alloc (.cells #[.int .i64 x0, .int .i64 x1] 48)).alloc (.cells #[.int .i64 y0, .int .i64 y1] 48) = W0 := ⟨_, rfl⟩
  have k0 : W0.cell? ⟨B, 0, none⟩ = some (.int .i64 x0) ∧ W0.cell? ⟨B, 1, none⟩ = some (.int .i64 x1) ∧ W0.cell? ⟨B + 1, 0, none⟩ = some (.int .i64 y0) ∧ W0.cell? ⟨B + 1, 1, none⟩ = some (.int .i64 y1) ∧ B < W0.heap.size ∧ B + 1 < W0.heap.size ∧ Grows w W0 := by
    subst hW0 hB
    refine ⟨?_, ?_, ?_, ?_, by simp; omega, by simp, Grows_alloc (Grows_alloc (Grows_refl _) _) _⟩
    · rw [World.cell?_alloc_past _ _ _ (by simp), World.cell?_alloc_at _ _ _ _ rfl]; rfl
    · rw [World.cell?_alloc_past _ _ _ (by simp), World.cell?_alloc_at _ _ _ _ rfl]; rfl
    · rw [World.cell?_alloc_at _ _ _ _ (by simp)]; rfl
    · rw [World.cell?_alloc_at _ _ _ _ (by simp)]; rfl
  have k1 : W0.drew.cell? ⟨B, 0, none⟩ = some (.int .i64 x0) ∧ W0.drew.cell? ⟨B, 1, none⟩ = some (.int .i64 x1) ∧ W0.drew.cell? ⟨B + 1, 0, none⟩ = some (.int .i64 y0) ∧ W0.drew.cell? ⟨B + 1, 1, none⟩ = some (.int .i64 y1) ∧ B < W0.drew.heap.size ∧ B + 1 < W0.drew.heap.size ∧ Grows w W0.drew := ⟨k0.1, k0.2.1, k0.2.2.1, k0.2.2.2.1, k0.2.2.2.2.1, k0.2.2.2.2.2.1, Grows_drew k0.2.2.2.2.2.2⟩
  have HW := Lib.hid hW0
  have HB := Lib.hid hB
  clear hW0 hB
  have t1 : True := trivial
  go_enter Try.func34, Try.ntmps34
  go_wp2_with fail
  rw [HB.out, HW.out]
  go_region_held3 (fun W => W.cell? ⟨B, 0, none⟩ = some (.int .i64 x0) ∧ W.cell? ⟨B, 1, none⟩ = some (.int .i64 x1) ∧ W.cell? ⟨B + 1, 0, none⟩ = some (.int .i64 y0) ∧ W.cell? ⟨B + 1, 1, none⟩ = some (.int .i64 y1) ∧ B < W.heap.size ∧ B + 1 < W.heap.size ∧ Grows w W)
    (first | (with_reducible assumption) | (with_reducible exact k1) | (with_reducible exact keepD (keepB k0 _)) | (with_reducible exact keepB k0 _))
    (first | (go_at_call 36; clear t1; refine (C1.out _).mono ?_; rintro e w2 ⟨rfl, rfl⟩) | (go_at_call 36; refine (C2.out _).mono ?_; rintro e w2 ⟨rfl, rfl⟩) | (go_at_call 35; refine (HO.out _ _ (by simp [cellAlloc]) (by simp [cellAlloc])).mono ?_; rintro e w2 ⟨rfl, rfl⟩))
  all_goals
    rename_i hH
    have hG := hH.2.2.2.2.2.2
    clear hH
    go_wp2
    go_ret
    exact ⟨rfl, hG⟩
theorem grownBy_sortS {w : World} {g n : Nat} {os : Array Obj} (d : Array Value) : w.grownBy (grow (putRow id (Sort.ahead w n) g 0 d) os) (some g) := by
  refine ⟨rfl, rfl, rfl, by simp, fun k hk hne => ?_⟩
  rw [heap_grow_old _ _ (by simpa using hk)]
  have : g ≠ k := fun e => hne (by rw [e])
  simp [putRow, mapBlock, Sort.ahead, Array.getElem?_modify, this]
theorem enters_cmp : ∀ (args : Array Value) (W : World), (callFunc 34 args).run Try.prog W = .ok (.enter 34 args) W := fun _ _ => by simp [go_sem, Try.func34]
theorem SortFuncS_any (B g n cap : Nat) (l : List (Int × Int)) (w : World) (ho : ownsS w B (.slice (some ⟨g, 0, none⟩) n cap) l) (hn : l.length = n) (hm : n ≤ 1000000) :
    Calls Try.prog 33 #[.slice (some ⟨g, 0, none⟩) n cap, .func (.func 34) #[] #[]] w fun e w' => e = .returned (.tuple #[]) ∧ RdS w' (some ⟨g, 0, none⟩) (sortS l) ∧ Below B w w' := by
  subst hn
  by_cases h0 : l.length = 0
  · have hl := List.eq_nil_of_length_eq_zero h0
    subst hl
    refine (AnyF.slices_SortFunc_none { Try.sortSl with } _ cap _ w).mono ?_
    rintro e w' ⟨rfl, rfl⟩
    exact ⟨rfl, .inl (by simp [sortS]), Below.refl _ _⟩
  have hat := fun k hk => ownsS_at ho k hk
  have hgl := (hat 0 (by omega)).2.2.2.2
  have hH : HoldsK encS 2 w g 0 l.toArray := by
    intro t ht
    rw [size_flatK] at ht
    rw [get_flatK _ _ _ t ht]
    have ht2 : t < l.length * 2 := by simpa using ht
    obtain ⟨c0, c1, f0, f1, _⟩ := hat (t / 2) (by omega)
    have hd : l.toArray[t / 2]! = l.getD (t / 2) (0, 0) := by
      rw [getElem!_pos _ _ (by simp; omega)]
      simp [show t / 2 < l.length by omega]
    rw [hd, Nat.zero_add]
    rcases Nat.mod_two_eq_zero_or_one t with h | h
    · rw [h]
      rw [show t / 2 * 2 = t by omega] at c0 f0
      exact ⟨c0, f0⟩
    · rw [h]
      rw [show t / 2 * 2 + 1 = t by omega] at c1 f1
      exact ⟨c1, f1⟩
  have hcon := AnyQ.slices_SortFunc_total Try.sortSl 2 Try.isAgg48 Try.sizeOf48 encS (fun _ => rfl) (fun x v hv => by simp [encS] at hv; rcases hv with rfl | rfl <;> rfl) cmpS swoS 34 #[] g 0 cap l.toArray w enters_cmp (fun _ _ _ _ x y => cmpFn_any x y _) hH hgl.2 (by simp; omega) totS
  rw [show l.toArray.size = l.length by simp] at hcon
  refine hcon.mono ?_
  rintro e w' ⟨rfl, n', os, rfl⟩
  have hd : (l.mergeSort fun x y => !ltOf cmpS y x) = sortS l := by rw [ltOf_cmpS]; rfl
  refine ⟨rfl, ?_⟩
  simp only [hd]
  have hsz : (sortS l).toArray.size = l.toArray.size := by simp [sortS_length]
  have hh : HoldsK encS 2 (sortWorldK encS 2 w g 0 n' (sortS l).toArray os) g 0 (sortS l).toArray := by
    unfold sortWorldK
    refine holdsK_grow _ _ _ _ _ _ _ (by simp [putRowK, Sort.ahead]; exact hgl.2) ?_
    exact holdsK_putRowK _ _ _ _ _ _ _ (holdsK_ahead _ _ _ _ _ _ _ hH) hsz
  refine ⟨.inr ⟨g, 0, rfl, ?_, fun j hj => ?_⟩, (Below.refl B w).grown (grownBy_sortS _) (Nat.le_trans hgl.1 (Nat.le_of_lt hgl.2)) (fun k hk => by cases hk; exact hgl.1)⟩
  · unfold sortWorldK
    simp [putRowK, Sort.ahead, grow]
    have := hgl.2
    omega
  · have k0 := (HoldsK.cell hh (i := j) (c := 0) (by simpa using hj) (by omega)).1
    have k1 := (HoldsK.cell hh (i := j) (c := 1) (by simpa using hj) (by omega)).1
    have hdj : (sortS l).toArray[j]! = (sortS l).getD j (0, 0) := by
      rw [getElem!_pos _ _ (by simpa using hj)]
      simp [hj]
    rw [hdj] at k0 k1
    exact ⟨k0, k1⟩
end Go.Proofs.Ytjcbffkdemadnaa
