/- Joined texts: ScrE, EqA, Pairs, PairsP. -/
import Derived.Test.YtfdmcnnjifggnaaDoorMg14
import Derived.Lib.Hide
import Derived.Test.YtfdmcnnjifggnaaDoorMg01
import Derived.Deep.QuietTactic
import Derived.BigQuiet
import Derived.Test.YtfdmcnnjifggnaaDoorMg07
import Derived.Deep.RegionHeld3
import Derived.Test.YtfdmcnnjifggnaaDoorMg03
import Derived.Test.YtfdmcnnjifggnaaDoorMg13
namespace Go.Proofs.YtfdmcnnjifggnaaDoor
open Go.RowKit

theorem scrR_ok (s : ByteArray) (K : Nat) : ∀ i, (scrR (rowW s) K i).length = K ∧ ∀ x ∈ scrR (rowW s) K i, inB 0 127 x = true := fun i => by
  refine ⟨scrP_length _ _ _ _, fun x hx => ?_⟩
  unfold scrR scrP at hx
  obtain ⟨p, hp, rfl⟩ := List.mem_map.1 hx
  split
  · rw [List.getD_eq_getElem?_getD]
    cases h : (rowW s)[((p : Int) - ((K : Int) - 1 - i)).toNat]? with
    | none => rfl
    | some y => exact rowW_mem s y (List.mem_of_getElem? h)
  · rfl
def schZ (s : ByteArray) (k : Int) : Int := if scrB s k = true then ((sumZ (rowsZ (scrR (rowW s) k.toNat) (scrM s.size k.toNat) k.toNat) k.toNat (scrM s.size k.toNat + 1) : Nat) : Int) else 0
theorem scrB_parts {s : ByteArray} {k : Int} (h : scrB s k = true) : 1 ≤ k.toNat ∧ k.toNat ≤ 6 ∧ s.size ≤ 12 ∧ allIn s = true ∧ (k.toNat : Int) = k ∧ scrM s.size k.toNat ≤ 17 ∧ wordB s 12 = true ∧ inB 1 6 k = true := by
  have h0 := h
  simp only [scrB, wordB, Bool.and_eq_true, decide_eq_true_eq, inB_iff] at h
  have h2 : wordB s 12 = true ∧ inB 1 6 k = true := by simpa [scrB] using h0
  refine ⟨by omega, by omega, h.1.1, h.1.2, by omega, ?_, h2⟩
  unfold scrM
  split <;> omega
set_option maxHeartbeats 1000000 in
theorem ScrollChangesS_all (s : ByteArray) (k : Int) (hs : s.size ≤ maxLen) (w : World) : Calls Tryd.prog 17 #[.string s, .int .i64 k] w fun e w' => e = .returned (.tuple #[.int .i64 (schZ s k), .bool (scrB s k)]) ∧ Below w.heap.size w w' := by
  by_cases hq : scrB s k = true
  · obtain ⟨a1, a2, a3, a4, a5, a6, a7, a8⟩ := scrB_parts hq
    have h := ScrollChangesS_any s k hs k.toNat (scrM s.size k.toNat) (scrR (rowW s) k.toNat) a5 a1 a2 w (Lib.hid fun W => l10Scroll_any s k.toNat a1 a2 a3 a4 W) (Lib.hid fun W => by have := l10Word_any s 12 (by omega) hs W; rw [a7] at this; exact this) (Lib.hid (by rw [a5]; exact a8)) a6 (scrR_ok s _)
    rw [a5] at h
    unfold schZ
    rw [if_pos hq, hq]
    exact h
  · have HW := Lib.hid (fun W => l10Word_any s 12 (by omega) hs W)
    unfold schZ
    rw [if_neg hq]
    rw [Bool.not_eq_true] at hq
    rw [hq]
    unfold scrB at hq
    generalize hq1 : wordB s 12 = q1 at *
    generalize hq2 : inB 1 6 k = q2 at *
    clear hq1
    have H2 := Lib.hid hq2
    clear hq2
    rcases q1 with _ | _
    · clear hq
      have hA1 := @cellAlloc; have hA2 := @frozenAlloc; have hA3 := @setCellAlloc; go_enter Tryd.func17, Tryd.ntmps17
      go_wp2_with (first | (go_at_call 41; refine (HW.out _).mono ?_; rintro e w' ⟨rfl, rfl⟩))
      go_ret2
      exact ⟨rfl, by (repeat (first | assumption | exact Below.refl _ _ | refine belowThen ?_ (Go.Joins.below_alloc1 _ _) | apply Below.drew | refine belowThen ?_ (by assumption) | refine belowThen ?_ (Go.Joins.below_draws _ _ _) | refine Below.setCell ?_ (by first | exact Nat.le_refl _ | (simp; done) | (simp; omega)) _))⟩
    rcases q2 with _ | _
    · clear hq
      have hA1 := @cellAlloc; have hA2 := @frozenAlloc; have hA3 := @setCellAlloc; go_enter Tryd.func17, Tryd.ntmps17
      go_wp2_with (first | (go_at_call 41; refine (HW.out _).mono ?_; rintro e w' ⟨rfl, rfl⟩) | (go_at_call 36; refine (l1In_any _ _ _ _).mono ?_; rw [H2.out]; rintro e w' ⟨rfl, rfl⟩))
      go_ret2
      exact ⟨rfl, by (repeat (first | assumption | exact Below.refl _ _ | refine belowThen ?_ (Go.Joins.below_alloc1 _ _) | apply Below.drew | refine belowThen ?_ (by assumption) | refine belowThen ?_ (Go.Joins.below_draws _ _ _) | refine Below.setCell ?_ (by first | exact Nat.le_refl _ | (simp; done) | (simp; omega)) _))⟩
    · cases hq
set_option maxHeartbeats 1000000 in
theorem ScrollChangesI_all (s : ByteArray) (k : Int) (hs : s.size ≤ maxLen) (w : World) : Calls Tryd.prog 16 #[.string s, .int .i64 k] w fun e w' => e = .returned (.tuple #[.int .i64 (schZ s k), .bool (scrB s k)]) ∧ Below w.heap.size w w' := by
  have HW0 := Lib.hid (fun W => isScroll_any s k hs W)
  by_cases hq : scrB s k = true
  · obtain ⟨a1, a2, a3, a4, a5, a6, a7, a8⟩ := scrB_parts hq
    have HW := HW0.out
    rw [hq, ← a5] at HW
    have HScr : ∀ W, Calls Tryd.prog 40 #[.string s, .int .i64 k.toNat] W fun e w' => ∃ ao cap gs, e = .returned (.slice ao (scrM s.size k.toNat) cap) ∧ scr w' W.heap.size (.slice ao (scrM s.size k.toNat) cap) (scrM s.size k.toNat) k.toNat gs (scrR (rowW s) k.toNat) ∧ (scrM s.size k.toNat = 0 → Value.slice ao (scrM s.size k.toNat) cap = .slice none 0 0) ∧ Below W.heap.size W w' := fun W => by
      by_cases h0 : s.size = 0
      · have hM : scrM s.size k.toNat = 0 := by unfold scrM; rw [if_pos h0]
        rw [hM]
        exact (scroll_nil s k.toNat h0 W).mono fun e w' ⟨he, hw⟩ => ⟨none, 0, fun _ => 0, he, scr_nil _ _ _ _ _, fun _ => rfl, by rw [← hw]; exact Below.refl _ _⟩
      · have hM : scrM s.size k.toNat ≠ 0 := by unfold scrM; rw [if_neg h0]; omega
        exact (scroll_any s k.toNat a1 a2 a3 a4 W).mono fun e w' ⟨ao, cap, gs, he, hs, hb⟩ => ⟨ao, cap, gs, he, hs, fun h => absurd h hM, hb⟩
    have h := ScrollChangesI_any s k.toNat (scrM s.size k.toNat) (scrR (rowW s) k.toNat) a1 a2 w (Lib.hid HScr) (Lib.hid HW) a6 (scrR_ok s _)
    rw [a5] at h
    unfold schZ
    rw [if_pos hq, hq]
    exact h
  · unfold schZ
    rw [if_neg hq]
    rw [Bool.not_eq_true] at hq
    rw [hq] at HW0
    rw [hq]
    have hA1 := @cellAlloc; have hA2 := @frozenAlloc; have hA3 := @setCellAlloc; go_enter Tryd.func16, Tryd.ntmps16
    go_wp2_with (first | (go_at_call 39; refine (HW0.out _).mono ?_; rintro e w1 ⟨rfl, hb1⟩))
    go_ret2
    exact ⟨rfl, hb1⟩
end Go.Proofs.YtfdmcnnjifggnaaDoor

namespace Go.Proofs.YtfdmcnnjifggnaaDoor
open Go.RowKit
end Go.Proofs.YtfdmcnnjifggnaaDoor

namespace Go.Proofs.YtfdmcnnjifggnaaDoor
open Go.RowKit

theorem infoPair : (Tryd.prog.info? 65).map (fun i => (i.zero, i.size, i.bytes)) = some (some (.agg #[.int .i64 0, .int .i64 0]), 2, 16) := by kernel_rfl
/-- The slice value v owns a row of n pairs, the numbers F one behind the other. -/
def ownsPairs (w : World) (B : Nat) (v : Value) (n : Nat) (F : List Int) : Prop := ownsG w B 65 2 v n (F.map (Value.int .i64))
theorem ownsPairs_nil (w : World) (B : Nat) : ownsPairs w B (.slice none 0 0) 0 [] := .inl (World.ownsRow_nil w B _ _)
theorem ownsPairs_zero (w : World) (B : Nat) (a : Addr) : ownsPairs w B (.slice (some a) 0 0) 0 [] := .inr ⟨rfl, rfl, a, rfl⟩
theorem ownsPairs_len {w : World} {B : Nat} {v : Value} {n : Nat} {F : List Int} (h : ownsPairs w B v n F) : F.length = n * 2 := by have := ownsG_len h; simpa using this
theorem ownsPairs_below {w w' : World} {B C : Nat} {v : Value} {n : Nat} {F : List Int} (h : ownsPairs w B v n F) (hb : Below w.heap.size w w') (hC : C ≤ B) : ownsPairs w' C v n F := ownsG_below h hb hC
theorem ownsPairs_shape {w : World} {B : Nat} {v : Value} {n : Nat} {F : List Int} (h : ownsPairs w B v n F) : ∃ ao cap, v = .slice ao n cap ∧
    (n = 0 ∨ ∃ g, ao = some ⟨g, 0, none⟩ ∧ B ≤ g ∧ g < w.heap.size ∧ n ≤ cap ∧ (∀ j, j < n * 2 → w.cell? ⟨g, j, none⟩ = some (.int .i64 (F.getD j 0))) ∧ ∀ j, w.frozen? ⟨g, j, none⟩ = false) := by
  have hl := ownsPairs_len h
  obtain ⟨ao, cap, rfl, ⟨hn, _⟩ | ⟨g, rfl, hb, hg, hc, hcell, hf, _⟩⟩ := ownsG_shape h
  · exact ⟨ao, cap, rfl, .inl hn⟩
  · refine ⟨_, cap, rfl, .inr ⟨g, rfl, hb, hg, hc, fun j hj => ?_, hf⟩⟩
    rw [hcell j hj]
    simp [show j < F.length by omega]
theorem RdI_pairs {w : World} {B : Nat} {ao : Option Addr} {n cap : Nat} {F : List Int} (h : ownsPairs w B (.slice ao n cap) n F) : RdI w ao F := by
  have hl := ownsPairs_len h
  obtain ⟨ao', cap', he, h0 | ⟨g, rfl, _, hlt, _, hc, _⟩⟩ := ownsPairs_shape h
  · subst h0; exact .inl (List.eq_nil_of_length_eq_zero (by omega))
  · simp only [Value.slice.injEq] at he
    obtain ⟨rfl, _, _⟩ := he
    exact .inr ⟨g, 0, rfl, hlt, fun j hj => by simpa using hc j (by omega)⟩
theorem ownsPairs_set {w : World} {B g n cap : Nat} {F : List Int} (h : ownsPairs w B (.slice (some ⟨g, 0, none⟩) n cap) n F) (j : Nat) (z : Int) :
    ownsPairs (w.setCell ⟨g, j, none⟩ (.int .i64 z)) B (.slice (some ⟨g, 0, none⟩) n cap) n (F.set j z) := by
  rcases h with h | ⟨h0, h1, a, h2⟩
  · have := (World.ownsRow.stored h j (.int .i64 z)).1
    refine .inl ?_
    simpa [List.map_set] using this
  · have : F = [] := List.map_eq_nil_iff.1 h1
    subst this
    exact .inr ⟨h0, rfl, a, h2⟩
/-- append of one pair to a slice of the call's own. -/
theorem wpAppendPair {ops : Array Oper} {rest : List Oper} {o : Oper} {a : Act} {Q : Exit → Act → World → Prop} (w : World) (hgd : o.guard = none) (s x : Operand)
    (ho : o.op = .call { callee := .builtin .append, args := #[s, x], argTypes := #[63, 63] })
    (B : Nat) (v : Value) (n : Nat) (F : List Int) (hs : a.eval s = v) (hown : ownsPairs w B v n F) (z1 z2 : Int) (t' : TypeId) (hx : a.eval x = .slice (some ⟨w.heap.size, 0, none⟩) 1 1)
    (hn : n ≤ 1000000000) (hB : B ≤ w.heap.size)
    (h : ∀ ao cap w', ownsPairs w' B (.slice ao (n + 1) cap) (n + 1) (F ++ [z1, z2]) → Below B w w' → wpList Tryd.prog ops Q rest (a.put o.dst (.slice ao (n + 1) cap)) w') :
    wpList Tryd.prog ops Q (o :: rest) a (w.alloc (.cells #[.int .i64 z1, .int .i64 z2] t')) :=
  wpAppendG w hgd s x _ _ (.agg #[.int .i64 0, .int .i64 0]) 2 16 ho Tryd.underlying63 infoPair rfl (by decide) (by decide) B v n _ hs hown [.int .i64 z1, .int .i64 z2] _ hx rfl (by simp [Value.oneCell']) hn hB
    fun ao cap w' h2 hb _ => h ao cap w' (by unfold ownsPairs; simpa using h2) hb

theorem keep4 {wr W w2 : World} {b1 o1 b2 o2 : Nat} {x1 y1 x2 y2 : Option Value} (hB1 : b1 < wr.heap.size) (hB2 : b2 < wr.heap.size)
    (h : W.cell? ⟨b1, o1, none⟩ = x1 ∧ W.cell? ⟨b1, o1 + 1, none⟩ = y1 ∧ W.cell? ⟨b2, o2, none⟩ = x2 ∧ W.cell? ⟨b2, o2 + 1, none⟩ = y2 ∧ Below wr.heap.size wr W) (hb : Below W.heap.size W w2) :
    w2.cell? ⟨b1, o1, none⟩ = x1 ∧ w2.cell? ⟨b1, o1 + 1, none⟩ = y1 ∧ w2.cell? ⟨b2, o2, none⟩ = x2 ∧ w2.cell? ⟨b2, o2 + 1, none⟩ = y2 ∧ Below wr.heap.size wr w2 := by
  have hs := h.2.2.2.2.size
  have k1 : b1 < W.heap.size := by omega
  have k2 : b2 < W.heap.size := by omega
  exact ⟨(hb.cell (p := ⟨b1, o1, none⟩) k1).trans h.1, (hb.cell (p := ⟨b1, o1 + 1, none⟩) k1).trans h.2.1, (hb.cell (p := ⟨b2, o2, none⟩) k2).trans h.2.2.1, (hb.cell (p := ⟨b2, o2 + 1, none⟩) k2).trans h.2.2.2.1, belowThen h.2.2.2.2 hb⟩
end Go.Proofs.YtfdmcnnjifggnaaDoor

namespace Go.Proofs.YtfdmcnnjifggnaaDoor
open Go.RowKit

/-- The pairs of places ahead of the pair (i, k), of n places. -/
def prs (n i k : Nat) : List (Nat × Nat) := ((List.range i).flatMap fun a => (List.range' (a + 1) (n - (a + 1))).map (Prod.mk a)) ++ (List.range' (i + 1) (k - (i + 1))).map (Prod.mk i)
theorem prs_zero (n : Nat) : prs n 0 1 = [] := rfl
theorem prs_step (n i k : Nat) (h : i < k) : prs n i (k + 1) = prs n i k ++ [(i, k)] := by
  unfold prs
  rw [show k + 1 - (i + 1) = (k - (i + 1)) + 1 by omega, List.range'_concat, List.map_append, List.append_assoc]
  simp
  omega
theorem prs_turn (n i : Nat) (h : i < n) : prs n i n = prs n (i + 1) (i + 2) := by
  unfold prs
  rw [List.range_succ, List.flatMap_append, show i + 2 - (i + 1 + 1) = 0 by omega]
  simp
theorem prs_end (n : Nat) : prs n n (n + 1) = (List.range n).flatMap fun a => (List.range' (a + 1) (n - (a + 1))).map (Prod.mk a) := by
  unfold prs
  simp
/-- Pairs as flat numbers. -/
def flat (l : List (Nat × Nat)) : List Int := l.flatMap fun x => [(x.1 : Int), (x.2 : Int)]
theorem flat_append (l : List (Nat × Nat)) (i k : Nat) : flat (l ++ [(i, k)]) = flat l ++ [(i : Int), (k : Int)] := by simp [flat]
theorem flat_length (l : List (Nat × Nat)) : (flat l).length = l.length * 2 := by
  induction l with
  | nil => rfl
  | cons x l ih => simp [flat] at ih ⊢; omega
theorem flat_at (l : List (Nat × Nat)) (j : Nat) (h : j < l.length) : (flat l).getD (j * 2) 0 = ((l.getD j (0, 0)).1 : Int) ∧ (flat l).getD (j * 2 + 1) 0 = ((l.getD j (0, 0)).2 : Int) := by
  induction l generalizing j with
  | nil => simp at h
  | cons x l ih =>
    cases j with
    | zero => exact ⟨rfl, rfl⟩
    | succ j =>
      have := ih j (by simpa using h)
      rw [show (j + 1) * 2 = j * 2 + 2 by omega]
      exact this
/-- The pairs that are taken ahead of (i, k). -/
def prsQ (q : Nat → Nat → Bool) (n i k : Nat) : List (Nat × Nat) := (prs n i k).filter fun x => q x.1 x.2
theorem prsQ_step (q : Nat → Nat → Bool) (n i k : Nat) (h : i < k) : prsQ q n i (k + 1) = if q i k = true then prsQ q n i k ++ [(i, k)] else prsQ q n i k := by
  unfold prsQ
  rw [prs_step n i k h, List.filter_append]
  by_cases hq : q i k = true
  · rw [if_pos hq]; simp [hq]
  · rw [if_neg hq]; simp [hq]
theorem prsQ_turn (q : Nat → Nat → Bool) (n i : Nat) (h : i < n) : prsQ q n i n = prsQ q n (i + 1) (i + 2) := by
  unfold prsQ
  rw [prs_turn n i h]
theorem prs_length (n i k : Nat) (hi : i ≤ n) (hk : k ≤ n + 1) : (prs n i k).length ≤ (i + 1) * n := by
  unfold prs
  rw [List.length_append, List.length_map, List.length_range']
  have h1 : ((List.range i).flatMap fun a => (List.range' (a + 1) (n - (a + 1))).map (Prod.mk a)).length ≤ i * n := by
    clear hi hk k
    induction i with
    | zero => simp
    | succ i ih =>
      rw [List.range_succ, List.flatMap_append, List.length_append, Nat.succ_mul]
      have : (List.flatMap (fun a => (List.range' (a + 1) (n - (a + 1))).map (Prod.mk a)) [i]).length ≤ n := by simp
      omega
  rw [Nat.succ_mul]
  omega
/-- A distance of two cells. -/
def dist (C : Nat → Nat) (i k : Nat) : Nat := cnt (C i ^^^ C k)
theorem dist_le (C : Nat → Nat) (i k : Nat) : dist C i k ≤ 7 := cnt_le _
set_option maxHeartbeats 1600000 in
theorem pairs_any (C : Nat → Nat) (p : Nat → Bool) (K : Nat) (c0 : Value) (b o n cap : Nat) (w : World) (hC : ∀ k, C k < 128) (hn : n ≤ 100) (hb : b < w.heap.size) (hc : ∀ j, j < n → w.cell? ⟨b, o + j, none⟩ = some (.int .i64 (C j)))
    (hK : Enters K) (hf : ∀ (d : Nat) (W : World), d ≤ 7 → Below w.heap.size w W → Calls Tryd.prog K #[.int .i64 d, c0] W fun e w' => e = .returned (.bool (p d)) ∧ W = w') :
    Calls Tryd.prog 47 #[.slice (some ⟨b, o, none⟩) n cap, .func (.func K) #[] #[c0]] w fun e w' => ∃ ao cap', e = .returned (.slice ao (prsQ (fun i k => p (dist C i k)) n n (n + 1)).length cap') ∧
      ownsPairs w' w.heap.size (.slice ao (prsQ (fun i k => p (dist C i k)) n n (n + 1)).length cap') (prsQ (fun i k => p (dist C i k)) n n (n + 1)).length (flat (prsQ (fun i k => p (dist C i k)) n n (n + 1))) ∧ Below w.heap.size w w' := by
  have HCl := Lib.hid hC
  have HCe := Lib.hid hc
  have HF := Lib.hid hf
  have HSt := Lib.hid (fun i k h => prsQ_step (fun i k => p (dist C i k)) n i k h)
  have HTu := Lib.hid (fun i h => prsQ_turn (fun i k => p (dist C i k)) n i h)
  have HLe := Lib.hid (fun i k h1 h2 => by
    have h3 := Nat.le_trans (List.length_filter_le (fun x : Nat × Nat => p (dist C x.1 x.2)) (prs n i k)) (prs_length n i k h1 h2)
    have h4 : (i + 1) * n ≤ 101 * 100 := Nat.mul_le_mul (by omega) hn
    exact (Nat.le_trans h3 h4 : (prsQ (fun i k => p (dist C i k)) n i k).length ≤ 101 * 100))
  have H0 : Hid (prsQ (fun i k => p (dist C i k)) n 0 1 = []) := Lib.hid rfl
  generalize prsQ (fun i k => p (dist C i k)) n = R at *
  clear hC hc hf
  unfold Enters at hK
  have hA1 := @cellAlloc; have hA2 := @frozenAlloc; have hA3 := @setCellAlloc; go_enter Tryd.func47, Tryd.ntmps47
  go_wp2
  go_loopw [5, 11] (fun v i wr => ∃ k : Nat, k ≤ n ∧ i = .int .i64 k ∧ ownsPairs wr w.heap.size v (R k (k + 1)).length (flat (R k (k + 1))) ∧ Below w.heap.size w wr) (fun _ i _ => n - (intOf i).toNat)
  case atStart => exact ⟨0, by omega, rfl, by rw [H0.out]; exact ownsPairs_nil _ _, Below.refl _ _⟩
  case round =>
    obtain ⟨i, hi, rfl, hown, hbw⟩ := hrel
    by_cases hlt : i < n
    · have hx := (hbw.cell (p := ⟨b, o + i, none⟩) hb).trans (HCe.out i hlt)
      have hCi := HCl.out i
      obtain ⟨wo, hwo⟩ : ∃ wo, wo = wr := ⟨_, rfl⟩
      subst hwo
      have hd : decide (i < n) = true := by simpa using hlt
      have HO := Lib.hid hown
      clear hown
      go_wp2
      go_loopw [5, 8] (fun v j wr => ∃ k : Nat, i < k ∧ k ≤ n ∧ j = .int .i64 k ∧ ownsPairs wr w.heap.size v (R i k).length (flat (R i k)) ∧ Below w.heap.size w wr) (fun _ j _ => n - (intOf j).toNat)
      case atStart => exact ⟨i + 1, by omega, by omega, by go_num, HO.out, hbw⟩
      case round =>
        obtain ⟨k, hik, hk, rfl, hown, hbv⟩ := hrel
        by_cases hlk : k < n
        · have hy := (hbv.cell (p := ⟨b, o + k, none⟩) hb).trans (HCe.out k hlk)
          have hCk := HCl.out k
          have hxo := xor64 (C i) (C k) (by omega) (by omega)
          have hxl := xor_lt (C i) (C k) hCi hCk
          have HCo := Lib.hid (fun W => count_any (C i ^^^ C k) hxl W)
          have HP := Lib.hid (fun W h => HF.out (cnt (C i ^^^ C k)) W (cnt_le _) h)
          have hst := HSt.out i k hik
          have hll := HLe.out i k hi (by omega)
          generalize hD : dist C i k = D at hst
          unfold dist at hD
          rw [hD] at HCo HP
          clear hD
          generalize (C i ^^^ C k) = X at hxo HCo hxl
          generalize hp : p D = c at HP hst
          clear hp
          have HS := Lib.hid hst
          clear hst
          have hsw := hbv.size
          rcases c with _ | _
          · go_wp2_with (first | (go_at_call 62; refine (HCo.out _).mono ?_; rintro e w' ⟨rfl, rfl⟩) | (refine (HP.out _ hbv).mono ?_; rintro e w' ⟨rfl, rfl⟩))
            go_roundw
            case rel => exact ⟨k + 1, by omega, by omega, by go_num, by rw [HS.out, if_neg (by decide)]; exact hown, hbv⟩
            case measure => simp [intOf]; omega
          · go_wp2_with (first | (go_at_call 62; refine (HCo.out _).mono ?_; rintro e w' ⟨rfl, rfl⟩) | (refine (HP.out _ hbv).mono ?_; rintro e w' ⟨rfl, rfl⟩) | (at_builtin; refine wpAppendPair wr (by rfl) _ _ (by rfl) w.heap.size _ _ _ (by rfl) hown (i : Int) (k : Int) _ (by rfl) (by omega) hsw ?_; intro co cc w4 hv4 hb4))
            go_roundw
            case rel => exact ⟨k + 1, by omega, by omega, by go_num, by rw [HS.out, if_pos trivial, flat_append, List.length_append]; exact hv4, hbv.trans hb4⟩
            case measure => simp [intOf]; omega
        · have hkn : k = n := by omega
          subst hkn
          go_wp2
          go_roundw
          case rel => exact ⟨i + 1, by omega, by go_num, by rw [← HTu.out i hlt]; exact hown, hbv⟩
          case measure => simp [intOf]; omega
    · have hin : i = n := by omega
      subst hin
      obtain ⟨co, cc, rfl, -⟩ := ownsPairs_shape hown
      go_wp2
      go_ret
      exact ⟨co, cc, rfl, hown, hbw⟩
theorem enters_gap : Enters 64 := fun _ _ => by simp [go_sem, Tryd.func64]
theorem gap1_any (d far g : Nat) (W : World) (hg : W.cell? ⟨g, 0, none⟩ = some (.int .i64 far)) : Calls Tryd.prog 64 #[.int .i64 d, .pointer (some ⟨g, 0, none⟩)] W fun e w' => e = .returned (.bool (d == far)) ∧ W = w' := by
  have he : ((d : Int) == (far : Int)) = (d == far) := by rw [Bool.eq_iff_iff]; simp only [beq_iff_eq]; omega
  have HE := Lib.hid he
  clear he
  go_enter Tryd.func64, Tryd.ntmps64
  go_wp2
  go_ret
  exact ⟨ret_bool (by first | exact HE.out | (rw [← HE.out]; rfl) | simp), rfl⟩
set_option maxHeartbeats 1600000 in
theorem gap_any (C : Nat → Nat) (G b o n cap : Nat) (w : World) (hC : ∀ k, C k < 128) (hn : n ≤ 100) (hb : b < w.heap.size) (hc : ∀ j, j < n → w.cell? ⟨b, o + j, none⟩ = some (.int .i64 (C j))) (hG1 : 1 ≤ G) (hG7 : G ≤ 7)
    (hno : ∀ d, 1 ≤ d → d < G → prsQ (fun i k => dist C i k == d) n n (n + 1) = []) (hyes : prsQ (fun i k => dist C i k == G) n n (n + 1) ≠ []) :
    Calls Tryd.prog 46 #[.slice (some ⟨b, o, none⟩) n cap] w fun e w' => e = .returned (.int .i64 G) ∧ Below w.heap.size w w' := by
  have HC := Lib.hid hC
  have HCe := Lib.hid hc
  have HP := Lib.hid (fun (far g : Nat) (W : World) (hbW : Below w.heap.size w W) (hg : W.cell? ⟨g, 0, none⟩ = some (.int .i64 far)) (hgl : g < W.heap.size) => pairs_any C (fun d => d == far) 64 (.pointer (some ⟨g, 0, none⟩)) b o n cap W hC hn (by have := hbW.size; omega) (fun j hj => (hbW.cell (p := ⟨b, o + j, none⟩) hb).trans (hc j hj)) enters_gap
    (fun d W2 _ h2 => gap1_any d far g W2 ((h2.cell (p := ⟨g, 0, none⟩) hgl).trans hg)))
  have HNo := Lib.hid hno
  have HY := Lib.hid hyes
  clear hC hc hno hyes
  have hA1 := @cellAlloc; have hA2 := @frozenAlloc; have hA3 := @setCellAlloc; go_enter Tryd.func46, Tryd.ntmps46
  go_wp2
  go_loopw [3] (fun v wr => ∃ far g : Nat, 1 ≤ far ∧ far ≤ G ∧ v = .pointer (some ⟨g, 0, none⟩) ∧ w.heap.size ≤ g ∧ g < wr.heap.size ∧ wr.cell? ⟨g, 0, none⟩ = some (.int .i64 far) ∧ wr.frozen? ⟨g, 0, none⟩ = false ∧ Below w.heap.size w wr) (fun v wr => 8 - (match v with | .pointer (some a) => (match wr.cell? a with | some u => (intOf u).toNat | none => 0) | _ => 0))
  case atStart => exact ⟨1, w.heap.size, by omega, hG1, rfl, Nat.le_refl _, by simp, by rw [World.cell?_alloc_at _ _ _ _ rfl]; rfl, World.frozen?_alloc_at _ _ _ _ rfl, by (repeat (first | assumption | exact Below.refl _ _ | refine belowThen ?_ (Go.Joins.below_alloc1 _ _) | apply Below.drew | refine belowThen ?_ (by assumption) | refine belowThen ?_ (Go.Joins.below_draws _ _ _) | refine Below.setCell ?_ (by first | exact Nat.le_refl _ | (simp; done) | (simp; omega)) _))⟩
  case round =>
    obtain ⟨far, g, h1, hfG, rfl, hwg, hg, hcell, hfr, hbw⟩ := hrel
    have hP := HP.out far g wr hbw hcell hg
    by_cases hlt : far < G
    · rw [HNo.out far h1 hlt] at hP
      have HP2 := Lib.hid hP
      clear hP
      go_wp2_with (first | (go_at_call 47; refine HP2.out.mono ?_; rintro e w2 ⟨ao, ca, rfl, -, hb2⟩; have hcell2 := (hb2.cell (p := ⟨g, 0, none⟩) hg).trans hcell; have hfr2 := (hb2.frozen (p := ⟨g, 0, none⟩) hg).trans hfr; have hs2 := hb2.size))
      go_roundw
      case rel => exact ⟨far + 1, w2.heap.size, by omega, by omega, rfl, by omega, by simp, by rw [World.cell?_alloc_at _ _ _ _ rfl]; rfl, World.frozen?_alloc_at _ _ _ _ rfl, belowThen (belowThen hbw hb2) (Go.Joins.below_alloc1 _ _)⟩
      case measure =>
        have h2 : (w2.alloc (Obj.cells #[Value.int IntKind.i64 (↑far + 1)] 3)).cell? ⟨w2.heap.size, 0, none⟩ = some (.int .i64 (far + 1)) := by rw [World.cell?_alloc_at _ _ _ _ rfl]; rfl
        simp only [hcell, h2, intOf]
        omega
    · have hfe : far = G := by omega
      subst hfe
      have hy := HY.out
      generalize prsQ (fun i k => dist C i k == far) n n (n + 1) = R at hP hy
      have hl : 0 < R.length := List.length_pos_iff.2 hy
      have HP2 := Lib.hid hP
      clear hP
      go_wp2_with (first | (go_at_call 47; refine HP2.out.mono ?_; rintro e w2 ⟨ao, ca, rfl, -, hb2⟩; have hcell2 := (hb2.cell (p := ⟨g, 0, none⟩) hg).trans hcell; have hfr2 := (hb2.frozen (p := ⟨g, 0, none⟩) hg).trans hfr; have hs2 := hb2.size))
      go_ret
      exact ⟨rfl, belowThen hbw hb2⟩
end Go.Proofs.YtfdmcnnjifggnaaDoor
