/- Contracts of the functions that count the changes between two words. -/
import Derived.Test.YtfdmcnnjifggnabGreatDoorWLit
import Derived.Test.YtfdmcnnjifggnabGreatDoorApp2
import Derived.Test.YtfdmcnnjifggnabGreatDoorClone
import Derived.Test.YtfdmcnnjifggnabGreatDoorPad
import Derived.Lib.Hide
namespace Go.Proofs.YtfdmcnnjifggnabGreatDoor
open Go.RowKit

/-- The changes in the first k cells. -/
def chP (A B : List Int) : Nat → Nat
  | 0 => 0
  | k + 1 => chP A B k + cnt ((A.getD k 0).toNat ^^^ (B.getD k 0).toNat)
theorem chP_le (A B : List Int) (k : Nat) : chP A B k ≤ 7 * k := by
  induction k with
  | zero => exact Nat.le_refl _
  | succ k ih => have := cnt_le ((A.getD k 0).toNat ^^^ (B.getD k 0).toNat); unfold chP; omega
theorem chP_congr {A A' B B' : List Int} (hA : ∀ j, A.getD j 0 = A'.getD j 0) (hB : ∀ j, B.getD j 0 = B'.getD j 0) (k : Nat) : chP A B k = chP A' B' k := by
  induction k with
  | zero => rfl
  | succ k ih => unfold chP; rw [ih, hA, hB]
theorem getD_zeros (L : List Int) (m j : Nat) : (L ++ List.replicate m 0).getD j 0 = L.getD j 0 := by
  simp only [List.getD_eq_getElem?_getD]
  by_cases h : j < L.length
  · rw [List.getElem?_append_left h]
  · rw [List.getElem?_append_right (by omega), List.getElem?_eq_none (by omega : L.length ≤ j), List.getElem?_replicate]
    split <;> rfl
theorem chP_more (A B : List Int) (k m : Nat) (hA : A.length ≤ k) (hB : B.length ≤ k) : chP A B (k + m) = chP A B k := by
  induction m with
  | zero => rfl
  | succ m ih =>
    have h1 : A.getD (k + m) 0 = 0 := by rw [List.getD_eq_getElem?_getD, List.getElem?_eq_none (by omega)]; rfl
    have h2 : B.getD (k + m) 0 = 0 := by rw [List.getD_eq_getElem?_getD, List.getElem?_eq_none (by omega)]; rfl
    show chP A B (k + m) + cnt ((A.getD (k + m) 0).toNat ^^^ (B.getD (k + m) 0).toNat) = _
    rw [ih, h1, h2]
    rfl
set_option maxHeartbeats 800000 in
theorem changes_any (ao bo : Option Addr) (n ca m cb : Nat) (A B : List Int) (w : World) (hA : RdI w ao A) (hB : RdI w bo B) (hn : A.length = n) (hm : B.length = m) (hnm : n ≤ m) (h6 : m ≤ 1000) (hcA : ∀ x ∈ A, inB 0 127 x = true) (hcB : ∀ x ∈ B, inB 0 127 x = true) :
    Calls Tryz.prog 71 #[.slice ao n ca, .slice bo m cb] w fun e w' => e = .returned (.int .i64 (chP A B n)) ∧ w = w' := by
  have HN := Lib.hid hn
  have HM := Lib.hid hm
  have HA := Lib.hid hcA
  have HB := Lib.hid hcB
  clear hcA hcB hn hm
  go_enter Tryz.func71, Tryz.ntmps71
  go_wp2
  go_loop [5, 10] (fun s i => ∃ k : Nat, k ≤ n ∧ i = .int .i64 k ∧ s = .int .i64 (chP A B k)) (fun _ i => n - (intOf i).toNat)
  case atStart => exact ⟨0, by omega, rfl, rfl⟩
  case round =>
    obtain ⟨k, hk, rfl, rfl⟩ := hrel
    have hlp := chP_le A B k
    by_cases hlt : k < n
    · rcases hA with h | ⟨b1, o1, rfl, hb1, hc1⟩
      · have := HN.out; rw [h] at this; simp at this; omega
      rcases hB with h | ⟨b2, o2, rfl, hb2, hc2⟩
      · have := HM.out; rw [h] at this; simp at this; omega
      have hx := hc1 k (by rw [HN.out]; omega)
      have hy := hc2 k (by rw [HM.out]; omega)
      obtain ⟨c, hc, hcl⟩ := cellNat (HA.out _ (memGetD (by rw [HN.out]; omega : k < A.length)))
      obtain ⟨d, hd, hdl⟩ := cellNat (HB.out _ (memGetD (by rw [HM.out]; omega : k < B.length)))
      have hsucc : chP A B (k + 1) = chP A B k + cnt ((A.getD k 0).toNat ^^^ (B.getD k 0).toNat) := rfl
      rw [hc, hd, Int.toNat_natCast, Int.toNat_natCast] at hsucc
      rw [hc] at hx
      rw [hd] at hy
      have hxx := xor64 c d (by omega) (by omega)
      have hxl := xor_lt c d hcl hdl
      have HC := Lib.hid (fun W => count_any (c ^^^ d) hxl W)
      have hcnt := cnt_le (c ^^^ d)
      generalize cnt (c ^^^ d) = y at hsucc hcnt HC
      generalize c ^^^ d = z at hxx hxl HC
      generalize chP A B k = S at hsucc hlp ⊢
      have HS := Lib.hid hsucc
      clear hsucc hc1 hc2 hc hd
      go_wp2_with (first | (go_at_call 68; refine (HC.out _).mono ?_; rintro e w' ⟨rfl, rfl⟩))
      go_round
      case rel => exact ⟨k + 1, by omega, by go_num, by rw [HS.out]; go_num⟩
      case measure => simp [intOf]; omega
    · have hkn : k = n := by omega
      subst hkn
      go_wp2
      go_ret
      exact ⟨rfl, rfl⟩
set_option maxHeartbeats 800000 in
theorem l4Changes_any (ao bo : Option Addr) (n ca m cb : Nat) (A B : List Int) (w : World) (hA : RdI w ao A) (hB : RdI w bo B) (hn : A.length = n) (hm : B.length = m) (hnm : n ≤ m) (h6 : m ≤ 1000) (hcA : ∀ x ∈ A, inB 0 127 x = true) (hcB : ∀ x ∈ B, inB 0 127 x = true) :
    Calls Tryz.prog 73 #[.slice ao n ca, .slice bo m cb] w fun e w' => e = .returned (.int .i64 (chP A B n)) ∧ Below w.heap.size w w' := by
  have HN := Lib.hid hn
  have HM := Lib.hid hm
  have HA := Lib.hid hcA
  have HB := Lib.hid hcB
  clear hcA hcB hn hm
  go_enter Tryz.func73, Tryz.ntmps73
  go_wp2
  go_loopw [5, 6] (fun s i wr => ∃ k : Nat, k ≤ n ∧ i = .int .i64 k ∧ s = .int .i64 (chP A B k) ∧ Below w.heap.size w wr) (fun _ i _ => n - (intOf i).toNat)
  case atStart => exact ⟨0, by omega, rfl, rfl, Below.refl _ _⟩
  case round =>
    obtain ⟨k, hk, rfl, rfl, hbw⟩ := hrel
    have hlp := chP_le A B k
    by_cases hlt : k < n
    · rcases RdI_below hA hbw with h | ⟨b1, o1, rfl, hb1, hc1⟩
      · have := HN.out; rw [h] at this; simp at this; omega
      rcases RdI_below hB hbw with h | ⟨b2, o2, rfl, hb2, hc2⟩
      · have := HM.out; rw [h] at this; simp at this; omega
      have hx := hc1 k (by rw [HN.out]; omega)
      have hy := hc2 k (by rw [HM.out]; omega)
      obtain ⟨c, hc, hcl⟩ := cellNat (HA.out _ (memGetD (by rw [HN.out]; omega : k < A.length)))
      obtain ⟨d, hd, hdl⟩ := cellNat (HB.out _ (memGetD (by rw [HM.out]; omega : k < B.length)))
      have hsucc : chP A B (k + 1) = chP A B k + cnt ((A.getD k 0).toNat ^^^ (B.getD k 0).toNat) := rfl
      rw [hc, hd, Int.toNat_natCast, Int.toNat_natCast] at hsucc
      rw [hc] at hx
      rw [hd] at hy
      have HC := Lib.hid (fun W => l2Far_any c d hcl hdl W)
      have hcnt := cnt_le (c ^^^ d)
      generalize cnt (c ^^^ d) = y at hsucc hcnt HC
      generalize chP A B k = S at hsucc hlp ⊢
      have HS := Lib.hid hsucc
      have hki : (k : Int) < (n : Int) := by omega
      have hkm : (k : Int) < (m : Int) := by omega
      clear hsucc hc1 hc2 hc hd
      go_wp2_with fail
      go_quiet ((go_at_call 99; exact quietL (HC.out _)))
      go_wp2
      go_roundw
      case rel => exact ⟨k + 1, by omega, by go_num, by rw [HS.out]; go_num, hbw.trans (Go.Joins.below_draws _ _ _)⟩
      case measure => simp [intOf]; omega
    · have hkn : k = n := by omega
      subst hkn
      go_wp2
      go_ret
      exact ⟨rfl, hbw⟩
set_option maxHeartbeats 800000 in
theorem padded_any (ao : Option Addr) (n ca m : Nat) (L : List Int) (w : World) (hr : RdI w ao L) (hn : L.length = n) (hm : n ≤ m) (h6 : m ≤ 6) :
    Calls Tryz.prog 72 #[.slice ao n ca, .int .i64 m] w fun e w' => ∃ ao' c, e = .returned (.slice ao' m c) ∧ ownsInts w' w.heap.size (.slice ao' m c) (L ++ List.replicate (m - n) 0) ∧ Below w.heap.size w w' := by
  have HC := Lib.hid (CloneN_any ao n ca L w hr hn (by omega))
  have HN := Lib.hid hn
  have hw : IntKind.i64.wrap ((m : Int) - (n : Int)) = ((m - n : Nat) : Int) := by rw [IntWalk.i64_in _ (by omega)]; omega
  clear hr hn
  have hA1 := @cellAlloc; have hA2 := @frozenAlloc; have hA3 := @setCellAlloc; go_enter Tryz.func72, Tryz.ntmps72
  go_wp2_with (first | (go_at_call 98; refine HC.out.mono ?_; rintro e w1 ⟨co, cc, rfl, hown, hb1⟩) | (at_builtin; go_must (refine wpAppendZeros w1 (by rfl) _ _ (by rfl) w.heap.size _ n (m - n) L (by rfl) hown HN.out (by rfl) (by omega) hb1.size ?_; intro ao2 c2 w2 hown2 hb2)))
  go_ret
  rw [show n + (m - n) = m by omega] at hown2
  exact ⟨ao2, c2, rfl, hown2, hb1.trans hb2⟩
def lenV : Value → Nat
  | .slice _ n _ => n
  | _ => 0
/-- The changes between two words. -/
def wchB (a b : ByteArray) : Bool := wordB a 6 && wordB b 6
def wchZ (a b : ByteArray) : Int := if wchB a b = true then ((chP (rowW a) (rowW b) 6 : Nat) : Int) else 0
theorem zerosMem {L : List Int} {m : Nat} (h : ∀ x ∈ L, inB 0 127 x = true) : ∀ x ∈ L ++ List.replicate m 0, inB 0 127 x = true := by
  intro x hx
  rw [List.mem_append] at hx
  rcases hx with hx | hx
  · exact h x hx
  · rw [List.eq_of_mem_replicate hx]; decide
set_option maxHeartbeats 800000 in
theorem WordChangesI_any (a b : ByteArray) (ha : a.size ≤ maxLen) (hb : b.size ≤ maxLen) (w : World) :
    Calls Tryz.prog 32 #[.string a, .string b] w fun e w' => e = .returned (.tuple #[.int .i64 (wchZ a b), .bool (wchB a b)]) ∧ Below w.heap.size w w' := by
  have HA := Lib.hid (fun W => isShort_any a W ha)
  have HB := Lib.hid (fun W => isShort_any b W hb)
  have hallA := wordB_all (s := a) (m := 6)
  have hallB := wordB_all (s := b) (m := 6)
  have tA : True := trivial
  unfold wchZ wchB
  generalize wordB a 6 = qa at HA hallA ⊢
  generalize wordB b 6 = qb at HB hallB ⊢
  rcases qa with _ | _
  · rw [Bool.false_and, if_neg (by decide)]
    clear hallA hallB
    have hA1 := @cellAlloc; have hA2 := @frozenAlloc; have hA3 := @setCellAlloc; go_enter Tryz.func32, Tryz.ntmps32
    go_wp2_with (first | (go_at_call 35; refine (HA.out _).mono ?_; rintro e w1 ⟨rfl, hb1⟩))
    go_ret2
    exact ⟨rfl, hb1⟩
  · rcases qb with _ | _
    · rw [Bool.and_false, if_neg (by decide)]
      clear hallA hallB
      have hA1 := @cellAlloc; have hA2 := @frozenAlloc; have hA3 := @setCellAlloc; go_enter Tryz.func32, Tryz.ntmps32
      go_wp2_with (first | (go_at_call 35; clear tA; refine (HA.out _).mono ?_; rintro e w1 ⟨rfl, hb1⟩) | (go_at_call 35; refine (HB.out _).mono ?_; rintro e w2 ⟨rfl, hb2⟩))
      go_ret2
      exact ⟨rfl, belowThen hb1 hb2⟩
    · rw [Bool.and_true, if_pos rfl]
      have hA := hallA rfl
      have hB := hallB rfl
      have hlA := rowW_length a
      have hlB := rowW_length b
      have hmA := rowW_mem a
      have hmB := rowW_mem b
      have HRA := Lib.hid (fun W => rowOfWord_any a (by omega) hA.1 W)
      have HRB := Lib.hid (fun W => rowOfWord_any b (by omega) hB.1 W)
      generalize rowW a = LA at hlA hmA HRA ⊢
      generalize rowW b = LB at hlB hmB HRB ⊢
      have hl1 : LA.length ≤ 6 := by omega
      have hl2 : LB.length ≤ 6 := by omega
      have HPA := Lib.hid (fun ao ca W h => padded_any ao LA.length ca 6 LA W h rfl hl1 (by decide))
      have HPB := Lib.hid (fun ao ca W h => padded_any ao LB.length ca 6 LB W h rfl hl2 (by decide))
      have HC := Lib.hid (fun ao bo ca cb W h1 h2 => by have h := changes_any ao bo 6 ca 6 cb (LA ++ List.replicate (6 - LA.length) 0) (LB ++ List.replicate (6 - LB.length) 0) W h1 h2 (by simp; omega) (by simp; omega) (by decide) (by decide) (zerosMem hmA) (zerosMem hmB); rw [chP_congr (getD_zeros LA _) (getD_zeros LB _)] at h; exact h : ∀ (ao bo : Option Addr) (ca cb : Nat) (W : World), RdI W ao (LA ++ List.replicate (6 - LA.length) 0) → RdI W bo (LB ++ List.replicate (6 - LB.length) 0) → Calls Tryz.prog 71 #[.slice ao 6 ca, .slice bo 6 cb] W fun e w' => e = .returned (.int .i64 (chP LA LB 6)) ∧ W = w')
      generalize LA ++ List.replicate (6 - LA.length) 0 = PA at HPA HC
      generalize LB ++ List.replicate (6 - LB.length) 0 = PB at HPB HC
      generalize chP LA LB 6 = z at HC ⊢
      have tB : True := trivial
      have tC : True := trivial
      clear hallA hallB hA hB hmA hmB hlA hlB
      have hA1 := @cellAlloc; have hA2 := @frozenAlloc; have hA3 := @setCellAlloc; go_enter Tryz.func32, Tryz.ntmps32
      go_wp2_with (first | (go_at_call 35; clear tA; refine (HA.out _).mono ?_; rintro e w1 ⟨rfl, hb1⟩) | (go_at_call 35; refine (HB.out _).mono ?_; rintro e w2 ⟨rfl, hb2⟩) | (go_at_call 36; clear tB; refine (HRA.out _).mono ?_; rintro e w3 ⟨ao3, ca3, rfl, ho3, hb3⟩) | (go_at_call 72; clear tC; refine (HPA.out _ _ _ (RdI_owns ho3)).mono ?_; rintro e w4 ⟨ao4, ca4, rfl, ho4, hb4⟩) | (go_at_call 36; refine (HRB.out _).mono ?_; rintro e w5 ⟨ao5, ca5, rfl, ho5, hb5⟩) | (go_at_call 72; refine (HPB.out _ _ _ (RdI_owns ho5)).mono ?_; rintro e w6 ⟨ao6, ca6, rfl, ho6, hb6⟩) | (go_at_call 71; refine (HC.out _ _ _ _ _ (RdI_below (RdI_below (RdI_owns ho4) hb5) hb6) (RdI_owns ho6)).mono ?_; rintro e w' ⟨rfl, rfl⟩))
      go_ret2
      exact ⟨rfl, by (repeat (first | assumption | exact Below.refl _ _ | refine belowThen ?_ (Go.Joins.below_alloc1 _ _) | apply Below.drew | refine belowThen ?_ (by assumption) | refine belowThen ?_ (Go.Joins.below_draws _ _ _) | refine Below.setCell ?_ (by first | exact Nat.le_refl _ | (simp; done) | (simp; omega)) _))⟩
set_option maxHeartbeats 1600000 in
theorem WordChangesS_any (a b : ByteArray) (ha : a.size ≤ maxLen) (hb : b.size ≤ maxLen) (w : World) :
    Calls Tryz.prog 33 #[.string a, .string b] w fun e w' => e = .returned (.tuple #[.int .i64 (wchZ a b), .bool (wchB a b)]) ∧ Below w.heap.size w w' := by
  have HA := Lib.hid (fun W => l10Word_any a 6 (by decide) ha W)
  have HB := Lib.hid (fun W => l10Word_any b 6 (by decide) hb W)
  have hallA := wordB_all (s := a) (m := 6)
  have hallB := wordB_all (s := b) (m := 6)
  have tA : True := trivial
  unfold wchZ wchB
  generalize wordB a 6 = qa at HA hallA ⊢
  generalize wordB b 6 = qb at HB hallB ⊢
  rcases qa with _ | _
  · rw [Bool.false_and, if_neg (by decide)]
    clear hallA hallB
    have hA1 := @cellAlloc; have hA2 := @frozenAlloc; have hA3 := @setCellAlloc; go_enter Tryz.func33, Tryz.ntmps33
    go_wp2_with (first | (go_at_call 37; refine (HA.out _).mono ?_; rintro e w' ⟨rfl, rfl⟩))
    go_ret2
    exact ⟨rfl, Below.refl _ _⟩
  · rcases qb with _ | _
    · rw [Bool.and_false, if_neg (by decide)]
      clear hallA hallB
      have hA1 := @cellAlloc; have hA2 := @frozenAlloc; have hA3 := @setCellAlloc; go_enter Tryz.func33, Tryz.ntmps33
      go_wp2_with (first | (go_at_call 37; clear tA; refine (HA.out _).mono ?_; rintro e w' ⟨rfl, rfl⟩) | (go_at_call 37; refine (HB.out _).mono ?_; rintro e w' ⟨rfl, rfl⟩))
      go_ret2
      exact ⟨rfl, Below.refl _ _⟩
    · rw [Bool.and_true, if_pos rfl]
      have hA := hallA rfl
      have hB := hallB rfl
      have hlA := rowW_length a
      have hlB := rowW_length b
      have hmA := rowW_mem a
      have hmB := rowW_mem b
      have HRA := Lib.hid (fun W => l10Row_any a (by omega) hA.1 W)
      have HRB := Lib.hid (fun W => l10Row_any b (by omega) hB.1 W)
      generalize rowW a = LA at hlA hmA HRA ⊢
      generalize rowW b = LB at hlB hmB HRB ⊢
      have hl1 : LA.length ≤ 6 := by omega
      have hl2 : LB.length ≤ 6 := by omega
      have HC := Lib.hid (fun ao bo n ca cb i j W h1 h2 (hi : LA.length + i = n) (hj : LB.length + j = n) (hn : n ≤ 6) => by have h := l4Changes_any ao bo n ca n cb (LA ++ List.replicate i 0) (LB ++ List.replicate j 0) W h1 h2 (by simp; omega) (by simp; omega) (Nat.le_refl _) (by omega) (zerosMem hmA) (zerosMem hmB); rw [chP_congr (getD_zeros LA _) (getD_zeros LB _), ← chP_more LA LB n (6 - n) (by omega) (by omega), show n + (6 - n) = 6 by omega] at h; exact h : ∀ (ao bo : Option Addr) (n ca cb i j : Nat) (W : World), RdI W ao (LA ++ List.replicate i 0) → RdI W bo (LB ++ List.replicate j 0) → LA.length + i = n → LB.length + j = n → n ≤ 6 → Calls Tryz.prog 73 #[.slice ao n ca, .slice bo n cb] W fun e w' => e = .returned (.int .i64 (chP LA LB 6)) ∧ Below W.heap.size W w')
      generalize chP LA LB 6 = z at HC ⊢
      have tB : True := trivial
      have hrep : ∀ i : Nat, (LA ++ List.replicate (i + 1) 0) = (LA ++ List.replicate i 0) ++ [0] := fun i => by rw [List.append_assoc, ← List.replicate_succ']
      have hrepB : ∀ i : Nat, (LB ++ List.replicate (i + 1) 0) = (LB ++ List.replicate i 0) ++ [0] := fun i => by rw [List.append_assoc, ← List.replicate_succ']
      have hlenA : ∀ i : Nat, (LA ++ List.replicate i 0).length = LA.length + i := fun i => by simp
      have hlenB : ∀ i : Nat, (LB ++ List.replicate i 0).length = LB.length + i := fun i => by simp
      have HRep := Lib.hid (And.intro hrep hrepB)
      have HLen := Lib.hid (And.intro hlenA hlenB)
      clear hallA hallB hA hB hmA hmB hlA hlB hrep hrepB hlenA hlenB
      have hA1 := @cellAlloc; have hA2 := @frozenAlloc; have hA3 := @setCellAlloc; go_enter Tryz.func33, Tryz.ntmps33
      go_wp2_with (first | (go_at_call 37; clear tA; refine (HA.out _).mono ?_; rintro e w' ⟨rfl, rfl⟩) | (go_at_call 37; refine (HB.out _).mono ?_; rintro e w' ⟨rfl, rfl⟩) | (go_at_call 38; clear tB; refine (HRA.out _).mono ?_; rintro e w3 ⟨ao3, ca3, rfl, ho3, hb3⟩) | (go_at_call 38; refine (HRB.out _).mono ?_; rintro e w5 ⟨ao5, ca5, rfl, ho5, hb5⟩))
      have hO := ownI2_mk ho3 hb5 ho5 hb3.size
      have hbw := belowThen hb3 hb5
      clear ho3 ho5 hb3 hb5
      go_loopw [6] (fun v wr => ∃ i : Nat, (i = 0 ∨ LA.length + i ≤ LB.length) ∧ ownI2 wr w.heap.size v (LA ++ List.replicate i 0) (.slice ao5 LB.length ca5) LB ∧ (∃ ao ca, v = .slice ao (LA.length + i) ca) ∧ Below w.heap.size w wr) (fun v _ => LB.length - lenV v)
      case atStart => exact ⟨0, .inl rfl, by simpa using hO, ⟨_, _, rfl⟩, hbw⟩
      case round =>
        obtain ⟨i, hi, hO, ⟨ao, ca, rfl⟩, hbw⟩ := hrel
        by_cases hlt : LA.length + i < LB.length
        · have hd : decide (((LA.length + i : Nat) : Int) < (LB.length : Int)) = true := by simp; omega
          have hd2 : (LA.length : Int) + (i : Int) < (LB.length : Int) := by omega
          have hl := HLen.out.1 i
          go_wp2_with (first | (at_builtin; go_must (refine wpAppendInt2 wr (by rfl) _ _ (by rfl) w.heap.size _ (LA ++ List.replicate i 0) (by rfl) hO.1 0 (by rfl) (by omega) hbw.size ?_; intro ao7 ca7 w7 hown7 hb7 hkeep7 hnew7)))
          have hO7 := ownI2_a hO hown7 hb7.size hkeep7 hnew7
          rw [← HRep.out.1, hl] at hO7
          go_roundw
          case rel => exact ⟨i + 1, .inr (by omega), hO7, ⟨_, _, rfl⟩, hbw.trans hb7⟩
          case measure => simp only [lenV]; omega
        · have hd : decide (((LA.length + i : Nat) : Int) < (LB.length : Int)) = false := by simp; omega
          have hd2 : ¬ (LA.length : Int) + (i : Int) < (LB.length : Int) := by omega
          have hi2 : LB.length ≤ LA.length + i ∧ (i = 0 ∨ LA.length + i = LB.length) := by omega
          clear hi
          obtain ⟨na, hna⟩ : ∃ na, LA.length + i = na := ⟨_, rfl⟩
          clear hd2
          rw [hna] at hO hd hi2 ⊢
          have hd2 : ¬ (na : Int) < (LB.length : Int) := by omega
          have hna6 : na ≤ 6 := by omega
          have HNa := Lib.hid hna
          clear hna
          generalize hPA : LA ++ List.replicate i 0 = PA at hO
          have HPA := Lib.hid hPA
          clear hPA
          go_wp2_with fail
          go_loopw [7] (fun v wr => ∃ j : Nat, (j = 0 ∨ LB.length + j ≤ na) ∧ ownI2 wr w.heap.size (.slice ao na ca) PA v (LB ++ List.replicate j 0) ∧ (∃ ao ca, v = .slice ao (LB.length + j) ca) ∧ Below w.heap.size w wr) (fun v _ => na - lenV v)
          case atStart => exact ⟨0, .inl rfl, by simpa using hO, ⟨_, _, rfl⟩, hbw⟩
          case round =>
            obtain ⟨j, hj, hO2, ⟨bo, cb, rfl⟩, hbw2⟩ := hrel
            clear hO hbw
            have hl := HLen.out.2 j
            by_cases hlt2 : LB.length + j < na
            · have hd3 : decide (((LB.length + j : Nat) : Int) < (na : Int)) = true := by simp; omega
              have hd4 : (LB.length : Int) + (j : Int) < (na : Int) := by omega
              go_wp2_with (first | (at_builtin; go_must (refine wpAppendInt2 wr (by rfl) _ _ (by rfl) w.heap.size _ (LB ++ List.replicate j 0) (by rfl) hO2.2.1 0 (by rfl) (by omega) hbw2.size ?_; intro ao7 ca7 w7 hown7 hb7 hkeep7 hnew7)))
              have hO7 := ownI2_w hO2 hown7 hb7.size hkeep7 hnew7
              rw [← HRep.out.2, hl] at hO7
              go_roundw
              case rel => exact ⟨j + 1, .inr (by omega), hO7, ⟨_, _, rfl⟩, hbw2.trans hb7⟩
              case measure => simp only [lenV]; omega
            · have hd3 : decide (((LB.length + j : Nat) : Int) < (na : Int)) = false := by simp; omega
              have hd4 : ¬ (LB.length : Int) + (j : Int) < (na : Int) := by omega
              have hna := HNa.out
              have hjn : LB.length + j = na := by omega
              have h6 : na ≤ 6 := by omega
              have hra := RdI_owns hO2.1
              have hrb := RdI_owns hO2.2.1
              rw [← HPA.out] at hra
              rw [hjn] at hd3 ⊢
              clear hO2
              go_wp2_with (first | (go_at_call 73; refine (HC.out _ _ na _ _ i j _ hra hrb hna hjn h6).mono ?_; rintro e w9 ⟨rfl, hb9⟩))
              go_ret2
              exact ⟨rfl, belowThen hbw2 hb9⟩
end Go.Proofs.YtfdmcnnjifggnabGreatDoor
