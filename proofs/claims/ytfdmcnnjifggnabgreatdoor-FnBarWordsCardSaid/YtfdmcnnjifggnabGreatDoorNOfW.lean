/- Contracts of the functions that give the number that turns to a word. -/
import Derived.Test.YtfdmcnnjifggnabGreatDoorNumW
import Derived.Test.YtfdmcnnjifggnabGreatDoorWNum
namespace Go.Proofs.YtfdmcnnjifggnabGreatDoor
open Go.RowKit

def emptyB (s : ByteArray) : Bool := s.toList.isEmpty
def nwM (s : ByteArray) : List Int := backL turC (rowW s)
def nwIn (s : ByteArray) : Bool := wordB s 6 && !emptyB s
def nwB (s : ByteArray) : Bool := nwIn s && (numB (nwM s) && decide (rowN (numZ (nwM s)).toNat = nwM s))
def nwZ (s : ByteArray) : Int := if nwB s = true then numZ (nwM s) else 0
theorem numZ_in (L : List Int) (h : L.length ≤ 6) : 0 ≤ numZ L ∧ numZ L < 1000000 := by
  unfold numZ
  split
  · rename_i hq
    have hok : numOk L L.length := fun j hj => by
      unfold numAll at hq
      rw [List.all_eq_true] at hq
      have := hq (L.getD j 0) (by rw [List.getD_eq_getElem?_getD, List.getElem?_eq_getElem hj]; exact List.getElem_mem _)
      simpa using this
    have h1 := numK_bound L L.length hok
    have h2 : (10 : Int) ^ L.length ≤ 1000000 := by
      generalize L.length = k at h
      rcases (by omega : k = 0 ∨ k = 1 ∨ k = 2 ∨ k = 3 ∨ k = 4 ∨ k = 5 ∨ k = 6) with rfl | rfl | rfl | rfl | rfl | rfl | rfl <;> decide
    omega
  · omega
set_option maxHeartbeats 1600000 in
set_option maxRecDepth 100000 in
theorem NumberOfWordS_any (s : ByteArray) (hs : s.size ≤ maxLen) (w : World) : Calls Tryz.prog 17 #[.string s] w fun e w' => e = .returned (.tuple #[.int .i64 (nwZ s), .bool (nwB s)]) ∧ Below w.heap.size w w' := by
  have HW := Lib.hid (fun W => l10Word_any s 6 (by decide) hs W)
  have hall := wordB_all (s := s) (m := 6)
  unfold nwZ nwB nwIn
  generalize wordB s 6 = q at HW hall ⊢
  rcases q with _ | _
  · rw [Bool.false_and, Bool.false_and, if_neg (by decide)]
    clear hall
    have hA1 := @cellAlloc; have hA2 := @frozenAlloc; have hA3 := @setCellAlloc; go_enter Tryz.func17, Tryz.ntmps17
    go_wp2_with (first | (go_at_call 37; refine (HW.out _).mono ?_; rintro e w' ⟨rfl, rfl⟩))
    go_ret2
    exact ⟨rfl, Below.refl _ _⟩
  have hsa := hall rfl
  clear hall
  unfold emptyB
  generalize hem : s.toList.isEmpty = em
  rcases em with _ | _
  rotate_left
  · rw [Bool.true_and, Bool.not_true, Bool.false_and, if_neg (by decide)]
    clear hsa
    have hA1 := @cellAlloc; have hA2 := @frozenAlloc; have hA3 := @setCellAlloc; go_enter Tryz.func17, Tryz.ntmps17
    go_wp2_with (first | (go_at_call 37; refine (HW.out _).mono ?_; rintro e w' ⟨rfl, rfl⟩))
    go_ret2
    exact ⟨rfl, Below.refl _ _⟩
  rw [Bool.true_and, Bool.not_false, Bool.true_and]
  have HR := Lib.hid (fun W => l10Row_any s (by omega) hsa.1 W)
  have hl := rowW_length s
  have hm := rowW_mem s
  unfold nwM
  generalize rowW s = L at HR hl hm ⊢
  have HB := Lib.hid (fun ao ca W h => l2TurnRow_any ao L.length ca L W h rfl (by omega) hm)
  have hbl := backL_length turC L
  generalize backL turC L = M at HB hbl ⊢
  have hM6 : M.length ≤ 6 := by omega
  have HNum := Lib.hid (fun ao ca W h => l2NumberOf_any ao M.length ca M W h rfl hM6)
  have hz := numZ_in M hM6
  generalize numB M = nb at HNum ⊢
  generalize numZ M = z at HNum hz ⊢
  obtain ⟨u, rfl⟩ : ∃ u : Nat, z = (u : Int) := ⟨z.toNat, by omega⟩
  rw [Int.toNat_natCast]
  have HRow := Lib.hid (fun W => l2RowOf_any u (by omega) W)
  have hr6 := rowN_short u (by omega)
  generalize rowN u = N at HRow hr6 ⊢
  have HSame := Lib.hid (fun ao bo ca cb W ha hb => l1Same_any ao bo N.length M.length ca cb N M W ha hb rfl rfl (by omega) (by omega))
  generalize decide (N = M) = sm at HSame ⊢
  clear hl hm hbl hM6 hr6 hsa
  rcases nb with _ | _
  · rw [Bool.false_and, if_neg (by decide)]
    have hA1 := @cellAlloc; have hA2 := @frozenAlloc; have hA3 := @setCellAlloc; go_enter Tryz.func17, Tryz.ntmps17
    go_wp2_with (first | (go_at_call 37; refine (HW.out _).mono ?_; rintro e w' ⟨rfl, rfl⟩) | (go_at_call 38; refine (HR.out _).mono ?_; rintro e w2 ⟨ao, ca, rfl, hown, hb2⟩) | (go_at_call 52; refine (HB.out _ _ _ (RdI_owns hown)).mono ?_; rintro e w3 ⟨bo, cb, rfl, hown3, hb3⟩) | (go_at_call 57; refine (HNum.out _ _ _ (RdI_owns hown3)).mono ?_; rintro e w4 ⟨rfl, hb4⟩))
    go_ret2
    exact ⟨rfl, by (repeat (first | assumption | exact Below.refl _ _ | refine belowThen ?_ (Go.Joins.below_alloc1 _ _) | apply Below.drew | refine belowThen ?_ (by assumption) | refine belowThen ?_ (Go.Joins.below_draws _ _ _) | refine Below.setCell ?_ (by first | exact Nat.le_refl _ | (simp; done) | (simp; omega)) _))⟩
  rw [Bool.true_and]
  rcases sm with _ | _
  · rw [if_neg (by decide)]
    have hA1 := @cellAlloc; have hA2 := @frozenAlloc; have hA3 := @setCellAlloc; go_enter Tryz.func17, Tryz.ntmps17
    go_wp2_with (first | (go_at_call 37; refine (HW.out _).mono ?_; rintro e w' ⟨rfl, rfl⟩) | (go_at_call 38; refine (HR.out _).mono ?_; rintro e w2 ⟨ao, ca, rfl, hown, hb2⟩) | (go_at_call 52; refine (HB.out _ _ _ (RdI_owns hown)).mono ?_; rintro e w3 ⟨bo, cb, rfl, hown3, hb3⟩) | (go_at_call 57; refine (HNum.out _ _ _ (RdI_owns hown3)).mono ?_; rintro e w4 ⟨rfl, hb4⟩) | (go_at_call 53; refine (HRow.out _).mono ?_; rintro e w5 ⟨co, cc, rfl, hown5, hb5⟩) | (go_at_call 58; refine (HSame.out _ _ _ _ _ (RdI_owns hown5) (RdI_below (RdI_below (RdI_owns hown3) hb4) hb5)).mono ?_; rintro e w6 ⟨rfl, hb6⟩))
    go_ret2
    exact ⟨rfl, by (repeat (first | assumption | exact Below.refl _ _ | refine belowThen ?_ (Go.Joins.below_alloc1 _ _) | apply Below.drew | refine belowThen ?_ (by assumption) | refine belowThen ?_ (Go.Joins.below_draws _ _ _) | refine Below.setCell ?_ (by first | exact Nat.le_refl _ | (simp; done) | (simp; omega)) _))⟩
  · rw [if_pos rfl]
    have hA1 := @cellAlloc; have hA2 := @frozenAlloc; have hA3 := @setCellAlloc; go_enter Tryz.func17, Tryz.ntmps17
    go_wp2_with (first | (go_at_call 37; refine (HW.out _).mono ?_; rintro e w' ⟨rfl, rfl⟩) | (go_at_call 38; refine (HR.out _).mono ?_; rintro e w2 ⟨ao, ca, rfl, hown, hb2⟩) | (go_at_call 52; refine (HB.out _ _ _ (RdI_owns hown)).mono ?_; rintro e w3 ⟨bo, cb, rfl, hown3, hb3⟩) | (go_at_call 57; refine (HNum.out _ _ _ (RdI_owns hown3)).mono ?_; rintro e w4 ⟨rfl, hb4⟩) | (go_at_call 53; refine (HRow.out _).mono ?_; rintro e w5 ⟨co, cc, rfl, hown5, hb5⟩) | (go_at_call 58; refine (HSame.out _ _ _ _ _ (RdI_owns hown5) (RdI_below (RdI_below (RdI_owns hown3) hb4) hb5)).mono ?_; rintro e w6 ⟨rfl, hb6⟩))
    go_ret2
    exact ⟨rfl, by (repeat (first | assumption | exact Below.refl _ _ | refine belowThen ?_ (Go.Joins.below_alloc1 _ _) | apply Below.drew | refine belowThen ?_ (by assumption) | refine belowThen ?_ (Go.Joins.below_draws _ _ _) | refine Below.setCell ?_ (by first | exact Nat.le_refl _ | (simp; done) | (simp; omega)) _))⟩
set_option maxHeartbeats 1600000 in
set_option maxRecDepth 100000 in
theorem NumberOfWordI_any (s : ByteArray) (hs : s.size ≤ maxLen) (w : World) (htab : Lib.TabIs Tryz.prog w "internal/strconv.uint64pow10" .u64 Lib.pow10Tab) : Calls Tryz.prog 16 #[.string s] w fun e w' => e = .returned (.tuple #[.int .i64 (nwZ s), .bool (nwB s)]) ∧ Below w.heap.size w w' := by
  have HW := Lib.hid (fun W => isShort_any s W hs)
  have hall := wordB_all (s := s) (m := 6)
  unfold nwZ nwB nwIn
  generalize wordB s 6 = q at HW hall ⊢
  rcases q with _ | _
  · rw [Bool.false_and, Bool.false_and, if_neg (by decide)]
    clear hall
    have hA1 := @cellAlloc; have hA2 := @frozenAlloc; have hA3 := @setCellAlloc; go_enter Tryz.func16, Tryz.ntmps16
    go_wp2_with (first | (go_at_call 35; refine (HW.out _).mono ?_; rintro e w1 ⟨rfl, hb1⟩))
    go_ret2
    exact ⟨rfl, by (repeat (first | assumption | exact Below.refl _ _ | refine belowThen ?_ (Go.Joins.below_alloc1 _ _) | apply Below.drew | refine belowThen ?_ (by assumption) | refine belowThen ?_ (Go.Joins.below_draws _ _ _) | refine Below.setCell ?_ (by first | exact Nat.le_refl _ | (simp; done) | (simp; omega)) _))⟩
  have hsa := hall rfl
  clear hall
  unfold emptyB
  generalize hem : s.toList.isEmpty = em
  rcases em with _ | _
  rotate_left
  · rw [Bool.true_and, Bool.not_true, Bool.false_and, if_neg (by decide)]
    clear hsa
    have hA1 := @cellAlloc; have hA2 := @frozenAlloc; have hA3 := @setCellAlloc; go_enter Tryz.func16, Tryz.ntmps16
    go_wp2_with (first | (go_at_call 35; refine (HW.out _).mono ?_; rintro e w1 ⟨rfl, hb1⟩))
    go_ret2
    exact ⟨rfl, by (repeat (first | assumption | exact Below.refl _ _ | refine belowThen ?_ (Go.Joins.below_alloc1 _ _) | apply Below.drew | refine belowThen ?_ (by assumption) | refine belowThen ?_ (Go.Joins.below_draws _ _ _) | refine Below.setCell ?_ (by first | exact Nat.le_refl _ | (simp; done) | (simp; omega)) _))⟩
  rw [Bool.true_and, Bool.not_false, Bool.true_and]
  have HR := Lib.hid (fun W => rowOfWord_any s (by omega) hsa.1 W)
  have hl := rowW_length s
  have hm := rowW_mem s
  unfold nwM
  generalize rowW s = L at HR hl hm ⊢
  have HB := Lib.hid (fun ao ca W h => backwards_any 50 turC turC_lt ao L.length ca L W h rfl (by omega) hm enters_tur (fun c W hc => turned_any c hc W))
  have hbl := backL_length turC L
  have hrb := rowB_of (L := backL turC L) (by omega) (backL_mem turC turC_lt L)
  generalize backL turC L = M at HB hbl hrb ⊢
  have hM6 : M.length ≤ 6 := by omega
  have HNum := Lib.hid (fun ao ca W h => NumberOf_any ao M.length ca M W h rfl hM6 hrb)
  have hz := numZ_in M hM6
  generalize numB M = nb at HNum ⊢
  generalize numZ M = z at HNum hz ⊢
  obtain ⟨u, rfl⟩ : ∃ u : Nat, z = (u : Int) := ⟨z.toNat, by omega⟩
  rw [Int.toNat_natCast]
  have HRow := Lib.hid (fun W => rowOf_any u (by omega) W)
  have hr6 := rowN_short u (by omega)
  generalize rowN u = N at HRow hr6 ⊢
  have HSame := Lib.hid (fun ao bo ca cb W ha hb => Equal_any ao bo N.length M.length ca cb N M W ha hb rfl rfl (by omega) (by omega))
  generalize decide (N = M) = sm at HSame ⊢
  have HT := Lib.hid htab
  clear hl hm hbl hM6 hr6 hsa hrb htab
  rcases nb with _ | _
  · rw [Bool.false_and, if_neg (by decide)]
    have hA1 := @cellAlloc; have hA2 := @frozenAlloc; have hA3 := @setCellAlloc; go_enter Tryz.func16, Tryz.ntmps16
    go_wp2_with (first | (go_at_call 35; refine (HW.out _).mono ?_; rintro e w1 ⟨rfl, hb1⟩) | (go_at_call 36; refine (HR.out _).mono ?_; rintro e w2 ⟨ao, ca, rfl, hown, hb2⟩) | (go_at_call 48; refine (HB.out _ _ _ (RdI_owns hown)).mono ?_; rintro e w3 ⟨bo, cb, rfl, hown3, hb3⟩) | (go_at_call 55; refine (HNum.out _ _ _ (RdI_owns hown3)).mono ?_; rintro e w4 ⟨rfl, hb4⟩))
    go_ret2
    exact ⟨rfl, by (repeat (first | assumption | exact Below.refl _ _ | refine belowThen ?_ (Go.Joins.below_alloc1 _ _) | apply Below.drew | refine belowThen ?_ (by assumption) | refine belowThen ?_ (Go.Joins.below_draws _ _ _) | refine Below.setCell ?_ (by first | exact Nat.le_refl _ | (simp; done) | (simp; omega)) _))⟩
  rw [Bool.true_and]
  rcases sm with _ | _
  · rw [if_neg (by decide)]
    have hA1 := @cellAlloc; have hA2 := @frozenAlloc; have hA3 := @setCellAlloc; go_enter Tryz.func16, Tryz.ntmps16
    go_wp2_with (first | (go_at_call 35; refine (HW.out _).mono ?_; rintro e w1 ⟨rfl, hb1⟩) | (go_at_call 36; refine (HR.out _).mono ?_; rintro e w2 ⟨ao, ca, rfl, hown, hb2⟩) | (go_at_call 48; refine (HB.out _ _ _ (RdI_owns hown)).mono ?_; rintro e w3 ⟨bo, cb, rfl, hown3, hb3⟩) | (go_at_call 55; refine (HNum.out _ _ _ (RdI_owns hown3)).mono ?_; rintro e w4 ⟨rfl, hb4⟩) | (go_at_call 49; refine (HRow.out _ (TabIs_keep (TabIs_keep (TabIs_keep (TabIs_keep HT.out hb1) hb2) hb3) hb4)).mono ?_; rintro e w5 ⟨co, cc, rfl, hown5, hb5⟩) | (go_at_call 56; refine (HSame.out _ _ _ _ _ (RdI_owns hown5) (RdI_below (RdI_below (RdI_owns hown3) hb4) hb5)).mono ?_; rintro e w6 ⟨rfl, hb6⟩))
    go_ret2
    exact ⟨rfl, by (repeat (first | assumption | exact Below.refl _ _ | refine belowThen ?_ (Go.Joins.below_alloc1 _ _) | apply Below.drew | refine belowThen ?_ (by assumption) | refine belowThen ?_ (Go.Joins.below_draws _ _ _) | refine Below.setCell ?_ (by first | exact Nat.le_refl _ | (simp; done) | (simp; omega)) _))⟩
  · rw [if_pos rfl]
    have hA1 := @cellAlloc; have hA2 := @frozenAlloc; have hA3 := @setCellAlloc; go_enter Tryz.func16, Tryz.ntmps16
    go_wp2_with (first | (go_at_call 35; refine (HW.out _).mono ?_; rintro e w1 ⟨rfl, hb1⟩) | (go_at_call 36; refine (HR.out _).mono ?_; rintro e w2 ⟨ao, ca, rfl, hown, hb2⟩) | (go_at_call 48; refine (HB.out _ _ _ (RdI_owns hown)).mono ?_; rintro e w3 ⟨bo, cb, rfl, hown3, hb3⟩) | (go_at_call 55; refine (HNum.out _ _ _ (RdI_owns hown3)).mono ?_; rintro e w4 ⟨rfl, hb4⟩) | (go_at_call 49; refine (HRow.out _ (TabIs_keep (TabIs_keep (TabIs_keep (TabIs_keep HT.out hb1) hb2) hb3) hb4)).mono ?_; rintro e w5 ⟨co, cc, rfl, hown5, hb5⟩) | (go_at_call 56; refine (HSame.out _ _ _ _ _ (RdI_owns hown5) (RdI_below (RdI_below (RdI_owns hown3) hb4) hb5)).mono ?_; rintro e w6 ⟨rfl, hb6⟩))
    go_ret2
    exact ⟨rfl, by (repeat (first | assumption | exact Below.refl _ _ | refine belowThen ?_ (Go.Joins.below_alloc1 _ _) | apply Below.drew | refine belowThen ?_ (by assumption) | refine belowThen ?_ (Go.Joins.below_draws _ _ _) | refine Below.setCell ?_ (by first | exact Nat.le_refl _ | (simp; done) | (simp; omega)) _))⟩
end Go.Proofs.YtfdmcnnjifggnabGreatDoor
