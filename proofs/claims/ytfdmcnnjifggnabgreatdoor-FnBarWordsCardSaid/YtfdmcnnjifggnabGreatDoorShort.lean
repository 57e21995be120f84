/- Contracts of the functions on words: the row of a short word, the cell of a letter, the bars that light. -/
import Derived.Test.YtfdmcnnjifggnabGreatDoorRowW
import Derived.Test.YtfdmcnnjifggnabGreatDoorCount
import Derived.Lib.Hide
namespace Go.Proofs.YtfdmcnnjifggnabGreatDoor
open Go.RowKit

theorem wordB_all {s : ByteArray} {m : Nat} (h : wordB s m = true) : allIn s = true ∧ s.size ≤ m := by
  unfold wordB at h
  simp only [Bool.and_eq_true, decide_eq_true_eq] at h
  exact ⟨h.2, h.1⟩
theorem isShort_any (s : ByteArray) (w : World) (hs : s.size ≤ maxLen) :
    Calls Tryz.prog 35 #[.string s] w fun e w' => e = .returned (.bool (wordB s 6)) ∧ Below w.heap.size w w' := by
  have HI := Lib.hid (fun W => IsWordI_any s W hs)
  have hle : wordB s 6 = (wordB s 12 && decide (s.size ≤ 6)) := by
    unfold wordB
    by_cases h : s.size ≤ 6
    · rw [decide_eq_true h, decide_eq_true (by omega : s.size ≤ 12)]; simp
    · rw [decide_eq_false h]; simp
  unfold maxLen at hs
  rw [hle]
  generalize wordB s 12 = q at HI ⊢
  rcases q with _ | _
  · clear hle
    go_enter Tryz.func35, Tryz.ntmps35
    go_wp2_with (first | (go_at_call 30; refine (HI.out _).mono ?_; rintro e w1 ⟨rfl, hb1⟩))
    go_ret
    exact ⟨rfl, hb1⟩
  · clear hle
    by_cases h6 : s.size ≤ 6
    · have hd : decide ((s.size : Int) ≤ 6) = true := by simp; omega
      rw [decide_eq_true h6]
      go_enter Tryz.func35, Tryz.ntmps35
      go_wp2_with (first | (go_at_call 30; refine (HI.out _).mono ?_; rintro e w1 ⟨rfl, hb1⟩))
      go_ret
      exact ⟨rfl, hb1⟩
    · have hd : decide ((s.size : Int) ≤ 6) = false := by simp; omega
      rw [decide_eq_false h6]
      go_enter Tryz.func35, Tryz.ntmps35
      go_wp2_with (first | (go_at_call 30; refine (HI.out _).mono ?_; rintro e w1 ⟨rfl, hb1⟩))
      go_ret
      exact ⟨rfl, hb1⟩
/-- The row of a short word. -/
def rowO (s : ByteArray) : List Int := if wordB s 6 = true then rowW s else []
theorem rowO_le (s : ByteArray) : (rowO s).length ≤ 6 := by
  unfold rowO
  split
  · rename_i h
    rw [rowW_length]; exact (wordB_all h).2
  · exact Nat.zero_le _
/-- A slice of numbers of the call's own, and a bool, are returned. -/
def RetIntsB (L : List Int) (ok : Bool) (w : World) (e : Ending) (w' : World) : Prop := ∃ ao cap, e = .returned (.tuple #[.slice ao L.length cap, .bool ok]) ∧ ownsInts w' w.heap.size (.slice ao L.length cap) L ∧ Below w.heap.size w w'
theorem RowOfWordS_any (s : ByteArray) (hs : s.size ≤ maxLen) (w : World) : Calls Tryz.prog 7 #[.string s] w (RetIntsB (rowO s) (wordB s 6) w) := by
  have HW := Lib.hid (fun W => l10Word_any s 6 (by decide) hs W)
  have hall := wordB_all (s := s) (m := 6)
  unfold rowO
  generalize wordB s 6 = q at HW hall ⊢
  rcases q with _ | _
  · rw [if_neg (by decide)]
    clear hall
    have hA1 := @cellAlloc; have hA2 := @frozenAlloc; have hA3 := @setCellAlloc; go_enter Tryz.func7, Tryz.ntmps7
    go_wp2_with (first | (go_at_call 37; refine (HW.out _).mono ?_; rintro e w' ⟨rfl, rfl⟩))
    go_ret2
    exact ⟨_, _, rfl, ownsInts_zero _ _ _, by (repeat (first | assumption | exact Below.refl _ _ | refine belowThen ?_ (Go.Joins.below_alloc1 _ _) | apply Below.drew | refine belowThen ?_ (by assumption) | refine belowThen ?_ (Go.Joins.below_draws _ _ _) | refine Below.setCell ?_ (by first | exact Nat.le_refl _ | (simp; done) | (simp; omega)) _))⟩
  · rw [if_pos rfl]
    have h := hall rfl
    have HR := Lib.hid (fun W => l10Row_any s (by omega) h.1 W)
    generalize rowW s = L at HR ⊢
    clear hall h
    have hA1 := @cellAlloc; have hA2 := @frozenAlloc; have hA3 := @setCellAlloc; go_enter Tryz.func7, Tryz.ntmps7
    go_wp2_with (first | (go_at_call 37; refine (HW.out _).mono ?_; rintro e w' ⟨rfl, rfl⟩) | (go_at_call 38; refine (HR.out _).mono ?_; rintro e w2 ⟨ao, ca, rfl, hown, hb2⟩))
    go_ret2
    exact ⟨ao, ca, rfl, hown, hb2⟩
theorem RowOfWordI_any (s : ByteArray) (hs : s.size ≤ maxLen) (w : World) : Calls Tryz.prog 6 #[.string s] w (RetIntsB (rowO s) (wordB s 6) w) := by
  have HW := Lib.hid (fun W => isShort_any s W hs)
  have hall := wordB_all (s := s) (m := 6)
  unfold rowO
  generalize wordB s 6 = q at HW hall ⊢
  rcases q with _ | _
  · rw [if_neg (by decide)]
    clear hall
    have hA1 := @cellAlloc; have hA2 := @frozenAlloc; have hA3 := @setCellAlloc; go_enter Tryz.func6, Tryz.ntmps6
    go_wp2_with (first | (go_at_call 35; refine (HW.out _).mono ?_; rintro e w1 ⟨rfl, hb1⟩))
    go_ret2
    exact ⟨_, _, rfl, ownsInts_nil _ _, by (repeat (first | assumption | exact Below.refl _ _ | refine belowThen ?_ (Go.Joins.below_alloc1 _ _) | apply Below.drew | refine belowThen ?_ (by assumption) | refine belowThen ?_ (Go.Joins.below_draws _ _ _) | refine Below.setCell ?_ (by first | exact Nat.le_refl _ | (simp; done) | (simp; omega)) _))⟩
  · rw [if_pos rfl]
    have h := hall rfl
    have HR := Lib.hid (fun W => rowOfWord_any s (by omega) h.1 W)
    generalize rowW s = L at HR ⊢
    clear hall h
    have hA1 := @cellAlloc; have hA2 := @frozenAlloc; have hA3 := @setCellAlloc; go_enter Tryz.func6, Tryz.ntmps6
    go_wp2_with (first | (go_at_call 35; refine (HW.out _).mono ?_; rintro e w1 ⟨rfl, hb1⟩) | (go_at_call 36; refine (HR.out _).mono ?_; rintro e w2 ⟨ao, ca, rfl, hown, hb2⟩))
    go_ret2
    exact ⟨ao, ca, rfl, ownsInts_le hown hb1.size, by (repeat (first | assumption | exact Below.refl _ _ | refine belowThen ?_ (Go.Joins.below_alloc1 _ _) | apply Below.drew | refine belowThen ?_ (by assumption) | refine belowThen ?_ (Go.Joins.below_draws _ _ _) | refine Below.setCell ?_ (by first | exact Nat.le_refl _ | (simp; done) | (simp; omega)) _))⟩
/-- The text is one letter. -/
def letB (s : ByteArray) : Bool := decide (s.size = 1) && allIn s
def letZ (s : ByteArray) : Int := if letB s = true then (rowW s).getD 0 0 else 0
theorem wordB1 {s : ByteArray} (h : s.size = 1) (m : Nat) (hm : 1 ≤ m) : wordB s m = allIn s := by
  unfold wordB
  rw [decide_eq_true (by omega), Bool.true_and]
theorem LetterCellS_any (s : ByteArray) (hs : s.size ≤ maxLen) (w : World) : Calls Tryz.prog 23 #[.string s] w fun e w' => e = .returned (.tuple #[.int .i64 (letZ s), .bool (letB s)]) ∧ Below w.heap.size w w' := by
  have HW := Lib.hid (fun W => l10Word_any s 1 (by decide) hs W)
  unfold maxLen at hs
  unfold letZ letB
  by_cases h1 : s.size = 1
  · have hd : ((s.size : Int) == 1) = true := by simp; omega
    rw [decide_eq_true h1, Bool.true_and]
    rw [wordB1 h1 1 (by decide)] at HW
    have hat := fun h => isL_at (s := s) h 0 (by omega)
    have hrow := rowW_at s 0 (by omega)
    rw [hrow]
    generalize allIn s = q at HW hat ⊢
    rcases q with _ | _
    · rw [if_neg (by decide)]
      clear hat hrow
      have hA1 := @cellAlloc; have hA2 := @frozenAlloc; have hA3 := @setCellAlloc; go_enter Tryz.func23, Tryz.ntmps23
      go_wp2_with (first | (go_at_call 37; refine (HW.out _).mono ?_; rintro e w' ⟨rfl, rfl⟩))
      go_ret2
      exact ⟨rfl, Below.refl _ _⟩
    · rw [if_pos rfl]
      have hp := place_of (hat rfl)
      have HP := Lib.hid (fun W => by have h := l10Place_any (s[0]'(by omega)) W; rw [hp.1] at h; exact h : ∀ W, Calls Tryz.prog 62 #[.int .u8 (s[0]'(by omega)).toNat] W fun e w' => e = .returned (.int .i64 (placeN (s[0]'(by omega)).toNat : Nat)) ∧ W = w')
      have HO := Lib.hid (fun W => l10Of_any (placeN (s[0]'(by omega)).toNat) hp.2 W)
      clear hat hrow hp
      generalize placeN (s[0]'(by omega)).toNat = p at HP HO ⊢
      generalize letC p = x at HO ⊢
      have hA1 := @cellAlloc; have hA2 := @frozenAlloc; have hA3 := @setCellAlloc; go_enter Tryz.func23, Tryz.ntmps23
      go_wp2_with (first | (go_at_call 37; refine (HW.out _).mono ?_; rintro e w' ⟨rfl, rfl⟩) | (go_at_call 62; refine (HP.out _).mono ?_; rintro e w' ⟨rfl, rfl⟩) | (go_at_call 61; refine (HO.out _).mono ?_; rintro e w2 ⟨rfl, hb2⟩))
      go_ret2
      exact ⟨rfl, hb2⟩
  · have hd : ((s.size : Int) == 1) = false := by simp; omega
    rw [decide_eq_false h1, Bool.false_and, if_neg (by decide)]
    have hA1 := @cellAlloc; have hA2 := @frozenAlloc; have hA3 := @setCellAlloc; go_enter Tryz.func23, Tryz.ntmps23
    go_wp2
    go_ret2
    exact ⟨rfl, Below.refl _ _⟩
theorem LetterCellI_any (s : ByteArray) (hs : s.size ≤ maxLen) (w : World) : Calls Tryz.prog 22 #[.string s] w fun e w' => e = .returned (.tuple #[.int .i64 (letZ s), .bool (letB s)]) ∧ Below w.heap.size w w' := by
  have HW := Lib.hid (fun W => IsWordI_any s W hs)
  unfold maxLen at hs
  unfold letZ letB
  by_cases h1 : s.size = 1
  · have hd : ((s.size : Int) == 1) = true := by simp; omega
    rw [decide_eq_true h1, Bool.true_and]
    rw [wordB1 h1 12 (by decide)] at HW
    have hR := fun h => fun W => rowOfWord_any s (by omega) h W
    have hl := rowW_length s
    generalize allIn s = q at HW hR ⊢
    rcases q with _ | _
    · rw [if_neg (by decide)]
      clear hR hl
      have hA1 := @cellAlloc; have hA2 := @frozenAlloc; have hA3 := @setCellAlloc; go_enter Tryz.func22, Tryz.ntmps22
      go_wp2_with (first | (go_at_call 30; refine (HW.out _).mono ?_; rintro e w1 ⟨rfl, hb1⟩))
      go_ret2
      exact ⟨rfl, hb1⟩
    · rw [if_pos rfl]
      have HR := Lib.hid (hR rfl)
      generalize rowW s = L at HR hl ⊢
      have hL1 : L.length = 1 := by omega
      clear hR hl
      have hsh : ∀ (W : World) (B : Nat) (ao : Option Addr) (ca : Nat), ownsInts W B (.slice ao L.length ca) L → ∃ g, ao = some ⟨g, 0, none⟩ ∧ W.cell? ⟨g, 0, none⟩ = some (.int .i64 (L.getD 0 0)) := by
        intro W B ao ca h
        obtain ⟨ao', ca', he, h0 | ⟨g, rfl, _, _, _, hc⟩⟩ := ownsInts_shape h
        · rw [h0] at hL1; simp at hL1
        · simp only [Value.slice.injEq] at he
          obtain ⟨rfl, -, -⟩ := he
          exact ⟨g, rfl, hc 0 (by omega)⟩
      have HSh := Lib.hid hsh
      rw [hL1] at HSh
      unfold RetIntsL at HR
      rw [hL1] at HR
      clear hsh hL1
      generalize L.getD 0 0 = x at HSh ⊢
      have hA1 := @cellAlloc; have hA2 := @frozenAlloc; have hA3 := @setCellAlloc; go_enter Tryz.func22, Tryz.ntmps22
      go_wp2_with (first | (go_at_call 30; refine (HW.out _).mono ?_; rintro e w1 ⟨rfl, hb1⟩) | (go_at_call 36; refine (HR.out _).mono ?_; rintro e w2 ⟨ao, ca, rfl, hown, hb2⟩; obtain ⟨g, rfl, hcell⟩ := HSh.out _ _ _ _ hown; clear hown))
      go_ret2
      exact ⟨rfl, by (repeat (first | assumption | exact Below.refl _ _ | refine belowThen ?_ (Go.Joins.below_alloc1 _ _) | apply Below.drew | refine belowThen ?_ (by assumption) | refine belowThen ?_ (Go.Joins.below_draws _ _ _) | refine Below.setCell ?_ (by first | exact Nat.le_refl _ | (simp; done) | (simp; omega)) _))⟩
  · have hd : ((s.size : Int) == 1) = false := by simp; omega
    rw [decide_eq_false h1, Bool.false_and, if_neg (by decide)]
    have hA1 := @cellAlloc; have hA2 := @frozenAlloc; have hA3 := @setCellAlloc; go_enter Tryz.func22, Tryz.ntmps22
    go_wp2
    go_ret2
    exact ⟨rfl, Below.refl _ _⟩
end Go.Proofs.YtfdmcnnjifggnabGreatDoor
