/- What words, rows, numbers and mirrors turn to when they are turned back: plain law. -/
import Derived.Test.YtfdmcnnjifggnabGreatDoorBarM
import Derived.Test.YtfdmcnnjifggnabGreatDoorMirW
import Derived.Test.YtfdmcnnjifggnabGreatDoorWNum
import Derived.Test.YtfdmcnnjifggnabGreatDoorShort
import Derived.Laws.StructEq
namespace Go.Proofs.YtfdmcnnjifggnabGreatDoor
open Go.RowKit

theorem wordB_parts {s : ByteArray} {m : Nat} (h : wordB s m = true) : allIn s = true ∧ s.size ≤ m := wordB_all h
theorem wordB_mk {s : ByteArray} {m : Nat} (h1 : allIn s = true) (h2 : s.size ≤ m) : wordB s m = true := by
  unfold wordB
  simp [h1, h2]
theorem rowB_mk {L : List Int} (h1 : L.length ≤ 6) (h2 : ∀ x ∈ L, inB 0 127 x = true) : rowB L = true := by
  unfold rowB
  rw [Bool.and_eq_true]
  exact ⟨by simpa using h1, List.all_eq_true.2 h2⟩
theorem back_word {s : ByteArray} (h : wordB s 6 = true) : worB (rowO s) = true ∧ worS (rowO s) = s := by
  obtain ⟨h1, h2⟩ := wordB_parts h
  have hs := spell_row s h1
  have hr : rowB (rowW s) = true := rowB_mk (by rw [rowW_length]; exact h2) (rowW_mem s)
  unfold worB worS rowO
  rw [if_pos h, hr, hs.1]
  exact ⟨rfl, by rw [if_pos rfl]; exact hs.2⟩
theorem back_letter {s : ByteArray} (h : letB s = true) : letOk (letZ s) = true ∧ letS (letZ s) = s := by
  have hb := h
  unfold letB at hb
  rw [Bool.and_eq_true] at hb
  have hsz : s.size = 1 := by simpa using hb.1
  unfold letZ
  rw [if_pos h]
  have h0 : 0 < s.size := by omega
  rw [rowW_at s 0 h0]
  have hl := isL_at hb.2 0 h0
  have h1 := letS_byte _ hl
  refine ⟨h1.1, h1.2.trans ?_⟩
  have : s.data.toList = [s[0]'h0] := by
    apply List.ext_getElem
    · rw [Array.length_toList]; exact hsz
    · intro i hi1 hi2
      have hi0 : i = 0 := by simp at hi2; omega
      subst hi0
      rfl
  exact ByteArray.ext (Array.toList_inj.1 (by rw [this]))
theorem back_mirror {s : ByteArray} (h : mirB s = true) : mirB (mirS s) = true ∧ mirS (mirS s) = s := by
  have hb := h
  unfold mirB at hb
  rw [Bool.and_eq_true] at hb
  obtain ⟨h1, h2⟩ := wordB_parts hb.1
  have e : mirS s = spellS (backL mirC (rowW s)) := by unfold mirS; rw [if_pos hb.1]
  obtain ⟨r1, r2, r3⟩ := row_spell _ hb.2
  have hbb := back_back mirC mir_mir (rowW s) (rowW_mem s)
  have hs := spell_row s h1
  have hw : wordB (spellS (backL mirC (rowW s))) 6 = true := wordB_mk r2 (by rw [r3, backL_length, rowW_length]; exact h2)
  rw [e]
  unfold mirB mirS
  rw [hw, r1, hbb, hs.1]
  exact ⟨rfl, by rw [if_pos rfl]; exact hs.2⟩
theorem digL_ge (n k : Nat) (h : (digL n).length ≤ k) : n < 10 ^ k := by
  have h1 := num_row n
  have h2 := numK_bound (rowN n) (rowN n).length (fun j hj => by
    have := h1.1
    unfold numAll at this
    have h9 := List.all_eq_true.1 this ((rowN n).getD j 0) (by rw [List.getD_eq_getElem?_getD, List.getElem?_eq_getElem hj]; exact List.getElem_mem _)
    simpa using h9)
  have hl : (rowN n).length = (digL n).length := by simp [rowN]
  rw [h1.2.1, hl] at h2
  have h3 : (10 : Int) ^ (digL n).length ≤ 10 ^ k := by
    have : (10 : Nat) ^ (digL n).length ≤ 10 ^ k := Nat.pow_le_pow_right (by omega) h
    have h4 : (((10 : Nat) ^ (digL n).length : Nat) : Int) ≤ (((10 : Nat) ^ k : Nat) : Int) := by omega
    simpa using h4
  have h5 : (n : Int) < ((10 ^ k : Nat) : Int) := by simp; omega
  omega
/-- A number is the one that its word shows. -/
theorem back_number {n : Int} (h : wnB n = true) : nwB (wnS n) = true ∧ nwZ (wnS n) = n := by
  have hb := h
  unfold wnB at hb
  rw [Bool.and_eq_true] at hb
  have hin := hb.1
  rw [inB_iff] at hin
  obtain ⟨N, rfl⟩ := Int.eq_ofNat_of_zero_le hin.1
  rw [Int.toNat_natCast] at hb
  have e : wnS (N : Int) = spellS (backL turC (rowN N)) := by unfold wnS; rw [if_pos hb.1, Int.toNat_natCast]
  obtain ⟨r1, r2, r3⟩ := row_spell _ hb.2
  have h6 := digL_length N 6 (by omega) (by omega)
  have hl : (rowN N).length = (digL N).length := by simp [rowN]
  have hbb := back_back turC tur_tur (rowN N) (rowN_cells N)
  have hnr := num_row N
  have hw : wordB (spellS (backL turC (rowN N))) 6 = true := wordB_mk r2 (by rw [r3, backL_length]; omega)
  have hne : emptyB (spellS (backL turC (rowN N))) = false := by
    unfold emptyB
    have h9 : (spellS (backL turC (rowN N))).toList.length = (spellS (backL turC (rowN N))).size := by rw [ByteArray.toList_eq, Array.length_toList]; rfl
    rw [r3, backL_length] at h9
    cases hc : (spellS (backL turC (rowN N))).toList with
    | nil => rw [hc] at h9; simp at h9; omega
    | cons a l => rfl
  have hM : nwM (spellS (backL turC (rowN N))) = rowN N := by unfold nwM; rw [r1, hbb]
  have hZ : numZ (rowN N) = (N : Int) := by unfold numZ; rw [if_pos hnr.1]; exact hnr.2.1
  have hB : numB (rowN N) = true := by unfold numB; rw [hnr.1]; simpa using hnr.2.2
  have hok : nwB (spellS (backL turC (rowN N))) = true := by
    unfold nwB nwIn
    rw [hw, hne, hM, hB, hZ, Int.toNat_natCast]
    simp
  rw [e]
  exact ⟨hok, by unfold nwZ; rw [if_pos hok, hM, hZ]⟩
/-- A word is the one of the number that it shows. -/
theorem back_nword {s : ByteArray} (h : nwB s = true) : wnB (nwZ s) = true ∧ wnS (nwZ s) = s := by
  have hb := h
  unfold nwB nwIn at hb
  simp only [Bool.and_eq_true, decide_eq_true_eq] at hb
  obtain ⟨⟨hw, _⟩, hnum, hrow⟩ := hb
  obtain ⟨h1, h2⟩ := wordB_parts hw
  have hZ : nwZ s = numZ (nwM s) := by unfold nwZ; rw [if_pos h]
  have h0 : 0 ≤ numZ (nwM s) := by
    unfold numZ
    split
    · rename_i hall
      exact (numK_bound (nwM s) _ (fun j hj => by
        unfold numAll at hall
        have h9 := List.all_eq_true.1 hall ((nwM s).getD j 0) (by rw [List.getD_eq_getElem?_getD, List.getElem?_eq_getElem hj]; exact List.getElem_mem _)
        simpa using h9)).1
    · exact Int.le_refl _
  obtain ⟨N, hN⟩ := Int.eq_ofNat_of_zero_le h0
  rw [hN, Int.toNat_natCast] at hrow
  rw [hZ, hN]
  have hlen : (digL N).length ≤ 6 := by
    have hl : (rowN N).length = (digL N).length := by simp [rowN]
    rw [← hl, hrow]
    unfold nwM
    rw [backL_length, rowW_length]
    exact h2
  have hlt := digL_ge N 6 hlen
  have hin : inB 0 999999 (N : Int) = true := by rw [inB_iff]; omega
  have hbb : backL turC (rowN N) = rowW s := by rw [hrow]; unfold nwM; exact back_back turC tur_tur (rowW s) (rowW_mem s)
  have hs := spell_row s h1
  unfold wnB wnS
  rw [hin, Int.toNat_natCast, hbb, hs.1]
  exact ⟨rfl, by rw [if_pos rfl]; exact hs.2⟩
theorem bytes_beq (a b : ByteArray) : (a == b) = true ↔ a = b := by
  rw [beq_toListBytes, beq_iff_eq]
  constructor
  · intro h
    rw [ByteArray.toList_eq, ByteArray.toList_eq] at h
    exact ByteArray.ext (Array.toList_inj.1 h)
  · intro h; rw [h]
theorem letC_pos : ∀ k : Fin 16, letC k.val ≠ 0 := by decide +kernel
theorem rowW_in (s : ByteArray) (j : Nat) : inB 0 127 ((rowW s).getD j 0) = true := by
  by_cases h : j < (rowW s).length
  · exact rowW_mem s _ (by rw [List.getD_eq_getElem?_getD, List.getElem?_eq_getElem h]; exact List.getElem_mem _)
  · rw [List.getD_eq_getElem?_getD, List.getElem?_eq_none (by omega)]; rfl
/-- Changes are the same both ways, and none just where the words are the same. -/
theorem back_changes {a b : ByteArray} (h : wchB a b = true) : wchB b a = true ∧ wchZ b a = wchZ a b ∧ (wchZ a b == 0) = (a == b) := by
  have hb := h
  unfold wchB at hb
  rw [Bool.and_eq_true] at hb
  have h2 : wchB b a = true := by unfold wchB; rw [hb.1, hb.2]; rfl
  obtain ⟨a1, a2⟩ := wordB_parts hb.1
  obtain ⟨b1, b2⟩ := wordB_parts hb.2
  refine ⟨h2, by unfold wchZ; rw [if_pos h, if_pos h2, chP_comm], ?_⟩
  unfold wchZ
  rw [if_pos h, Bool.eq_iff_iff, bytes_beq, beq_iff_eq]
  have hz := chP_zero (rowW a) (rowW b) (rowW_in a) (rowW_in b) 6
  have hnz : ∀ (s : ByteArray) (hs : allIn s = true) (j : Nat), j < s.size → (rowW s).getD j 0 ≠ 0 := fun s hs j hj => by
    rw [rowW_at s j hj]
    have hp := (place_of (isL_at hs j hj)).2
    have := letC_pos ⟨_, hp⟩
    simp only at this
    omega
  have hze : ∀ (s : ByteArray) (j : Nat), s.size ≤ j → (rowW s).getD j 0 = 0 := fun s j hj => by
    rw [List.getD_eq_getElem?_getD, List.getElem?_eq_none (by rw [rowW_length]; omega)]; rfl
  constructor
  · intro h9
    have h10 := hz.1 (by omega)
    have hsz : a.size = b.size := by
      rcases Nat.lt_trichotomy a.size b.size with h11 | h11 | h11
      · exact absurd ((h10 a.size (by omega)).symm.trans (hze a _ (Nat.le_refl _))) (hnz b b1 _ h11)
      · exact h11
      · exact absurd ((h10 b.size (by omega)).trans (hze b _ (Nat.le_refl _))) (hnz a a1 _ h11)
    have hrow : rowW a = rowW b := by
      apply List.ext_getElem
      · rw [rowW_length, rowW_length, hsz]
      · intro i hi1 hi2
        have h11 := h10 i (by rw [rowW_length] at hi1; omega)
        rw [List.getD_eq_getElem?_getD, List.getD_eq_getElem?_getD, List.getElem?_eq_getElem hi1, List.getElem?_eq_getElem hi2] at h11
        exact h11
    rw [← (spell_row a a1).2, ← (spell_row b b1).2, hrow]
  · intro h9
    subst h9
    have := hz.2 fun _ _ => rfl
    omega
end Go.Proofs.YtfdmcnnjifggnabGreatDoor
