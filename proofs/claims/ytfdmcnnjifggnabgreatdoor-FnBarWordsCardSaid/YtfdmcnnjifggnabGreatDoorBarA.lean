/- Words and their rows, there and back: plain law. -/
import Derived.Test.YtfdmcnnjifggnabGreatDoorRowW
import Derived.Test.YtfdmcnnjifggnabGreatDoorSpell
namespace Go.Proofs.YtfdmcnnjifggnabGreatDoor
open Go.RowKit

/-- The letter at each place of the alphabet is that of its cell. -/
theorem letP_letC : ∀ k : Fin 16, letP ((letC k.val : Nat) : Int) = (k.val : Int) := by decide +kernel
theorem abc_cut : ∀ k : Fin 16, alphaB.extract k.val (k.val + 1) = ⟨#[UInt8.ofNat (abcN.getD k.val 0)]⟩ := by decide +kernel
theorem abc_place : ∀ b : Fin 256, isL b.val = true → abcN.getD (placeN b.val) 0 = b.val := by decide +kernel
theorem abc_in : ∀ k : Fin 16, isL (abcN.getD k.val 0) = true ∧ placeN (abcN.getD k.val 0) = k.val ∧ abcN.getD k.val 0 < 256 := by decide +kernel
theorem letS_at (k : Nat) (hk : k < 16) : letOk ((letC k : Nat) : Int) = true ∧ letS ((letC k : Nat) : Int) = ⟨#[UInt8.ofNat (abcN.getD k 0)]⟩ := by
  have h := letP_letC ⟨k, hk⟩
  simp only at h
  have h2 := abc_cut ⟨k, hk⟩
  simp only at h2
  unfold letOk letS
  rw [h]
  refine ⟨by simp, ?_⟩
  rw [if_pos (by omega), Int.toNat_natCast]
  exact h2
theorem letS_byte (b : UInt8) (h : isL b.toNat = true) : letOk ((letC (placeN b.toNat) : Nat) : Int) = true ∧ letS ((letC (placeN b.toNat) : Nat) : Int) = ⟨#[b]⟩ := by
  have h1 := letS_at (placeN b.toNat) (place_of h).2
  have h2 := abc_place ⟨b.toNat, b.toNat_lt⟩ h
  simp only at h2
  rw [h2] at h1
  simpa using h1
/-- Letters one behind the other, as a list of bytes. -/
theorem wordP_list (L : List Int) (f : Int → UInt8) : ∀ k, k ≤ L.length → (∀ x ∈ L, letS x = ⟨#[f x]⟩) → (wordP L k).data.toList = (L.take k).map f := by
  intro k
  induction k with
  | zero => intro _ _; rfl
  | succ k ih =>
    intro hk hf
    have hx : L.getD k 0 = L[k]'(by omega) := by rw [List.getD_eq_getElem?_getD, List.getElem?_eq_getElem (by omega)]; rfl
    unfold wordP
    rw [ByteArray.data_append, Array.toList_append, ih (by omega) hf, hx, hf _ (List.getElem_mem _), List.take_add_one, List.getElem?_eq_getElem (by omega), List.map_append]
    rfl
theorem all_byte {s : ByteArray} (h : allIn s = true) : ∀ b ∈ s.data.toList, isL b.toNat = true := by
  unfold allIn at h
  exact fun b hb => List.all_eq_true.1 h b hb
/-- A word is the one that its row spells. -/
theorem spell_row (s : ByteArray) (h : allIn s = true) : spellB (rowW s) = true ∧ spellS (rowW s) = s := by
  have hb := all_byte h
  have hok : spellB (rowW s) = true := by
    unfold spellB rowW
    rw [List.all_eq_true]
    intro x hx
    obtain ⟨b, hb2, rfl⟩ := List.mem_map.1 hx
    exact (letS_byte b (hb b hb2)).1
  refine ⟨hok, ?_⟩
  unfold spellS
  rw [if_pos hok]
  have hl : (wordP (rowW s) (rowW s).length).data.toList = s.data.toList := by
    rw [wordP_list (rowW s) (fun x => UInt8.ofNat (abcN.getD (letP x).toNat 0)) _ (Nat.le_refl _) (fun x hx => by
      unfold rowW at hx
      obtain ⟨b, hb2, rfl⟩ := List.mem_map.1 hx
      have hp := (place_of (hb b hb2)).2
      rw [(letS_at _ hp).2]
      have h3 := letP_letC ⟨placeN b.toNat, hp⟩
      simp only at h3
      rw [h3, Int.toNat_natCast])]
    rw [List.take_of_length_le (Nat.le_refl _)]
    unfold rowW
    rw [List.map_map]
    refine (List.map_congr_left fun b hb2 => ?_).trans (List.map_id _)
    have hp := (place_of (hb b hb2)).2
    have h3 := letP_letC ⟨placeN b.toNat, hp⟩
    simp only at h3
    show UInt8.ofNat (abcN.getD (letP ((letC (placeN b.toNat) : Nat) : Int)).toNat 0) = b
    rw [h3, Int.toNat_natCast]
    have h2 := abc_place ⟨b.toNat, b.toNat_lt⟩ (hb b hb2)
    simp only at h2
    rw [h2]
    simp
  exact ByteArray.ext (Array.toList_inj.1 hl)
theorem idxFrom_hit (L : List Int) (x : Int) : ∀ n : Nat, idxFrom L x n = -1 ∨ ∃ k : Nat, k < L.length ∧ idxFrom L x n = ((n + k : Nat) : Int) ∧ L.getD k 0 = x := by
  induction L with
  | nil => intro n; exact .inl rfl
  | cons y ys ih =>
    intro n
    unfold idxFrom
    by_cases h : y = x
    · rw [if_pos h]; exact .inr ⟨0, by simp, by simp, by simpa using h⟩
    · rw [if_neg h]
      rcases ih (n + 1) with h1 | ⟨k, h1, h2, h3⟩
      · exact .inl h1
      · exact .inr ⟨k + 1, by simpa using h1, by rw [h2]; congr 1; omega, by simpa using h3⟩
/-- A cell that is a letter is the one of its place. -/
theorem letOk_cell (x : Int) (h : letOk x = true) : ∃ k : Nat, k < 16 ∧ letP x = (k : Int) ∧ x = ((letC k : Nat) : Int) := by
  unfold letOk at h
  have h0 : 0 ≤ letP x := by simpa using h
  unfold letP at h0 ⊢
  rcases idxFrom_hit letL x 0 with h1 | ⟨k, h1, h2, h3⟩
  · rw [h1] at h0; omega
  · rw [letL_length] at h1
    rw [letL_getD] at h3
    exact ⟨k, h1, by rw [h2, Nat.zero_add], h3.symm⟩
/-- A row that can be spelt is that of its word. -/
theorem row_spell (L : List Int) (h : spellB L = true) : rowW (spellS L) = L ∧ allIn (spellS L) = true ∧ (spellS L).size = L.length := by
  have hx : ∀ x ∈ L, letOk x = true := fun x hx => by unfold spellB at h; exact List.all_eq_true.1 h x hx
  have hlist : (spellS L).data.toList = L.map fun x => UInt8.ofNat (abcN.getD (letP x).toNat 0) := by
    unfold spellS
    rw [if_pos h, wordP_list L (fun x => UInt8.ofNat (abcN.getD (letP x).toNat 0)) _ (Nat.le_refl _) (fun x hm => by
      obtain ⟨k, hk, hp, he⟩ := letOk_cell x (hx x hm)
      rw [hp, Int.toNat_natCast]
      rw [he]
      exact (letS_at k hk).2), List.take_of_length_le (Nat.le_refl _)]
  have hb : ∀ x ∈ L, isL (UInt8.ofNat (abcN.getD (letP x).toNat 0)).toNat = true ∧ ((letC (placeN (UInt8.ofNat (abcN.getD (letP x).toNat 0)).toNat) : Nat) : Int) = x := fun x hm => by
    obtain ⟨k, hk, hp, he⟩ := letOk_cell x (hx x hm)
    have hi := abc_in ⟨k, hk⟩
    simp only at hi
    rw [hp, Int.toNat_natCast, UInt8.toNat_ofNat', Nat.mod_eq_of_lt (by have := hi.2.2; omega)]
    exact ⟨hi.1, by rw [hi.2.1, he]⟩
  refine ⟨?_, ?_, ?_⟩
  · unfold rowW
    rw [hlist, List.map_map]
    exact (List.map_congr_left fun x hm => (hb x hm).2).trans (List.map_id _)
  · unfold allIn
    rw [hlist, List.all_eq_true]
    intro b hm
    obtain ⟨x, hm2, rfl⟩ := List.mem_map.1 hm
    exact (hb x hm2).1
  · have := congrArg List.length hlist
    rw [List.length_map, Array.length_toList] at this
    exact this
end Go.Proofs.YtfdmcnnjifggnabGreatDoor
