/- The letters of bars as a list, and what is found among the numbers of next cells: plain law. -/
import Derived.Test.YtpcmlfohblglaabNimM
import Derived.Test.YtpcmlfohblglaabLBarsC
import Derived.Test.YtpcmlfohblglaabFive
namespace Go.Proofs.Ytpcmlfohblglaab
open Go.RowKit

/-- The bars of the first k of which p says so. -/
def barL (p : Nat → Bool) (k : Nat) : List Nat := (List.range k).filter p
theorem letter_at : ∀ k : Fin 7, ((⟨#[97, 98, 99, 100, 101, 102, 103]⟩ : ByteArray).extract k.val (k.val + 1)).data.toList = [UInt8.ofNat (97 + k.val)] := by decide +kernel
theorem letters_list (p : Nat → Bool) : ∀ k, k ≤ 7 → (lettersP p k).data.toList = (barL p k).map fun b => UInt8.ofNat (97 + b) := by
  intro k
  induction k with
  | zero => intro _; rfl
  | succ k ih =>
    intro hk
    have hr : barL p (k + 1) = if p k = true then barL p k ++ [k] else barL p k := by
      unfold barL
      rw [List.range_succ, List.filter_append]
      split <;> simp_all [List.filter_cons]
    rw [hr]
    unfold lettersP
    by_cases hp : p k = true
    · rw [if_pos hp, if_pos hp, ByteArray.data_append, Array.toList_append, ih (by omega), letter_at ⟨k, by omega⟩, List.map_append]
      rfl
    · rw [if_neg hp, if_neg hp]
      exact ih (by omega)
theorem letters_size (p : Nat → Bool) : (lettersP p 7).size = (barL p 7).length := by
  have h := congrArg List.length (letters_list p 7 (Nat.le_refl _))
  rw [List.length_map, Array.length_toList] at h
  exact h
theorem letters_byte (p : Nat → Bool) (j : Nat) (h : j < (lettersP p 7).size) : ∃ b, b < 7 ∧ p b = true ∧ (barL p 7)[j]? = some b ∧ ((lettersP p 7)[j]'h).toNat = 97 + b := by
  have hj : j < (barL p 7).length := by rw [← letters_size]; exact h
  have hm : (barL p 7)[j] ∈ barL p 7 := List.getElem_mem _
  have hm2 : (barL p 7)[j] < 7 ∧ p (barL p 7)[j] = true := by
    unfold barL at hm ⊢
    simpa [List.mem_filter] using hm
  refine ⟨(barL p 7)[j], hm2.1, hm2.2, List.getElem?_eq_getElem hj, ?_⟩
  have he : (lettersP p 7)[j]'h = UInt8.ofNat (97 + (barL p 7)[j]) := by
    show (lettersP p 7).data[j]'_ = _
    have h2 := letters_list p 7 (Nat.le_refl _)
    have h3 : (lettersP p 7).data.toList[j]? = ((barL p 7).map fun b => UInt8.ofNat (97 + b))[j]? := by rw [h2]
    rw [List.getElem?_map, List.getElem?_eq_getElem hj, Array.getElem?_toList, Array.getElem?_eq_getElem (show j < (lettersP p 7).data.size from h)] at h3
    exact Option.some.inj h3
  rw [he, UInt8.toNat_ofNat']
  omega
/-- Whether x is among the numbers of the first k cells that can come next. -/
def fndB (L : List Int) (C k x : Nat) : Bool := ((barL (nextB L C) 7).take k).any fun b => numC L ((C ||| 2 ^ b : Nat) : Int) == x
theorem fndB_succ (L : List Int) (C k x b : Nat) (h : (barL (nextB L C) 7)[k]? = some b) : fndB L C (k + 1) x = (fndB L C k x || (numC L ((C ||| 2 ^ b : Nat) : Int) == x)) := by
  unfold fndB
  rw [List.take_add_one, h, List.any_append]
  simp
theorem fndB_all (L : List Int) (C x : Nat) (hC : C < 128) (hx : x < numC L (C : Int)) : fndB L C (barL (nextB L C) 7).length x = true := by
  obtain ⟨b, hb, hn, he⟩ := num_below L C x hC hx
  unfold fndB
  rw [List.take_of_length_le (Nat.le_refl _), List.any_eq_true]
  refine ⟨b, ?_, by simpa using he⟩
  unfold barL
  simp [List.mem_filter, hb, hn]
theorem play_facts (c : Int) (L : List Int) (n : Nat) (h : playB c L n = true) : ∃ C : Nat, c = C ∧ C < 128 ∧ valOfI mexI c L n = (numC L (C : Int) : Int) ∧ numC L (C : Int) < 8 ∧ lightS c L n = lettersP (nextB L C) 7 ∧
    ∀ b, b < 7 → nextB L C b = true → playB ((C ||| 2 ^ b : Nat) : Int) L n = true ∧ valOfI mexI ((C ||| 2 ^ b : Nat) : Int) L n = (numC L ((C ||| 2 ^ b : Nat) : Int) : Int) ∧ numC L ((C ||| 2 ^ b : Nat) : Int) < 8 ∧ numC L ((C ||| 2 ^ b : Nat) : Int) ≠ numC L (C : Int) := by
  have hin := (playB_on h).2
  have hin2 := hin
  rw [inB_iff] at hin
  obtain ⟨C, rfl⟩ := Int.eq_ofNat_of_zero_le hin.1
  have hC : C < 128 := by omega
  have hval : ∀ x : Nat, x < 128 → playB (x : Int) L n = true → valOfI mexI (x : Int) L n = (numC L (x : Int) : Int) := fun x hx hp => by
    unfold valOfI numC
    rw [if_pos hp, Int.toNat_natCast, known_num L x hx]
  refine ⟨C, rfl, hC, hval C hC h, numC_lt L _ hin2, by unfold lightS; rw [if_pos h, Int.toNat_natCast], fun b hb hn => ?_⟩
  have hlt := lor_lt C b hC hb
  have hin3 : inB 0 127 ((C ||| 2 ^ b : Nat) : Int) = true := by rw [inB_iff]; omega
  have hp : playB ((C ||| 2 ^ b : Nat) : Int) L n = true := by
    unfold playB onOk at h ⊢
    simp only [Bool.and_eq_true] at h ⊢
    exact ⟨⟨h.1.1, hin3⟩, way_next hn⟩
  exact ⟨hp, hval _ hlt hp, numC_lt L _ hin3, num_next L C b hC hb hn⟩
theorem infoBool1 : (Try.prog.info? 4).map (fun i => (i.zero, i.size, i.bytes)) = some (some (.bool false), 1, 1) := by kernel_rfl
end Go.Proofs.Ytpcmlfohblglaab
