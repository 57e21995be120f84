/- Contracts of the functions that count the bars of a word, and of those that count changes between rows. -/
import Derived.Test.YtfdmcnnjifggnabGreatDoorShort
import Derived.Test.YtfdmcnnjifggnabGreatDoorFar
import Derived.Lib.Hide
namespace Go.Proofs.YtfdmcnnjifggnabGreatDoor
open Go.RowKit

/-- The bars of the first k cells. -/
def litP (L : List Int) : Nat → Nat
  | 0 => 0
  | k + 1 => litP L k + cnt (L.getD k 0).toNat
theorem litP_le (L : List Int) (k : Nat) : litP L k ≤ 7 * k := by
  induction k with
  | zero => exact Nat.le_refl _
  | succ k ih => have := cnt_le (L.getD k 0).toNat; unfold litP; omega
def litZ (s : ByteArray) : Int := if wordB s 12 = true then ((litP (rowW s) s.size : Nat) : Int) else 0
theorem memGetD {R : List Int} {k : Nat} (h : k < R.length) : R.getD k 0 ∈ R := by
  have e : R.getD k 0 = R[k] := by rw [List.getD_eq_getElem?_getD, List.getElem?_eq_getElem h]; rfl
  rw [e]; exact List.getElem_mem _
theorem cellNat {x : Int} (h : inB 0 127 x = true) : ∃ c : Nat, x = (c : Int) ∧ c < 128 := by
  rw [inB_iff] at h
  obtain ⟨c, rfl⟩ := Int.eq_ofNat_of_zero_le h.1
  exact ⟨c, rfl, by omega⟩
set_option maxHeartbeats 800000 in
theorem WordLitS_any (s : ByteArray) (hs : s.size ≤ maxLen) (w : World) : Calls Tryz.prog 29 #[.string s] w fun e w' => e = .returned (.tuple #[.int .i64 (litZ s), .bool (wordB s 12)]) ∧ Below w.heap.size w w' := by
  have HW := Lib.hid (fun W => l10Word_any s 12 (by decide) hs W)
  have hall := wordB_all (s := s) (m := 12)
  unfold litZ
  generalize wordB s 12 = q at HW hall ⊢
  rcases q with _ | _
  · rw [if_neg (by decide)]
    clear hall
    have hA1 := @cellAlloc; have hA2 := @frozenAlloc; have hA3 := @setCellAlloc; go_enter Tryz.func29, Tryz.ntmps29
    go_wp2_with (first | (go_at_call 37; refine (HW.out _).mono ?_; rintro e w' ⟨rfl, rfl⟩))
    go_ret2
    exact ⟨rfl, Below.refl _ _⟩
  · rw [if_pos rfl]
    have h := hall rfl
    have HR := Lib.hid (fun W => l10Row_any s (by omega) h.1 W)
    have hl := rowW_length s
    have HM := Lib.hid (rowW_mem s)
    have hle := h.2
    rw [← hl] at hle ⊢
    generalize rowW s = L at HR HM hle ⊢
    clear hall h hl
    have hA1 := @cellAlloc; have hA2 := @frozenAlloc; have hA3 := @setCellAlloc; go_enter Tryz.func29, Tryz.ntmps29
    go_wp2_with (first | (go_at_call 37; refine (HW.out _).mono ?_; rintro e w' ⟨rfl, rfl⟩) | (go_at_call 38; refine (HR.out _).mono ?_; rintro e w2 ⟨ao, ca, rfl, hown, hb2⟩))
    have hr := RdI_owns hown
    go_loop [4, 6] (fun m i => ∃ k : Nat, k ≤ L.length ∧ i = .int .i64 k ∧ m = .int .i64 (litP L k)) (fun _ i => L.length - (intOf i).toNat)
    case atStart => exact ⟨0, by omega, rfl, rfl⟩
    case round =>
      obtain ⟨k, hk, rfl, rfl⟩ := hrel
      clear hown
      have hlp := litP_le L k
      by_cases hlt : k < L.length
      · have hd : decide ((k : Int) < (L.length : Int)) = true := by simp; omega
        rcases hr with h | ⟨b1, o1, rfl, hb1, hc1⟩
        · rw [h] at hlt; simp at hlt
        have hx := hc1 k hlt
        obtain ⟨c, hc, hc2⟩ := cellNat (HM.out _ (memGetD hlt))
        have hsucc : litP L (k + 1) = litP L k + cnt (L.getD k 0).toNat := rfl
        rw [hc] at hx hsucc
        rw [Int.toNat_natCast] at hsucc
        have hcl := cnt_le c
        have HC := Lib.hid (fun W => l2Count_any c hc2 W)
        generalize cnt c = y at hsucc hcl HC
        generalize litP L k = S at hsucc hlp ⊢
        have HS := Lib.hid hsucc
        clear hsucc hc1 hc
        go_wp2_with (first | (go_at_call 69; refine (HC.out _).mono ?_; rintro e w' ⟨rfl, rfl⟩))
        go_round
        case rel => exact ⟨k + 1, by omega, by go_num, by rw [HS.out]; go_num⟩
        case measure => simp [intOf]; omega
      · have hkn : k = L.length := by omega
        subst hkn
        go_wp2
        go_ret2
        exact ⟨rfl, hb2⟩
set_option maxHeartbeats 800000 in
theorem WordLitI_any (s : ByteArray) (hs : s.size ≤ maxLen) (w : World) : Calls Tryz.prog 28 #[.string s] w fun e w' => e = .returned (.tuple #[.int .i64 (litZ s), .bool (wordB s 12)]) ∧ Below w.heap.size w w' := by
  have HW := Lib.hid (fun W => IsWordI_any s W hs)
  have hall := wordB_all (s := s) (m := 12)
  unfold litZ
  generalize wordB s 12 = q at HW hall ⊢
  rcases q with _ | _
  · rw [if_neg (by decide)]
    clear hall
    have hA1 := @cellAlloc; have hA2 := @frozenAlloc; have hA3 := @setCellAlloc; go_enter Tryz.func28, Tryz.ntmps28
    go_wp2_with (first | (go_at_call 30; refine (HW.out _).mono ?_; rintro e w1 ⟨rfl, hb1⟩))
    go_ret2
    exact ⟨rfl, hb1⟩
  · rw [if_pos rfl]
    have h := hall rfl
    have HR := Lib.hid (fun W => rowOfWord_any s (by omega) h.1 W)
    have hl := rowW_length s
    have HM := Lib.hid (rowW_mem s)
    have hle := h.2
    rw [← hl] at hle ⊢
    generalize rowW s = L at HR HM hle ⊢
    clear hall h hl
    have hA1 := @cellAlloc; have hA2 := @frozenAlloc; have hA3 := @setCellAlloc; go_enter Tryz.func28, Tryz.ntmps28
    go_wp2_with (first | (go_at_call 30; refine (HW.out _).mono ?_; rintro e w1 ⟨rfl, hb1⟩) | (go_at_call 36; refine (HR.out _).mono ?_; rintro e w2 ⟨ao, ca, rfl, hown, hb2⟩))
    have hr := RdI_owns hown
    go_loop [4, 13] (fun m i => ∃ k : Nat, k ≤ L.length ∧ i = .int .i64 k ∧ m = .int .i64 (litP L k)) (fun _ i => L.length - (intOf i).toNat)
    case atStart => exact ⟨0, by omega, rfl, rfl⟩
    case round =>
      obtain ⟨k, hk, rfl, rfl⟩ := hrel
      clear hown
      have hlp := litP_le L k
      by_cases hlt : k < L.length
      · have hd : decide ((k : Int) < (L.length : Int)) = true := by simp; omega
        rcases hr with h | ⟨b1, o1, rfl, hb1', hc1⟩
        · rw [h] at hlt; simp at hlt
        have hx := hc1 k hlt
        obtain ⟨c, hc, hc2⟩ := cellNat (HM.out _ (memGetD hlt))
        have hsucc : litP L (k + 1) = litP L k + cnt (L.getD k 0).toNat := rfl
        rw [hc] at hx hsucc
        rw [Int.toNat_natCast] at hsucc
        have hcl := cnt_le c
        have HC := Lib.hid (fun W => count_any c hc2 W)
        generalize cnt c = y at hsucc hcl HC
        generalize litP L k = S at hsucc hlp ⊢
        have HS := Lib.hid hsucc
        clear hsucc hc1 hc
        go_wp2_with (first | (go_at_call 68; refine (HC.out _).mono ?_; rintro e w' ⟨rfl, rfl⟩))
        go_round
        case rel => exact ⟨k + 1, by omega, by go_num, by rw [HS.out]; go_num⟩
        case measure => simp [intOf]; omega
      · have hkn : k = L.length := by omega
        subst hkn
        go_wp2
        go_ret2
        exact ⟨rfl, belowThen hb1 hb2⟩
end Go.Proofs.YtfdmcnnjifggnabGreatDoor
