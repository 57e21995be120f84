/- Contracts of the functions that spell the word of a row. -/
import Derived.Test.YtfdmcnnjifggnabGreatDoorLetterOf
import Derived.Test.YtfdmcnnjifggnabGreatDoorRow
import Derived.Lib.Hide
namespace Go.Proofs.YtfdmcnnjifggnabGreatDoor
open Go.RowKit

/-- The letters of a list of cells, one behind the other. -/
def wordP (L : List Int) : Nat → ByteArray
  | 0 => ⟨#[]⟩
  | k + 1 => wordP L k ++ letS (L.getD k 0)
theorem letS_size (c : Int) : (letS c).size ≤ 1 := by
  unfold letS
  split
  · rw [ByteArray.size_extract]; omega
  · exact Nat.zero_le _
theorem wordP_size (L : List Int) (k : Nat) : (wordP L k).size ≤ k := by
  induction k with
  | zero => exact Nat.le_refl _
  | succ k ih => unfold wordP; rw [ByteArray.size_append]; have := letS_size (L.getD k 0); omega
/-- All cells of the list are letters. -/
def spellB (L : List Int) : Bool := L.all letOk
def spellS (L : List Int) : ByteArray := if spellB L = true then wordP L L.length else ⟨#[]⟩
theorem l10Spelt_any (ao : Option Addr) (n cap : Nat) (L : List Int) (w : World) (hr : RdI w ao L) (hn : L.length = n) (hm : n ≤ 1000000) :
    Calls Tryz.prog 43 #[.slice ao n cap] w fun e w' => e = .returned (.tuple #[.string (spellS L), .bool (spellB L)]) ∧ Below w.heap.size w w' := by
  have HN := Lib.hid hn
  clear hn
  go_enter Tryz.func43, Tryz.ntmps43
  go_wp2
  go_loopw [4, 5] (fun s i wr => ∃ k : Nat, k ≤ n ∧ i = .int .i64 k ∧ s = .string (wordP L k) ∧ Hid ((L.take k).all letOk = true) ∧ Below w.heap.size w wr) (fun _ i _ => n - (intOf i).toNat)
  case atStart => exact ⟨0, by omega, rfl, rfl, rfl, Below.refl _ _⟩
  case round =>
    obtain ⟨k, hk, rfl, rfl, hall, hbw⟩ := hrel
    have hsz := wordP_size L k
    by_cases hlt : k < n
    · rcases RdI_below hr hbw with h | ⟨b1, o1, rfl, hb1, hc1⟩
      · have := HN.out; rw [h] at this; simp at this; omega
      have hx := hc1 k (by rw [HN.out]; omega)
      have hsucc := all_take_succ letOk L k (by rw [HN.out]; omega)
      have hbad := all_bad letOk L k (by rw [HN.out]; omega)
      have hw : wordP L (k + 1) = wordP L k ++ letS (L.getD k 0) := rfl
      generalize wordP L k = S at hsz hw ⊢
      generalize L.getD k 0 = y at hx hsucc hbad hw
      have HC := Lib.hid (fun W => l10Read_any y W)
      clear hc1
      unfold letOk letS at *
      rcases letP_cases y with h | ⟨j, hj, h⟩
      · rw [h] at HC hbad
        have hres : spellB L = false := hbad (by decide)
        have hres2 : spellS L = ⟨#[]⟩ := by unfold spellS; rw [hres]; rfl
        have HR := Lib.hid hres
        have HR2 := Lib.hid hres2
        clear hres hres2 hbad hsucc h hw
        go_wp2_with (first | (go_at_call 66; refine (HC.out _).mono ?_; rintro e w1 ⟨rfl, hb1⟩))
        go_ret2
        exact ⟨by rw [HR.out, HR2.out]; rfl, belowThen hbw hb1⟩
      · rw [h] at HC hsucc hw
        rw [if_pos (by omega), Int.toNat_natCast] at hw
        rw [decide_eq_true (by omega), Bool.and_true] at hsucc
        have HS := Lib.hid hsucc
        have HW := Lib.hid hw
        clear hsucc hbad h hw
        go_wp2_with (first | (go_at_call 66; refine (HC.out _).mono ?_; rintro e w1 ⟨rfl, hb1⟩))
        go_roundw
        case rel => exact ⟨k + 1, by omega, by go_num, by rw [HW.out]; rfl, (by show _ = _; rw [HS.out]; exact hall.out), belowThen hbw hb1⟩
        case measure => simp [intOf]; omega
    · have hkn : k = n := by omega
      subst hkn
      have hall' := hall.out
      rw [List.take_of_length_le (by rw [HN.out]; omega)] at hall'
      have hres : spellB L = true := hall'
      have hres2 : spellS L = wordP L k := by unfold spellS; rw [hres, if_pos rfl, HN.out]
      have HR := Lib.hid hres
      have HR2 := Lib.hid hres2
      clear hres hres2 hall hall'
      generalize wordP L k = S at *
      go_wp2
      go_ret2
      exact ⟨by rw [HR.out, HR2.out]; rfl, hbw⟩
/-- The word of a row, and whether there is one. -/
def worB (L : List Int) : Bool := rowB L && spellB L
def worS (L : List Int) : ByteArray := if rowB L = true then spellS L else ⟨#[]⟩
theorem WordOfRowS_any (ao : Option Addr) (n cap : Nat) (L : List Int) (w : World) (hr : RdI w ao L) (hn : L.length = n) (hm : n ≤ maxLen) (_ : n ≤ cap) :
    Calls Tryz.prog 11 #[.slice ao n cap] w fun e w' => e = .returned (.tuple #[.string (worS L), .bool (worB L)]) ∧ Below w.heap.size w w' := by
  unfold worS worB
  have HR := Lib.hid (l2Row_any ao n cap L w hr hn hm)
  have hlen := rowB_len (L := L)
  rw [hn] at hlen
  have HC := fun h6 => Lib.hid (l10Spelt_any ao n cap L w hr hn h6)
  generalize rowB L = q at HR hlen ⊢
  generalize spellS L = s at HC ⊢
  generalize spellB L = b at HC ⊢
  clear hr hn
  rcases q with _ | _
  · clear HC hlen
    go_enter Tryz.func11, Tryz.ntmps11
    go_wp2_with (first | (go_at_call 42; refine HR.out.mono ?_; rintro e w1 ⟨rfl, rfl⟩))
    go_ret2
    exact ⟨rfl, Below.refl _ _⟩
  · have HC := HC (by have := hlen rfl; omega)
    clear hlen
    go_enter Tryz.func11, Tryz.ntmps11
    go_wp2_with (first | (go_at_call 42; refine HR.out.mono ?_; rintro e w1 ⟨rfl, rfl⟩) | (go_at_call 43; refine HC.out.mono ?_; rintro e w1 ⟨rfl, hb1⟩))
    go_ret2
    exact ⟨rfl, hb1⟩
set_option maxHeartbeats 400000 in
theorem WordOfRowI_any (ao : Option Addr) (n cap : Nat) (L : List Int) (w : World) (hr : RdI w ao L) (hn : L.length = n) (hm : n ≤ maxLen) (_ : n ≤ cap) :
    Calls Tryz.prog 10 #[.slice ao n cap] w fun e w' => e = .returned (.tuple #[.string (worS L), .bool (worB L)]) ∧ Below w.heap.size w w' := by
  unfold worS worB
  have HR := Lib.hid (IsRow_any ao n cap L w hr hn hm)
  have hlen := rowB_len (L := L)
  have HN := Lib.hid hn
  rw [hn] at hlen
  clear hn
  generalize rowB L = q at HR hlen ⊢
  rcases q with _ | _
  · clear hlen
    go_enter Tryz.func10, Tryz.ntmps10
    go_wp2_with (first | (go_at_call 41; refine HR.out.mono ?_; rintro e w1 ⟨rfl, hb1⟩))
    go_ret2
    exact ⟨rfl, hb1⟩
  · have hn6 := hlen rfl
    clear hlen
    rw [if_pos rfl, Bool.true_and]
    go_enter Tryz.func10, Tryz.ntmps10
    go_wp2_with (first | (go_at_call 41; refine HR.out.mono ?_; rintro e w1 ⟨rfl, hb1⟩))
    go_loopw [4, 14] (fun s i wr => ∃ k : Nat, k ≤ n ∧ i = .int .i64 k ∧ s = .string (wordP L k) ∧ Hid ((L.take k).all letOk = true) ∧ Below w.heap.size w wr) (fun _ i _ => n - (intOf i).toNat)
    case atStart => exact ⟨0, by omega, rfl, rfl, rfl, hb1⟩
    case round =>
      obtain ⟨k, hk, rfl, rfl, hall, hbw⟩ := hrel
      have hsz := wordP_size L k
      by_cases hlt : k < n
      · rcases RdI_below hr hbw with h | ⟨b1, o1, rfl, hb1', hc1⟩
        · have := HN.out; rw [h] at this; simp at this; omega
        have hx := hc1 k (by rw [HN.out]; omega)
        have hsucc := all_take_succ letOk L k (by rw [HN.out]; omega)
        have hbad := all_bad letOk L k (by rw [HN.out]; omega)
        have hw : wordP L (k + 1) = wordP L k ++ letS (L.getD k 0) := rfl
        generalize wordP L k = S at hsz hw ⊢
        generalize L.getD k 0 = y at hx hsucc hbad hw
        have HC := Lib.hid (fun W => LetterOfI_any y W)
        have hls := letS_size y
        clear hc1
        generalize letS y = ls at HC hw hls
        generalize letOk y = q at HC hsucc hbad
        rcases q with _ | _
        · have hres : spellB L = false := hbad rfl
          have hres2 : spellS L = ⟨#[]⟩ := by unfold spellS; rw [hres]; rfl
          have HR := Lib.hid hres
          have HR2 := Lib.hid hres2
          clear hres hres2 hbad hsucc hw
          go_wp2_with (first | (go_at_call 25; refine (HC.out _).mono ?_; rintro e w2 ⟨rfl, hb2⟩))
          go_ret2
          exact ⟨by rw [HR.out, HR2.out]; rfl, belowThen hbw hb2⟩
        · rw [Bool.and_true] at hsucc
          have HS := Lib.hid hsucc
          have HW := Lib.hid hw
          clear hsucc hbad hw
          go_wp2_with (first | (go_at_call 25; refine (HC.out _).mono ?_; rintro e w2 ⟨rfl, hb2⟩))
          go_roundw
          case rel => exact ⟨k + 1, by omega, by go_num, by rw [HW.out], (by show _ = _; rw [HS.out]; exact hall.out), belowThen hbw hb2⟩
          case measure => simp [intOf]; omega
      · have hkn : k = n := by omega
        subst hkn
        have hall' := hall.out
        rw [List.take_of_length_le (by rw [HN.out]; omega)] at hall'
        have hres : spellB L = true := hall'
        have hres2 : spellS L = wordP L k := by unfold spellS; rw [hres, if_pos rfl, HN.out]
        have HR := Lib.hid hres
        have HR2 := Lib.hid hres2
        clear hres hres2 hall hall'
        generalize wordP L k = S at *
        go_wp2
        go_ret2
        exact ⟨by rw [HR.out, HR2.out]; rfl, hbw⟩
end Go.Proofs.YtfdmcnnjifggnabGreatDoor
