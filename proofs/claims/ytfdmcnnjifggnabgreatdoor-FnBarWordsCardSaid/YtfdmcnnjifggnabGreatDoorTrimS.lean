/- Contracts: a text is trimmed by the letters; is a text a word. -/
import Derived.Test.YtfdmcnnjifggnabGreatDoorTrim
import Derived.Test.YtfdmcnnjifggnabGreatDoorRd
import Derived.Lib.Hide
namespace Go.Proofs.YtfdmcnnjifggnabGreatDoor
open Go.RowKit

/-- All bytes of the text are letters. -/
def allIn (s : ByteArray) : Bool := s.data.toList.all fun b => isL b.toNat
def szS : Value → Nat
  | .string s => s.size
  | _ => 0
theorem toList_inj {a b : ByteArray} (h : a.data.toList = b.data.toList) : a = b := by
  cases a; cases b; simp only at h; congr 1; exact Array.toList_inj.1 h
theorem extB (a : ByteArray) (i j : Nat) : (a.extract i j).data.toList = (a.data.toList.drop i).take (j - i) := by
  simp [ByteArray.data_extract]
theorem size_len (a : ByteArray) : a.data.toList.length = a.size := rfl
theorem empty_of (a : ByteArray) (h : a.size = 0) : a = ⟨#[]⟩ := toList_inj (List.eq_nil_of_length_eq_zero (by rw [size_len]; exact h))
theorem at_list (a : ByteArray) (k : Nat) (h : k < a.size) : a[k]'h = a.data.toList[k]'(by rw [size_len]; exact h) := rfl
theorem allL_right (p : UInt8 → Bool) (L : List UInt8) (n : Nat) (h : L.length = n + 1) : L.all p = ((L.take n).all p && p (L[n]'(by omega))) := by
  have e : L = L.take n ++ [L[n]'(by omega)] := by
    rw [← List.take_succ_eq_append_getElem (by omega), List.take_of_length_le (by omega)]
  conv => lhs; rw [e]
  rw [List.all_append]
  simp
theorem allL_left (p : UInt8 → Bool) (L : List UInt8) (h : 0 < L.length) : L.all p = (p (L[0]'h) && (L.drop 1).all p) := by
  cases L with
  | nil => simp at h
  | cons a L => rfl
theorem allIn_right (r : ByteArray) (n : Nat) (h : r.size = n + 1) : allIn r = (allIn (r.extract 0 n) && isL (r[n]'(by omega)).toNat) := by
  unfold allIn
  rw [extB, List.drop_zero, Nat.sub_zero, at_list]
  exact allL_right _ _ n (by rw [size_len]; exact h)
theorem allIn_left (r : ByteArray) (h : 0 < r.size) : allIn r = (isL (r[0]'h).toNat && allIn (r.extract 1 r.size)) := by
  unfold allIn
  rw [extB, at_list]
  have e2 : (List.drop 1 r.data.toList).take (r.size - 1) = List.drop 1 r.data.toList := List.take_of_length_le (by rw [List.length_drop, size_len]; omega)
  rw [e2]
  exact allL_left _ _ (by rw [size_len]; exact h)
theorem notEmpty (s : ByteArray) (h : 0 < s.size) : s.toList.isEmpty = false := by
  rw [← Bool.not_eq_true, List.isEmpty_iff]
  intro hc
  have := congrArg List.length hc
  rw [Lib.toList_data, size_len, List.length_nil] at this
  omega
theorem contains_any (g : Nat) (b : UInt8) (w : World) (hs : w.rowIs g 77 256 (fun j => .bool (isL j))) :
    Calls Tryz.prog 109 #[.pointer (some ⟨g, 0, none⟩), .int .u8 b.toNat] w fun e w' => e = .returned (.bool (isL b.toNat)) ∧ w = w' := by
  have hb : b.toNat < 256 := b.toNat_lt
  have hc := hs.cell (i := b.toNat) hb
  generalize hq : isL b.toNat = q at hc ⊢
  generalize b.toNat = c at *
  have hi : (c : Int) < 256 := by omega
  clear hq
  go_enter Tryz.func109, Tryz.ntmps109
  go_wp2
  go_ret
  exact ⟨rfl, rfl⟩
set_option maxHeartbeats 800000 in
theorem trimRight_any (s : ByteArray) (g : Nat) (w : World) (hs : s.size ≤ 1000000) (hset : w.rowIs g 77 256 (fun j => .bool (isL j))) :
    Calls Tryz.prog 95 #[.string s, .pointer (some ⟨g, 0, none⟩)] w fun e w' => (∃ r, e = .returned (.string r) ∧ allIn r = allIn s ∧ (allIn s = true → r = ⟨#[]⟩) ∧ r.size ≤ s.size) ∧ w = w' := by
  obtain ⟨A, hA⟩ : ∃ A, allIn s = A := ⟨_, rfl⟩
  rw [hA]
  have HA := Lib.hid hA
  clear hA
  go_enter Tryz.func95, Tryz.ntmps95
  go_wp2
  go_loop [0] (fun v => ∃ r : ByteArray, v = .string r ∧ allIn r = A ∧ r.size ≤ s.size) (fun v => szS v)
  case atStart => exact ⟨s, rfl, HA.out, Nat.le_refl _⟩
  case round =>
    obtain ⟨r, rfl, hr, hsz⟩ := hrel
    rcases Nat.eq_zero_or_pos r.size with h0 | hpos
    · have he := empty_of r h0
      subst he
      have hr' : A = true := hr.symm
      subst hr'
      go_wp2
      go_ret
      exact ⟨⟨_, rfl, rfl, by simp, Nat.zero_le _⟩, rfl⟩
    · obtain ⟨n, hn⟩ : ∃ n, r.size = n + 1 := ⟨r.size - 1, by omega⟩
      have hlast := allIn_right r n hn
      rw [hr] at hlast
      have HC := Lib.hid (fun W h => contains_any g (r[n]'(by omega)) W h)
      generalize hq : isL (r[n]'(by omega)).toNat = q at hlast HC
      have HL := Lib.hid hlast
      have HR := Lib.hid hr
      clear hlast hr
      rcases q with _ | _
      · have hf : A = false := by rw [HL.out, Bool.and_false]
        subst hf
        go_wp2_with (first | (go_at_call 109; refine (HC.out _ hset).mono ?_; rintro e w' ⟨rfl, rfl⟩))
        go_ret
        exact ⟨⟨_, rfl, HR.out, by simp, hsz⟩, rfl⟩
      · rw [Bool.and_true] at HL
        have he : (r.extract 0 n).size = n := by rw [ByteArray.size_extract]; omega
        go_wp2_with (first | (go_at_call 109; refine (HC.out _ hset).mono ?_; rintro e w' ⟨rfl, rfl⟩))
        go_round
        case rel => exact ⟨_, rfl, HL.out.symm, by rw [he]; omega⟩
        case measure => simp only [szS]; rw [he]; omega
set_option maxHeartbeats 800000 in
theorem trimLeft_any (s : ByteArray) (g : Nat) (w : World) (hs : s.size ≤ 1000000) (hset : w.rowIs g 77 256 (fun j => .bool (isL j))) :
    Calls Tryz.prog 94 #[.string s, .pointer (some ⟨g, 0, none⟩)] w fun e w' => (∃ r, e = .returned (.string r) ∧ allIn r = allIn s ∧ (allIn s = true → r = ⟨#[]⟩) ∧ r.size ≤ s.size) ∧ w = w' := by
  obtain ⟨A, hA⟩ : ∃ A, allIn s = A := ⟨_, rfl⟩
  rw [hA]
  have HA := Lib.hid hA
  clear hA
  go_enter Tryz.func94, Tryz.ntmps94
  go_wp2
  go_loop [0] (fun v => ∃ r : ByteArray, v = .string r ∧ allIn r = A ∧ r.size ≤ s.size) (fun v => szS v)
  case atStart => exact ⟨s, rfl, HA.out, Nat.le_refl _⟩
  case round =>
    obtain ⟨r, rfl, hr, hsz⟩ := hrel
    rcases Nat.eq_zero_or_pos r.size with h0 | hpos
    · have he := empty_of r h0
      subst he
      have hr' : A = true := hr.symm
      subst hr'
      go_wp2
      go_ret
      exact ⟨⟨_, rfl, rfl, by simp, Nat.zero_le _⟩, rfl⟩
    · have hlast := allIn_left r hpos
      rw [hr] at hlast
      have HC := Lib.hid (fun W h => contains_any g (r[0]'hpos) W h)
      generalize hq : isL (r[0]'hpos).toNat = q at hlast HC
      have HL := Lib.hid hlast
      have HR := Lib.hid hr
      clear hlast hr
      rcases q with _ | _
      · have hf : A = false := by rw [HL.out, Bool.false_and]
        subst hf
        go_wp2_with (first | (go_at_call 109; refine (HC.out _ hset).mono ?_; rintro e w' ⟨rfl, rfl⟩))
        go_ret
        exact ⟨⟨_, rfl, HR.out, by simp, hsz⟩, rfl⟩
      · rw [Bool.true_and] at HL
        have he : (r.extract 1 r.size).size = r.size - 1 := by rw [ByteArray.size_extract]; omega
        go_wp2_with (first | (go_at_call 109; refine (HC.out _ hset).mono ?_; rintro e w' ⟨rfl, rfl⟩))
        go_round
        case rel => exact ⟨_, rfl, HL.out.symm, by rw [he]; omega⟩
        case measure => simp only [szS]; rw [he]; omega
set_option maxHeartbeats 800000 in
set_option maxRecDepth 100000 in
theorem Trim_any (s : ByteArray) (w : World) (hs : s.size ≤ 1000000) :
    Calls Tryz.prog 70 #[.string s, .string abcB] w fun e w' => (∃ r, e = .returned (.string r) ∧ allIn r = allIn s ∧ (allIn s = true → r = ⟨#[]⟩)) ∧ Below w.heap.size w w' := by
  rcases Nat.eq_zero_or_pos s.size with h0 | hpos
  · have he := empty_of s h0
    subst he
    go_enter Tryz.func70, Tryz.ntmps70
    go_wp2
    go_ret
    exact ⟨⟨_, rfl, rfl, by simp⟩, Below.refl _ _⟩
  · have hne : ¬ s = ⟨#[]⟩ := fun h => by rw [h] at hpos; simp [ByteArray.size] at hpos
    have hz := (zero_of_info (P := Tryz.prog) (t := 77) (v := .agg falses) (n := 256) (by kernel_rfl)).1
    have hS : abcB.size = 16 := rfl
    have HM := Lib.hid (fun W => makeASCIISet_any W)
    have hA := setArr_size
    have hone : setArr.all (·.oneCell') = true := by simp [setArr, Value.oneCell']
    have HGet := Lib.hid (fun i h => setArr_get i h)
    have HR := Lib.hid (fun W g h => trimRight_any s g W hs h)
    have HL := Lib.hid (fun r W g h h2 => trimLeft_any r g W h h2)
    generalize allIn s = A at HR ⊢
    generalize setArr = C at hA hone HGet HM
    generalize abcB = S at hS HM ⊢
    have hi1 := notEmpty s hpos
    have hi2 := notEmpty S (by omega)
    have hrow : ∀ W : World, ((W.alloc (.cells falses 77)).setRow W.heap.size C).rowIs W.heap.size 77 256 (fun j => .bool (isL j)) := fun W => ⟨C, heapRowSame _ _ _ _ _ (heap_alloc_new _ _), hA, fun i hi => HGet.out i hi⟩
    have HRow := Lib.hid hrow
    have hbel : ∀ W : World, Below W.heap.size W ((W.alloc (.cells falses 77)).setRow W.heap.size C) := fun W => (Go.Joins.below_alloc1 _ _).trans ⟨rfl, rfl, rfl, by simp [World.setRow], fun k hk => by simp only [World.setRow, Array.getElem?_modify]; rw [if_neg (by omega)]⟩
    have HBel := Lib.hid hbel
    clear hrow hbel
    have hA1 := @cellAlloc; have hA2 := @frozenAlloc; have hA3 := @setCellAlloc; go_enter Tryz.func70, Tryz.ntmps70
    go_wp2_with (first | (go_at_call 93; refine (HM.out _).mono ?_; rintro e w1 ⟨rfl, hb1⟩) | (refine wpList_store_row (by rfl) 77 _ _ (by rfl) w1.heap.size C (by rfl) (by rfl) 77 falses (heap_alloc_new _ _) (by rw [hA]; kernel_rfl) (by rw [hA]; rfl) hone ?_) | (go_at_call 95; refine (HR.out _ _ (HRow.out w1)).mono ?_; rintro e w2 ⟨⟨r, rfl, hr1, hr2, hr3⟩, rfl⟩) | (go_at_call 94; refine (HL.out r _ _ (by omega) (HRow.out w1)).mono ?_; rw [hr1]; rintro e w2 ⟨⟨r2, rfl, hs1, hs2, hs3⟩, rfl⟩))
    go_ret
    exact ⟨⟨r2, rfl, hs1, hs2⟩, belowThen hb1 (HBel.out w1)⟩
/-- The text is a word. -/
def wordB (s : ByteArray) (most : Nat) : Bool := decide (s.size ≤ most) && allIn s
theorem IsWordI_any (s : ByteArray) (w : World) (hs : s.size ≤ maxLen) :
    Calls Tryz.prog 30 #[.string s] w fun e w' => e = .returned (.bool (wordB s 12)) ∧ Below w.heap.size w w' := by
  unfold wordB maxLen at *
  by_cases h12 : s.size ≤ 12
  · rw [decide_eq_true h12, Bool.true_and]
    have hd : decide ((s.size : Int) ≤ 12) = true := by simp; omega
    have HT := Lib.hid (fun W => Trim_any s W (by omega))
    generalize hA : allIn s = A at HT ⊢
    rcases A with _ | _
    · have HT := Lib.hid (fun W => (HT.out W).mono fun e w' h => (⟨by
          obtain ⟨r, h1, h2, _⟩ := h.1
          exact ⟨r, h1, notEmpty r (Nat.pos_of_ne_zero fun h0 => by rw [empty_of r h0] at h2; cases h2)⟩, h.2⟩ : (∃ r, e = .returned (.string r) ∧ r.toList.isEmpty = false) ∧ Below W.heap.size W w'))
      go_enter Tryz.func30, Tryz.ntmps30
      go_wp2_with (first | (go_at_call 70; refine (HT.out _).mono ?_; rintro e w1 ⟨⟨r, rfl, hr⟩, hb1⟩))
      go_ret
      exact ⟨rfl, hb1⟩
    · have HT := Lib.hid (fun W => (HT.out W).mono fun e w' h => (⟨by
          obtain ⟨r, h1, _, h3⟩ := h.1
          rw [h1, h3 rfl], h.2⟩ : e = .returned (.string ⟨#[]⟩) ∧ Below W.heap.size W w'))
      go_enter Tryz.func30, Tryz.ntmps30
      go_wp2_with (first | (go_at_call 70; refine (HT.out _).mono ?_; rintro e w1 ⟨rfl, hb1⟩))
      go_ret
      exact ⟨rfl, hb1⟩
  · rw [decide_eq_false h12, Bool.false_and]
    have hd : decide ((s.size : Int) ≤ 12) = false := by simp; omega
    go_enter Tryz.func30, Tryz.ntmps30
    go_wp2
    go_ret
    exact ⟨rfl, Below.refl _ _⟩
end Go.Proofs.YtfdmcnnjifggnabGreatDoor
