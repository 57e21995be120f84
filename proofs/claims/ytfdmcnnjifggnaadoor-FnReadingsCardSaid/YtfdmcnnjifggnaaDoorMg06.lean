/- Joined texts: TrimS, Word, RowW, DrawB. -/
import Derived.Test.YtfdmcnnjifggnaaDoorMg05
import Derived.Test.YtfdmcnnjifggnaaDoorMg01
import Derived.Lib.Hide
import Derived.Deep.AppendLies
import Derived.Deep.RegionLaw
namespace Go.Proofs.YtfdmcnnjifggnaaDoor
open Go.RowKit

/-- All bytes of the text are letters. -/
def allIn (s : ByteArray) : Bool := s.data.toList.all fun b => isL b.toNat
def szS : Value → Nat
  | .string s => s.size
  | _ => 0
theorem toList_inj {a b : ByteArray} (h : a.data.toList = b.data.toList) : a = b := by
  cases a; cases b; simp only at h; congr 1; exact Array.toList_inj.1 h
theorem extB (a : ByteArray) (i j : Nat) : (a.extract i j).data.toList = (a.data.toList.drop i).take (j - i) := by
  simp [ByteArray.data_extract]
theorem size_len (a : ByteArray) : a.data.toList.length = a.size := rfl
theorem empty_of (a : ByteArray) (h : a.size = 0) : a = ⟨#[]⟩ := toList_inj (List.eq_nil_of_length_eq_zero (by rw [size_len]; exact h))
theorem at_list (a : ByteArray) (k : Nat) (h : k < a.size) : a[k]'h = a.data.toList[k]'(by rw [size_len]; exact h) := rfl
theorem allL_right (p : UInt8 → Bool) (L : List UInt8) (n : Nat) (h : L.length = n + 1) : L.all p = ((L.take n).all p && p (L[n]'(by omega))) := by
  have e : L = L.take n ++ [L[n]'(by omega)] := by
    rw [← List.take_succ_eq_append_getElem (by omega), List.take_of_length_le (by omega)]
  conv => lhs; rw [e]
  rw [List.all_append]
  simp
theorem allL_left (p : UInt8 → Bool) (L : List UInt8) (h : 0 < L.length) : L.all p = (p (L[0]'h) && (L.drop 1).all p) := by
  cases L with
  | nil => simp at h
  | cons a L => rfl
theorem allIn_right (r : ByteArray) (n : Nat) (h : r.size = n + 1) : allIn r = (allIn (r.extract 0 n) && isL (r[n]'(by omega)).toNat) := by
  unfold allIn
  rw [extB, List.drop_zero, Nat.sub_zero, at_list]
  exact allL_right _ _ n (by rw [size_len]; exact h)
theorem allIn_left (r : ByteArray) (h : 0 < r.size) : allIn r = (isL (r[0]'h).toNat && allIn (r.extract 1 r.size)) := by
  unfold allIn
  rw [extB, at_list]
  have e2 : (List.drop 1 r.data.toList).take (r.size - 1) = List.drop 1 r.data.toList := List.take_of_length_le (by rw [List.length_drop, size_len]; omega)
  rw [e2]
  exact allL_left _ _ (by rw [size_len]; exact h)
theorem notEmpty (s : ByteArray) (h : 0 < s.size) : s.toList.isEmpty = false := by
  rw [← Bool.not_eq_true, List.isEmpty_iff]
  intro hc
  have := congrArg List.length hc
  rw [Lib.toList_data, size_len, List.length_nil] at this
  omega
theorem contains_any (g : Nat) (b : UInt8) (w : World) (hs : w.rowIs g 82 256 (fun j => .bool (isL j))) :
    Calls Tryd.prog 86 #[.pointer (some ⟨g, 0, none⟩), .int .u8 b.toNat] w fun e w' => e = .returned (.bool (isL b.toNat)) ∧ w = w' := by
  have hb : b.toNat < 256 := b.toNat_lt
  have hc := hs.cell (i := b.toNat) hb
  generalize hq : isL b.toNat = q at hc ⊢
  generalize b.toNat = c at *
  have hi : (c : Int) < 256 := by omega
  clear hq
  go_enter Tryd.func86, Tryd.ntmps86
  go_wp2
  go_ret
  exact ⟨rfl, rfl⟩
set_option maxHeartbeats 800000 in
theorem trimRight_any (s : ByteArray) (g : Nat) (w : World) (hs : s.size ≤ 1000000) (hset : w.rowIs g 82 256 (fun j => .bool (isL j))) :
    Calls Tryd.prog 79 #[.string s, .pointer (some ⟨g, 0, none⟩)] w fun e w' => (∃ r, e = .returned (.string r) ∧ allIn r = allIn s ∧ (allIn s = true → r = ⟨#[]⟩) ∧ r.size ≤ s.size) ∧ w = w' := by
  obtain ⟨A, hA⟩ : ∃ A, allIn s = A := ⟨_, rfl⟩
  rw [hA]
  have HA := Lib.hid hA
  clear hA
  go_enter Tryd.func79, Tryd.ntmps79
  go_wp2
  go_loop [0] (fun v => ∃ r : ByteArray, v = .string r ∧ allIn r = A ∧ r.size ≤ s.size) (fun v => szS v)
  case atStart => exact ⟨s, rfl, HA.out, Nat.le_refl _⟩
  case round =>
    obtain ⟨r, rfl, hr, hsz⟩ := hrel
    rcases Nat.eq_zero_or_pos r.size with h0 | hpos
    · have he := empty_of r h0
      subst he
      have hr' : A = true := hr.symm
      subst hr'
      go_wp2
      go_ret
      exact ⟨⟨_, rfl, rfl, by simp, Nat.zero_le _⟩, rfl⟩
    · obtain ⟨n, hn⟩ : ∃ n, r.size = n + 1 := ⟨r.size - 1, by omega⟩
      have hlast := allIn_right r n hn
      rw [hr] at hlast
      have HC := Lib.hid (fun W h => contains_any g (r[n]'(by omega)) W h)
      generalize hq : isL (r[n]'(by omega)).toNat = q at hlast HC
      have HL := Lib.hid hlast
      have HR := Lib.hid hr
      clear hlast hr
      rcases q with _ | _
      · have hf : A = false := by rw [HL.out, Bool.and_false]
        subst hf
        go_wp2_with (first | (go_at_call 86; refine (HC.out _ hset).mono ?_; rintro e w' ⟨rfl, rfl⟩))
        go_ret
        exact ⟨⟨_, rfl, HR.out, by simp, hsz⟩, rfl⟩
      · rw [Bool.and_true] at HL
        have he : (r.extract 0 n).size = n := by rw [ByteArray.size_extract]; omega
        go_wp2_with (first | (go_at_call 86; refine (HC.out _ hset).mono ?_; rintro e w' ⟨rfl, rfl⟩))
        go_round
        case rel => exact ⟨_, rfl, HL.out.symm, by rw [he]; omega⟩
        case measure => simp only [szS]; rw [he]; omega
set_option maxHeartbeats 800000 in
theorem trimLeft_any (s : ByteArray) (g : Nat) (w : World) (hs : s.size ≤ 1000000) (hset : w.rowIs g 82 256 (fun j => .bool (isL j))) :
    Calls Tryd.prog 78 #[.string s, .pointer (some ⟨g, 0, none⟩)] w fun e w' => (∃ r, e = .returned (.string r) ∧ allIn r = allIn s ∧ (allIn s = true → r = ⟨#[]⟩) ∧ r.size ≤ s.size) ∧ w = w' := by
  obtain ⟨A, hA⟩ : ∃ A, allIn s = A := ⟨_, rfl⟩
  rw [hA]
  have HA := Lib.hid hA
  clear hA
  go_enter Tryd.func78, Tryd.ntmps78
  go_wp2
  go_loop [0] (fun v => ∃ r : ByteArray, v = .string r ∧ allIn r = A ∧ r.size ≤ s.size) (fun v => szS v)
  case atStart => exact ⟨s, rfl, HA.out, Nat.le_refl _⟩
  case round =>
    obtain ⟨r, rfl, hr, hsz⟩ := hrel
    rcases Nat.eq_zero_or_pos r.size with h0 | hpos
    · have he := empty_of r h0
      subst he
      have hr' : A = true := hr.symm
      subst hr'
      go_wp2
      go_ret
      exact ⟨⟨_, rfl, rfl, by simp, Nat.zero_le _⟩, rfl⟩
    · have hlast := allIn_left r hpos
      rw [hr] at hlast
      have HC := Lib.hid (fun W h => contains_any g (r[0]'hpos) W h)
      generalize hq : isL (r[0]'hpos).toNat = q at hlast HC
      have HL := Lib.hid hlast
      have HR := Lib.hid hr
      clear hlast hr
      rcases q with _ | _
      · have hf : A = false := by rw [HL.out, Bool.false_and]
        subst hf
        go_wp2_with (first | (go_at_call 86; refine (HC.out _ hset).mono ?_; rintro e w' ⟨rfl, rfl⟩))
        go_ret
        exact ⟨⟨_, rfl, HR.out, by simp, hsz⟩, rfl⟩
      · rw [Bool.true_and] at HL
        have he : (r.extract 1 r.size).size = r.size - 1 := by rw [ByteArray.size_extract]; omega
        go_wp2_with (first | (go_at_call 86; refine (HC.out _ hset).mono ?_; rintro e w' ⟨rfl, rfl⟩))
        go_round
        case rel => exact ⟨_, rfl, HL.out.symm, by rw [he]; omega⟩
        case measure => simp only [szS]; rw [he]; omega
set_option maxHeartbeats 800000 in
set_option maxRecDepth 100000 in
theorem Trim_any (s : ByteArray) (w : World) (hs : s.size ≤ 1000000) :
    Calls Tryd.prog 69 #[.string s, .string abcB] w fun e w' => (∃ r, e = .returned (.string r) ∧ allIn r = allIn s ∧ (allIn s = true → r = ⟨#[]⟩)) ∧ Below w.heap.size w w' := by
  rcases Nat.eq_zero_or_pos s.size with h0 | hpos
  · have he := empty_of s h0
    subst he
    go_enter Tryd.func69, Tryd.ntmps69
    go_wp2
    go_ret
    exact ⟨⟨_, rfl, rfl, by simp⟩, Below.refl _ _⟩
  · have hne : ¬ s = ⟨#[]⟩ := fun h => by rw [h] at hpos; simp [ByteArray.size] at hpos
    have hz := (zero_of_info (P := Tryd.prog) (t := 82) (v := .agg falses) (n := 256) (by kernel_rfl)).1
    have hS : abcB.size = 16 := rfl
    have HM := Lib.hid (fun W => makeASCIISet_any W)
    have hA := setArr_size
    have hone : setArr.all (·.oneCell') = true := by simp [setArr, Value.oneCell']
    have HGet := Lib.hid (fun i h => setArr_get i h)
    have HR := Lib.hid (fun W g h => trimRight_any s g W hs h)
    have HL := Lib.hid (fun r W g h h2 => trimLeft_any r g W h h2)
    generalize allIn s = A at HR ⊢
    generalize setArr = C at hA hone HGet HM
    generalize abcB = S at hS HM ⊢
    have hi1 := notEmpty s hpos
    have hi2 := notEmpty S (by omega)
    have hrow : ∀ W : World, ((W.alloc (.cells falses 82)).setRow W.heap.size C).rowIs W.heap.size 82 256 (fun j => .bool (isL j)) := fun W => ⟨C, heapRowSame _ _ _ _ _ (heap_alloc_new _ _), hA, fun i hi => HGet.out i hi⟩
    have HRow := Lib.hid hrow
    have hbel : ∀ W : World, Below W.heap.size W ((W.alloc (.cells falses 82)).setRow W.heap.size C) := fun W => (Go.Joins.below_alloc1 _ _).trans ⟨rfl, rfl, rfl, by simp [World.setRow], fun k hk => by simp only [World.setRow, Array.getElem?_modify]; rw [if_neg (by omega)]⟩
    have HBel := Lib.hid hbel
    clear hrow hbel
    have hA1 := @cellAlloc; have hA2 := @frozenAlloc; have hA3 := @setCellAlloc; go_enter Tryd.func69, Tryd.ntmps69
    go_wp2_with (first | (go_at_call 77; refine (HM.out _).mono ?_; rintro e w1 ⟨rfl, hb1⟩) | (refine wpList_store_row (by rfl) 82 _ _ (by rfl) w1.heap.size C (by rfl) (by rfl) 82 falses (heap_alloc_new _ _) (by rw [hA]; kernel_rfl) (by rw [hA]; rfl) hone ?_) | (go_at_call 79; refine (HR.out _ _ (HRow.out w1)).mono ?_; rintro e w2 ⟨⟨r, rfl, hr1, hr2, hr3⟩, rfl⟩) | (go_at_call 78; refine (HL.out r _ _ (by omega) (HRow.out w1)).mono ?_; rw [hr1]; rintro e w2 ⟨⟨r2, rfl, hs1, hs2, hs3⟩, rfl⟩))
    go_ret
    exact ⟨⟨r2, rfl, hs1, hs2⟩, belowThen hb1 (HBel.out w1)⟩
/-- The text is a word. -/
def wordB (s : ByteArray) (most : Nat) : Bool := decide (s.size ≤ most) && allIn s
theorem IsWordI_any (s : ByteArray) (w : World) (hs : s.size ≤ maxLen) :
    Calls Tryd.prog 60 #[.string s] w fun e w' => e = .returned (.bool (wordB s 12)) ∧ Below w.heap.size w w' := by
  unfold wordB maxLen at *
  by_cases h12 : s.size ≤ 12
  · rw [decide_eq_true h12, Bool.true_and]
    have hd : decide ((s.size : Int) ≤ 12) = true := by simp; omega
    have HT := Lib.hid (fun W => Trim_any s W (by omega))
    generalize hA : allIn s = A at HT ⊢
    rcases A with _ | _
    · have HT := Lib.hid (fun W => (HT.out W).mono fun e w' h => (⟨by
          obtain ⟨r, h1, h2, _⟩ := h.1
          exact ⟨r, h1, notEmpty r (Nat.pos_of_ne_zero fun h0 => by rw [empty_of r h0] at h2; cases h2)⟩, h.2⟩ : (∃ r, e = .returned (.string r) ∧ r.toList.isEmpty = false) ∧ Below W.heap.size W w'))
      go_enter Tryd.func60, Tryd.ntmps60
      go_wp2_with (first | (go_at_call 69; refine (HT.out _).mono ?_; rintro e w1 ⟨⟨r, rfl, hr⟩, hb1⟩))
      go_ret
      exact ⟨rfl, hb1⟩
    · have HT := Lib.hid (fun W => (HT.out W).mono fun e w' h => (⟨by
          obtain ⟨r, h1, _, h3⟩ := h.1
          rw [h1, h3 rfl], h.2⟩ : e = .returned (.string ⟨#[]⟩) ∧ Below W.heap.size W w'))
      go_enter Tryd.func60, Tryd.ntmps60
      go_wp2_with (first | (go_at_call 69; refine (HT.out _).mono ?_; rintro e w1 ⟨rfl, hb1⟩))
      go_ret
      exact ⟨rfl, hb1⟩
  · rw [decide_eq_false h12, Bool.false_and]
    have hd : decide ((s.size : Int) ≤ 12) = false := by simp; omega
    go_enter Tryd.func60, Tryd.ntmps60
    go_wp2
    go_ret
    exact ⟨rfl, Below.refl _ _⟩
end Go.Proofs.YtfdmcnnjifggnaaDoor

namespace Go.Proofs.YtfdmcnnjifggnaaDoor
open Go.RowKit

/-- The place of a letter, or -1. -/
def placeI (b : Nat) : Int := if isL b = true then ((abcN.idxOf b : Nat) : Int) else -1
theorem isP_all (b : Nat) : isP 16 b = isL b := rfl
theorem place_at (k b : Nat) (hk : k < 16) (h : isP k b = false) (hb : abcN.getD k 0 = b) : placeI b = (k : Int) := by
  subst hb
  have : ∀ x : Fin 16, isP x.val (abcN.getD x.val 0) = false → placeI (abcN.getD x.val 0) = (x.val : Int) := by decide +kernel
  exact this ⟨k, hk⟩ h
set_option maxHeartbeats 800000 in
theorem l10Place_any (b : UInt8) (w : World) : Calls Tryd.prog 61 #[.int .u8 b.toNat] w fun e w' => e = .returned (.int .i64 (placeI b.toNat)) ∧ w = w' := by
  obtain ⟨p, hp⟩ : ∃ p, placeI b.toNat = p := ⟨_, rfl⟩
  rw [hp]
  have HP := Lib.hid hp
  have hb256 : b.toNat < 256 := b.toNat_lt
  have HAt := Lib.hid abc_at
  clear hp
  generalize b.toNat = c at *
  go_enter Tryd.func61, Tryd.ntmps61
  go_wp2
  go_loop [3] (fun i => ∃ k : Nat, k ≤ 16 ∧ i = .int .i64 k ∧ Hid (isP k c = false)) (fun i => 16 - (intOf i).toNat)
  case atStart => exact ⟨0, by omega, rfl, rfl⟩
  case round =>
    obtain ⟨k, hk, rfl, hno⟩ := hrel
    by_cases hlt : k < 16
    · have hch := (HAt.out k hlt).1
      have hs := isP_succ k c hlt
      have hpl := place_at k c hlt hno.out
      unfold abcB at hch
      generalize abcN.getD k 0 = d at hch hs hpl
      by_cases hd : d = c
      · have h2 := hpl hd
        rw [HP.out] at h2
        subst h2
        subst hd
        have HS := Lib.hid hs
        clear hs hpl
        go_wp2
        go_ret
        exact ⟨rfl, rfl⟩
      · have hs2 : isP (k + 1) c = false := by
          rw [hs, hno.out]
          simpa using fun h => hd h.symm
        have HS := Lib.hid hs2
        clear hs hs2 hpl
        go_wp2
        go_round
        case rel => exact ⟨k + 1, by omega, by go_num, HS⟩
        case measure => simp [intOf]; omega
    · have hk16 : k = 16 := by omega
      subst hk16
      have h1 : placeI c = -1 := by unfold placeI; rw [← isP_all, hno.out]; rfl
      rw [HP.out] at h1
      subst h1
      go_wp2
      go_ret
      exact ⟨rfl, rfl⟩
/-- The first k bytes are letters. -/
def allP (s : ByteArray) (k : Nat) : Bool := (s.data.toList.take k).all fun b => isL b.toNat
theorem allP_succ (s : ByteArray) (k : Nat) (h : k < s.size) : allP s (k + 1) = (allP s k && isL (s[k]'h).toNat) := by
  unfold allP
  rw [at_list, List.take_succ_eq_append_getElem (by rw [size_len]; exact h), List.all_append]
  simp
theorem allP_all (s : ByteArray) : allP s s.size = allIn s := by
  unfold allP allIn
  rw [List.take_of_length_le (by rw [size_len]; exact Nat.le_refl _)]
theorem allP_bad (s : ByteArray) (k : Nat) (h : k < s.size) (hb : isL (s[k]'h).toNat = false) : allIn s = false := by
  rw [← Bool.not_eq_true]
  intro hc
  unfold allIn at hc
  rw [List.all_eq_true] at hc
  have := hc (s[k]'h) (by rw [at_list]; exact List.getElem_mem _)
  rw [hb] at this
  cases this
theorem place_neg (b : Nat) : (placeI b < 0) = (isL b = false) := by
  unfold placeI
  cases isL b with
  | false => simp
  | true => simp
set_option maxHeartbeats 800000 in
theorem l10Word_any (s : ByteArray) (most : Nat) (hm : most ≤ 1000) (hs : s.size ≤ maxLen) (w : World) : Calls Tryd.prog 41 #[.string s, .int .i64 most] w fun e w' => e = .returned (.bool (wordB s most)) ∧ w = w' := by
  unfold maxLen at hs
  obtain ⟨R, hR⟩ : ∃ R, wordB s most = R := ⟨_, rfl⟩
  rw [hR]
  have HR := Lib.hid hR
  clear hR
  go_enter Tryd.func41, Tryd.ntmps41
  go_wp2
  go_loop [5] (fun i => ∃ k : Nat, k ≤ s.size ∧ k ≤ most + 1 ∧ i = .int .i64 k ∧ Hid (allP s k = true)) (fun i => s.size - (intOf i).toNat)
  case atStart => exact ⟨0, by omega, by omega, rfl, rfl⟩
  case round =>
    obtain ⟨k, hk, hk2, rfl, hall⟩ := hrel
    by_cases hlt : k < s.size
    · by_cases hmo : k ≤ most
      · have hd1 : decide ((k : Int) < (s.size : Int)) = true := by simp; omega
        have hd2 : decide ((k : Int) ≤ (most : Int)) = true := by simp; omega
        have hsucc := allP_succ s k hlt
        have hbad := allP_bad s k hlt
        have hneg := place_neg (s[k]'hlt).toNat
        have HC := Lib.hid (fun W => l10Place_any (s[k]'hlt) W)
        generalize placeI (s[k]'hlt).toNat = p at hneg HC
        generalize hq : isL (s[k]'hlt).toNat = q at hsucc hbad hneg
        rw [hall.out, Bool.true_and] at hsucc
        clear hq
        rcases q with _ | _
        · have hf : R = false := by rw [← HR.out]; unfold wordB; rw [hbad rfl, Bool.and_false]
          subst hf
          have hp : p < 0 := by rw [hneg]
          clear hsucc hbad hneg
          go_wp2_with (first | (go_at_call 61; refine (HC.out _).mono ?_; rintro e w' ⟨rfl, rfl⟩))
          go_ret
          exact ⟨rfl, rfl⟩
        · have hp : ¬ p < 0 := by rw [hneg]; decide
          have HS := Lib.hid hsucc
          clear hsucc hbad hneg
          go_wp2_with (first | (go_at_call 61; refine (HC.out _).mono ?_; rintro e w' ⟨rfl, rfl⟩))
          go_round
          case rel => exact ⟨k + 1, by omega, by omega, by go_num, HS⟩
          case measure => simp [intOf]; omega
      · have hd1 : decide ((k : Int) < (s.size : Int)) = true := by simp; omega
        have hd2 : decide ((k : Int) ≤ (most : Int)) = false := by simp; omega
        have hf : R = false := by rw [← HR.out]; unfold wordB; rw [decide_eq_false (by omega), Bool.false_and]
        subst hf
        go_wp2
        go_ret
        exact ⟨ret_bool (by simp; omega), rfl⟩
    · have hks : k = s.size := by omega
      subst hks
      have hA := hall.out
      rw [allP_all] at hA
      have hR : R = decide (s.size ≤ most) := by rw [← HR.out]; unfold wordB; rw [hA, Bool.and_true]
      subst hR
      clear hA hall
      go_wp2
      go_ret
      exact ⟨ret_bool (by simp; try omega), rfl⟩
end Go.Proofs.YtfdmcnnjifggnaaDoor

namespace Go.Proofs.YtfdmcnnjifggnaaDoor
open Go.RowKit

def placeN (b : Nat) : Nat := abcN.idxOf b
theorem place_of {b : Nat} (h : isL b = true) : placeI b = ((placeN b : Nat) : Int) ∧ placeN b < 16 := by
  refine ⟨by unfold placeI; rw [if_pos h]; rfl, ?_⟩
  unfold isL at h
  exact List.idxOf_lt_length_of_mem (by simpa using h)
/-- The cells of a word. -/
def rowW (s : ByteArray) : List Int := s.data.toList.map fun b => ((letC (placeN b.toNat) : Nat) : Int)
theorem rowW_length (s : ByteArray) : (rowW s).length = s.size := by unfold rowW; rw [List.length_map]; exact size_len s
theorem rowW_at (s : ByteArray) (k : Nat) (h : k < s.size) : (rowW s).getD k 0 = ((letC (placeN (s[k]'h).toNat) : Nat) : Int) := by
  unfold rowW
  rw [List.getD_eq_getElem?_getD, List.getElem?_map, List.getElem?_eq_getElem (by rw [size_len]; exact h), at_list]
  rfl
theorem rowW_mem (s : ByteArray) : ∀ x ∈ rowW s, inB 0 127 x = true := by
  intro x hx
  unfold rowW at hx
  rw [List.mem_map] at hx
  obtain ⟨b, _, rfl⟩ := hx
  have := letC_lt (placeN b.toNat)
  rw [inB_iff]; omega
theorem isL_at {s : ByteArray} (h : allIn s = true) (k : Nat) (hk : k < s.size) : isL (s[k]'hk).toNat = true := by
  unfold allIn at h
  rw [List.all_eq_true] at h
  exact h _ (by rw [at_list]; exact List.getElem_mem _)
set_option maxHeartbeats 800000 in
theorem l10Row_any (s : ByteArray) (hs : s.size ≤ 1000) (hall : allIn s = true) (w : World) : Calls Tryd.prog 55 #[.string s] w (RetIntsL (rowW s) w) := by
  have HAll := Lib.hid (fun k hk => isL_at hall k hk)
  have hL := rowW_length s
  have HAt := Lib.hid (fun k h => rowW_at s k h)
  generalize rowW s = L at hL HAt ⊢
  have HL := Lib.hid hL
  clear hall hL
  have hA1 := @cellAlloc; have hA2 := @frozenAlloc; have hA3 := @setCellAlloc; go_enter Tryd.func55, Tryd.ntmps55
  go_wp2
  go_loopw [3, 4] (fun v i wr => ∃ k : Nat, k ≤ s.size ∧ i = .int .i64 k ∧ ownsInts wr w.heap.size v (L.take k) ∧ Below w.heap.size w wr) (fun _ i _ => s.size - (intOf i).toNat)
  case atStart => exact ⟨0, by omega, rfl, ownsInts_zero _ _ _, Go.Joins.below_alloc1 _ _⟩
  case round =>
    obtain ⟨k, hk, rfl, hown, hbw⟩ := hrel
    by_cases hlt : k < s.size
    · have hd : decide ((k : Int) < (s.size : Int)) = true := by simp; omega
      have hp := place_of (HAll.out k hlt)
      have hsucc := take_succI L k (by rw [HL.out]; exact hlt)
      rw [HAt.out k hlt] at hsucc
      have hlen : (L.take k).length = k := by rw [List.length_take, HL.out]; omega
      have HP := Lib.hid (fun W => by have h := l10Place_any (s[k]'hlt) W; rw [hp.1] at h; exact h : ∀ W, Calls Tryd.prog 61 #[.int .u8 (s[k]'hlt).toNat] W fun e w' => e = .returned (.int .i64 (placeN (s[k]'hlt).toNat : Nat)) ∧ W = w')
      have HO := Lib.hid (fun W => l10Of_any (placeN (s[k]'hlt).toNat) hp.2 W)
      have hp2 := hp.2
      clear hp
      generalize placeN (s[k]'hlt).toNat = p at HP HO hsucc hp2
      generalize letC p = x at hsucc HO
      have HS := Lib.hid hsucc
      clear hsucc
      generalize L.take k = T at HS hown hlen
      go_wp2_with (first | (go_at_call 61; refine (HP.out _).mono ?_; rintro e w' ⟨rfl, rfl⟩) | (go_at_call 50; refine (HO.out _).mono ?_; rintro e w2 ⟨rfl, hb2⟩) | (at_builtin; go_must (refine wpAppendInt w2 (by rfl) _ _ (by rfl) w.heap.size _ _ (by rfl) (ownsInts_below hown hb2 (Nat.le_refl _)) (x : Int) (by rfl) (by omega) (Nat.le_trans hbw.size hb2.size) ?_; intro co cc w4 hv4 hb4)))
      go_roundw
      case rel => exact ⟨k + 1, by omega, by go_num, by rw [HS.out]; rw [hlen] at hv4; exact hv4, (belowThen hbw hb2).trans hb4⟩
      case measure => simp [intOf]; omega
    · have hks : k = s.size := by omega
      rw [List.take_of_length_le (by rw [HL.out]; omega)] at hown
      obtain ⟨co, cc, rfl, -⟩ := ownsInts_shape hown
      subst hks
      go_wp2
      go_ret
      exact ⟨co, cc, rfl, hown, hbw⟩
theorem indexB_fact : ∀ b : Fin 256, isL b.val = true → Lib.indexByte abcB.data.toList (UInt8.ofNat b.val) = ((placeN b.val : Nat) : Int) := by decide +kernel
set_option maxHeartbeats 800000 in
theorem IndexByte_any (b : UInt8) (hb : isL b.toNat = true) (w : World) : Calls Tryd.prog 66 #[.string abcB, .int .u8 b.toNat] w fun e w' => e = .returned (.int .i64 (placeN b.toNat : Nat)) ∧ w = w' := by
  have h := indexB_fact ⟨b.toNat, b.toNat_lt⟩ hb
  simp only at h
  have HC := Lib.hid (fun W => by have h2 := stringslite_IndexByte abcB b.toNat W; rw [Int.toNat_natCast, show b.toNat.toUInt8 = UInt8.ofNat b.toNat from rfl, h] at h2; exact h2 : ∀ W, Calls Tryd.prog 73 #[.string abcB, .int .u8 b.toNat] W fun e w' => e = .returned (.int .i64 (placeN b.toNat : Nat)) ∧ W = w')
  generalize placeN b.toNat = p at HC ⊢
  generalize abcB = S at HC ⊢
  clear h
  go_enter Tryd.func66, Tryd.ntmps66
  go_wp2_with (first | (go_at_call 73; refine (HC.out _).mono ?_; rintro e w' ⟨rfl, rfl⟩))
  go_ret
  exact ⟨rfl, rfl⟩
set_option maxHeartbeats 1600000 in
set_option maxRecDepth 100000 in
theorem rowOfWord_any (s : ByteArray) (hs : s.size ≤ 1000) (hall : allIn s = true) (w : World) : Calls Tryd.prog 53 #[.string s] w (RetIntsL (rowW s) w) := by
  have HAll := Lib.hid (fun k hk => isL_at hall k hk)
  have hL := rowW_length s
  have HAt := Lib.hid (fun k h => rowW_at s k h)
  generalize rowW s = L at hL HAt ⊢
  have HL := Lib.hid hL
  obtain ⟨i0, hi, hz0, hz1, hz2⟩ := info_parts infoInt
  clear hall hL
  have hA1 := @cellAlloc; have hA2 := @frozenAlloc; have hA3 := @setCellAlloc; go_enter Tryd.func53, Tryd.ntmps53
  go_wp2
  go_loopw [3, 7] (fun v i wr => ∃ k : Nat, k ≤ s.size ∧ i = .int .i64 k ∧ wr.ownsRow w.heap.size 3 1 v k ((L.take k).map (Value.int .i64)) ∧ Below w.heap.size w wr) (fun _ i _ => s.size - (intOf i).toNat)
  case atStart => exact ⟨0, by omega, rfl, World.ownsRow_nil _ _ _ _, Below.refl _ _⟩
  case round =>
    obtain ⟨k, hk, rfl, hown, hbw⟩ := hrel
    by_cases hlt : k < s.size
    · have hd : decide ((k : Int) < (s.size : Int)) = true := by simp; omega
      have hL1 := HAll.out k hlt
      have hp := place_of hL1
      have hsucc := take_succI L k (by rw [HL.out]; exact hlt)
      rw [HAt.out k hlt] at hsucc
      have HI := Lib.hid (fun W => IndexByte_any (s[k]'hlt) hL1 W)
      have hp2 := hp.2
      clear hp hL1
      have HG := Lib.hid (letL_getD (placeN (s[k]'hlt).toNat))
      generalize placeN (s[k]'hlt).toNat = p at HI hsucc hp2 HG
      generalize letC p = x at hsucc HG
      have HS := Lib.hid (show (L.take (k + 1)).map (Value.int .i64) = (L.take k).map (Value.int .i64) ++ [Value.int .i64 (x : Int)] by rw [hsucc]; simp)
      clear hsucc
      have HL16 := Lib.hid (fun W => (letterCells_any W).mono fun e w' h => (by
        obtain ⟨ao, ca, h1, h2, h3⟩ := h
        obtain ⟨ao', cap', he, h0 | ⟨g, rfl, _, hg, _, hc⟩⟩ := ownsInts_shape h2
        · exact absurd (congrArg List.length h0) (by rw [letL_length]; decide)
        · simp only [Value.slice.injEq] at he
          obtain ⟨rfl, -, -⟩ := he
          exact ⟨g, ca, h1, by have h5 := hc p (by rw [letL_length]; exact hp2); rw [HG.out] at h5; exact h5, h3⟩ : ∃ g ca, e = .returned (.slice (some ⟨g, 0, none⟩) 16 ca) ∧ w'.cell? ⟨g, p, none⟩ = some (.int .i64 x) ∧ Below W.heap.size W w'))
      have hp3 : (p : Int) < 16 := by omega
      generalize (L.take k).map (Value.int .i64) = T at HS hown
      go_wp2_with fail
      go_region_law (first | (refine step_append_lies _ (by rfl) _ _ _ (by rfl) w.heap.size 3 i0 (.int .i64 0) 1 8 Tryd.underlying24 hi hz0 hz1 hz2 rfl (by decide) _ k T (by rfl) (by refine World.ownsRow.alloc ?_ _; exact ownsRow_below hown (by (repeat (first | assumption | exact Below.refl _ _ | refine belowThen ?_ (Go.Joins.below_alloc1 _ _) | apply Below.drew | refine belowThen ?_ (by assumption) | refine belowThen ?_ (Go.Joins.below_draws _ _ _) | refine Below.setCell ?_ (by first | exact Nat.le_refl _ | (simp; done) | (simp; omega)) _))) (Nat.le_refl _)) _ 1 1 [.int .i64 x] (by rfl) rfl (by intro j u hu; rw [Addr.add_lit, World.cell?_alloc_at _ _ _ _ rfl]; simpa using hu) (by simp [Value.oneCell']) (by decide) (by unfold maxLen; omega) (by omega) (by have h1 := hbw.size; have h2 := hb4.size; simp at h2 ⊢; omega) _ rfl ?_; intro g5 cap5 w5 hown5 hgrow5 hat5 hlt5) | (go_simp; go_at_call 45; refine (HL16.out _).mono ?_; rintro e w4 ⟨g4, ca, rfl, hc4, hb4⟩) | (go_simp; go_at_call 66; refine (HI.out _).mono ?_; rintro e w' ⟨rfl, rfl⟩))
      all_goals
        go_wp2
        go_roundw
        case rel => exact ⟨k + 1, by omega, by go_num, by rw [HS.out]; exact hown5, (by (repeat (first | assumption | exact Below.refl _ _ | refine belowThen ?_ (Go.Joins.below_alloc1 _ _) | apply Below.drew | refine belowThen ?_ (by assumption) | refine belowThen ?_ (Go.Joins.below_draws _ _ _) | refine Below.setCell ?_ (by first | exact Nat.le_refl _ | (simp; done) | (simp; omega)) _)) : Below w.heap.size w _).grown hgrow5 (by have h1 := hbw.size; have h2 := hb4.size; simp at h2 ⊢; omega) fun k hk => (World.ownsRow.lt hown k hk).1⟩
        case measure => simp [intOf]; omega
    · have hks : k = s.size := by omega
      rw [List.take_of_length_le (by rw [HL.out]; omega)] at hown
      subst hks
      obtain ⟨co, cc, hv, -⟩ := ownsInts_shape (show ownsInts wr w.heap.size _ L from .inl (by rw [HL.out]; exact hown))
      subst hv
      go_wp2
      go_ret
      exact ⟨co, cc, by rw [HL.out]; rfl, .inl (by rw [HL.out] at hown ⊢; exact hown), hbw⟩
end Go.Proofs.YtfdmcnnjifggnaaDoor

namespace Go.Proofs.YtfdmcnnjifggnaaDoor
open Go.RowKit

end Go.Proofs.YtfdmcnnjifggnaaDoor
