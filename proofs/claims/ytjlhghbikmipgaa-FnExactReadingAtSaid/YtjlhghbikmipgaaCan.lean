/- Contracts of the functions that tell how a row can be read: the readings of a cell, and how many readings there are. -/
import Derived.Test.YtjlhghbikmipgaaLetterOf
import Derived.Test.YtjlhghbikmipgaaRow
import Derived.Lib.Hide
import Derived.IntWalk
namespace Go.Proofs.Ytjlhghbikmipgaa
open Go.RowKit

/-- A letter has all bars of a cell. -/
def canB (c : Int) (k : Nat) : Bool := (bits .andNot .i64 c (letC k) == 0)
/-- The places of the first k letters that have all bars of a cell. -/
def canP (c : Int) (k : Nat) : List Nat := (List.range k).filter (canB c)
def canN (c : Int) : Nat := (canP c 16).length
def ints (l : List Nat) : List Int := l.map fun (n : Nat) => (n : Int)
theorem ints_length (l : List Nat) : (ints l).length = l.length := by simp [ints]
theorem ints_append (l m : List Nat) : ints (l ++ m) = ints l ++ ints m := by simp [ints]
theorem ints_getD (l : List Nat) (j : Nat) : (ints l).getD j 0 = ((l.getD j 0 : Nat) : Int) := by
  simp only [ints, List.getD_eq_getElem?_getD, List.getElem?_map]
  cases l[j]? <;> rfl
theorem canP_succ (c : Int) (k : Nat) : canP c (k + 1) = if canB c k = true then canP c k ++ [k] else canP c k := by
  simp only [canP, List.range_succ, List.filter_append]
  split <;> simp_all [List.filter_cons]
theorem canP_le (c : Int) (k : Nat) : (canP c k).length ≤ k := Nat.le_trans (List.length_filter_le _ _) (by simp)
theorem canN_le (c : Int) : canN c ≤ 16 := canP_le c 16
theorem canP_mem (c : Int) (k x : Nat) (h : x ∈ canP c k) : x < k := by
  simp only [canP, List.mem_filter, List.mem_range] at h; exact h.1
theorem and_full2 : ∀ a : Fin 128, ∀ b : Fin 128, ((b.val &&& a.val) == a.val) = ((a.val &&& (18446744073709551615 - b.val)) == 0) := by decide +kernel
theorem can_eq {c : Int} (hc : inB 0 127 c = true) (k : Nat) : (bits .and .i64 (letC k) c == c) = canB c k := by
  rw [inB_iff] at hc
  obtain ⟨C, rfl⟩ := Int.eq_ofNat_of_zero_le hc.1
  have hd := letC_lt k
  have := and_full2 ⟨C, by omega⟩ ⟨letC k, hd⟩
  simp only at this
  unfold canB
  rw [and64 _ _ (by omega) (by omega), andNot64 _ _ (by omega) (by omega)]
  rw [Bool.eq_iff_iff] at this ⊢
  simp only [beq_iff_eq] at this ⊢
  omega
/-- The letters at the first k places that have all bars of a cell. -/
def readP (c : Int) : Nat → ByteArray
  | 0 => ⟨#[]⟩
  | k + 1 => if canB c k = true then readP c k ++ alphaB.extract k (k + 1) else readP c k
theorem readP_size (c : Int) (k : Nat) (hk : k ≤ 16) : (readP c k).size = (canP c k).length := by
  induction k with
  | zero => rfl
  | succ k ih =>
    have ih := ih (by omega)
    rw [canP_succ]
    unfold readP
    have h16 : alphaB.size = 16 := rfl
    split
    · rw [ByteArray.size_append, ByteArray.size_extract, ih, List.length_append, h16]
      simp; omega
    · exact ih
/-- A slice of the call's own is returned that holds the numbers. -/
def RetNats (l : List Nat) (w : World) (e : Ending) (w' : World) : Prop := ∃ ao cap, e = .returned (.slice ao l.length cap) ∧ ownsInts w' w.heap.size (.slice ao l.length cap) (ints l) ∧ Below w.heap.size w w'
set_option maxHeartbeats 400000 in
theorem l10Can_any (c : Int) (hc : inB 0 127 c = true) (w : World) : Calls Try.prog 32 #[.int .i64 c] w (RetNats (canP c 16) w) := by
  have hA1 := @cellAlloc; have hA2 := @frozenAlloc; have hA3 := @setCellAlloc; go_enter Try.func32, Try.ntmps32
  go_wp2
  go_loopw [3, 4] (fun v i wr => ∃ k : Nat, k ≤ 16 ∧ i = .int .i64 k ∧ ownsInts wr w.heap.size v (ints (canP c k)) ∧ Below w.heap.size w wr) (fun _ i _ => 16 - (intOf i).toNat)
  case atStart => exact ⟨0, by omega, rfl, ownsInts_zero _ _ _, Go.Joins.below_alloc1 _ _⟩
  case round =>
    obtain ⟨k, hle, rfl, hown, hbw⟩ := hrel
    by_cases hlt : k < 16
    · have hlen := canP_le c k
      rw [← ints_length] at hlen
      have hq := can_eq hc k
      have hsucc := canP_succ c k
      have HC := Lib.hid (fun W => l10Of_any k hlt W)
      generalize letC k = y at hq HC
      generalize canB c k = q at hq hsucc
      have HS := Lib.hid hsucc
      clear hsucc
      generalize canP c k = l at hown hlen HS
      rcases q with _ | _
      · go_wp2_with (go_at_call 36; refine (HC.out _).mono ?_; rintro e w1 ⟨rfl, hb1⟩)
        go_roundw
        case rel => exact ⟨k + 1, by omega, by go_num, by rw [HS.out]; exact ownsInts_below hown hb1 (Nat.le_refl _), belowThen hbw hb1⟩
        case measure => simp [intOf]; omega
      · go_wp2_with (first | (go_at_call 36; refine (HC.out _).mono ?_; rintro e w1 ⟨rfl, hb1⟩; have hown1 := ownsInts_below hown hb1 (Nat.le_refl _); have hs1 := hb1.size; have hsw := hbw.size) | (at_builtin; refine wpAppendInt w1 (by rfl) _ _ (by rfl) w.heap.size _ _ (by rfl) hown1 (k : Int) (by rfl) (by omega) (by omega) ?_; intro co cc w4 hv4 hb4))
        go_roundw
        case rel => exact ⟨k + 1, by omega, by go_num, by rw [HS.out, if_pos trivial, ints_append]; exact hv4, (belowThen hbw hb1).trans hb4⟩
        case measure => simp [intOf]; omega
    · have hk : k = 16 := by omega
      subst hk
      obtain ⟨co, cc, rfl, -⟩ := ownsInts_shape hown
      rw [ints_length] at hown
      go_wp2
      go_ret
      exact ⟨co, cc, by rw [ints_length]; rfl, hown, hbw⟩
set_option maxHeartbeats 400000 in
theorem readings_any (c : Int) (w : World) : Calls Try.prog 34 #[.int .i64 c] w fun e w' => e = .returned (.string (readP c 16)) ∧ Below w.heap.size w w' := by
  go_enter Try.func34, Try.ntmps34
  go_wp2_with (first | (go_at_call 25; refine (letterCells_any _).mono ?_; rintro e w1 ⟨ao, cap, rfl, hown, hb1⟩))
  have hr := RdI_owns hown
  rw [letL_length] at *
  go_loopw [3, 8] (fun s i wr => ∃ k : Nat, k ≤ 16 ∧ i = .int .i64 k ∧ s = .string (readP c k) ∧ Below w1.heap.size w1 wr) (fun _ i _ => 16 - (intOf i).toNat)
  case atStart => exact ⟨0, by omega, rfl, rfl, Below.refl _ _⟩
  case round =>
    obtain ⟨k, hle, rfl, rfl, hbw⟩ := hrel
    have hsz := readP_size c k hle
    have hln := canP_le c k
    by_cases hlt : k < 16
    · rcases RdI_below hr hbw with h | ⟨b1, o1, rfl, hb1', hc1⟩
      · exact absurd h (by decide)
      have hx := hc1 k (by rw [letL_length]; omega)
      rw [letL_getD] at hx
      have hsucc : readP c (k + 1) = if canB c k = true then readP c k ++ (⟨#[97, 98, 99, 100, 101, 102, 104, 106, 108, 110, 111, 112, 114, 116, 117, 121]⟩ : ByteArray).extract k (k + 1) else readP c k := rfl
      have hq : (bits .andNot .i64 c (letC k) == 0) = canB c k := rfl
      generalize letC k = y at hx hq
      generalize canB c k = q at hq hsucc
      generalize readP c k = S at hsz hsucc ⊢
      have HZ : S.size ≤ 16 := by omega
      have HS := Lib.hid hsucc
      clear hsucc hc1 hown hr hsz hln
      rcases q with _ | _
      · go_wp2
        go_roundw
        case rel => exact ⟨k + 1, by omega, by go_num, by rw [HS.out]; rfl, hbw⟩
        case measure => simp [intOf]; omega
      · go_wp2
        go_roundw
        case rel => exact ⟨k + 1, by omega, by go_num, by rw [HS.out]; rfl, hbw⟩
        case measure => simp [intOf]; omega
    · have hk : k = 16 := by omega
      subst hk
      go_wp2
      go_ret
      exact ⟨rfl, belowThen hb1 hbw⟩
/-- How many readings there are. -/
def prodL : List Int → Nat
  | [] => 1
  | c :: cs => canN c * prodL cs
theorem prodL_drop (L : List Int) (k : Nat) (h : k < L.length) : prodL (L.drop k) = canN (L.getD k 0) * prodL (L.drop (k + 1)) := by
  rw [drop_cons L k h]; rfl
theorem prodL_le (L : List Int) : prodL L ≤ 16 ^ L.length := by
  induction L with
  | nil => exact Nat.le_refl _
  | cons c cs ih =>
    show canN c * prodL cs ≤ 16 ^ (cs.length + 1)
    rw [Nat.pow_succ, Nat.mul_comm (16 ^ _)]
    exact Nat.mul_le_mul (canN_le c) ih
theorem pow16 (k : Nat) (h : k ≤ 6) : 16 ^ k ≤ 16777216 := Nat.pow_le_pow_right (n := 16) (by decide) h
theorem mulStep {m l P R : Nat} (h : m * (l * P) = R) : m * l * P = R := by rw [Nat.mul_assoc]; exact h
theorem mulBound {m l k : Nat} (h : m ≤ 16 ^ k) (hl : l ≤ 16) : m * l ≤ 16 ^ (k + 1) := by rw [Nat.pow_succ]; exact Nat.mul_le_mul h hl
theorem mulWrap {m l k : Nat} (h : m ≤ 16 ^ k) (hl : l ≤ 16) (hk : k < 6) : wrap64 ((m : Int) * (l : Int)) = ((m * l : Nat) : Int) := by
  have h1 := mulBound h hl
  have h2 := pow16 (k + 1) (by omega)
  rw [← Int.natCast_mul]
  unfold wrap64
  generalize m * l = x at *
  omega
set_option maxHeartbeats 400000 in
theorem l10Count_any (ao : Option Addr) (n cap : Nat) (L : List Int) (w : World) (hr : RdI w ao L) (hn : L.length = n) (hm : n ≤ 6) (hD : ∀ k, k < n → inB 0 127 (L.getD k 0) = true) :
    Calls Try.prog 27 #[.slice ao n cap] w fun e w' => e = .returned (.int .i64 (prodL L)) ∧ Below w.heap.size w w' := by
  have HN := Lib.hid hn
  have HD := Lib.hid hD
  clear hn hD
  go_enter Try.func27, Try.ntmps27
  go_wp2
  go_loopw [3, 4] (fun s i wr => ∃ k m : Nat, k ≤ n ∧ i = .int .i64 k ∧ s = .int .i64 m ∧ Hid (m * prodL (L.drop k) = prodL L) ∧ Hid (m ≤ 16 ^ k) ∧ Below w.heap.size w wr) (fun _ i _ => n - (intOf i).toNat)
  case atStart => exact ⟨0, 1, by omega, rfl, rfl, by show 1 * _ = _; rw [Nat.one_mul]; rfl, Nat.le_refl _, Below.refl _ _⟩
  case round =>
    obtain ⟨k, m, hk, rfl, rfl, hp, hmb, hbw⟩ := hrel
    by_cases hlt : k < n
    · rcases RdI_below hr hbw with h | ⟨b1, o1, rfl, hb1, hc1⟩
      · have := HN.out; rw [h] at this; simp at this; omega
      have hx := hc1 k (by rw [HN.out]; omega)
      have hy := HD.out k hlt
      have hd := prodL_drop L k (by rw [HN.out]; omega)
      have hl := canN_le (L.getD k 0)
      have HC := Lib.hid (fun W => l10Can_any (L.getD k 0) hy W)
      have hp' := hp.out
      rw [hd] at hp'
      have h3 := mulStep hp'
      have h4 := mulBound hmb.out hl
      have hwr := mulWrap hmb.out hl (by omega)
      unfold canN at *
      generalize L.getD k 0 = y at *
      generalize canP y 16 = ps at *
      clear hp' hd hc1 hp hmb
      generalize hml : m * ps.length = m2 at *
      have h3 := Lib.hid h3
      have h4 := Lib.hid h4
      clear hml
      go_wp2_with (first | (go_at_call 32; refine (HC.out _).mono ?_; rintro e w1 ⟨ao', cap', rfl, hown, hb1⟩))
      go_roundw
      case rel => exact ⟨k + 1, m2, by omega, by go_num, by first | rfl | rw [hwr], h3.out, h4.out, belowThen hbw hb1⟩
      case measure => simp [intOf]; omega
    · have hkn : k = n := by omega
      subst hkn
      have hp' := hp.out
      rw [List.drop_eq_nil_of_le (by rw [HN.out]; omega)] at hp'
      have hp'' : m = prodL L := by rw [← hp']; exact (Nat.mul_one m).symm
      have HP := Lib.hid hp''
      clear hp hp' hp'' hmb
      go_wp2
      go_ret
      exact ⟨by rw [← HP.out]; rfl, hbw⟩
set_option maxHeartbeats 400000 in
theorem countReadings_any (ao : Option Addr) (n cap : Nat) (L : List Int) (w : World) (hr : RdI w ao L) (hn : L.length = n) (hm : n ≤ 6) :
    Calls Try.prog 29 #[.slice ao n cap] w fun e w' => e = .returned (.int .i64 (prodL L)) ∧ Below w.heap.size w w' := by
  have HN := Lib.hid hn
  clear hn
  go_enter Try.func29, Try.ntmps29
  go_wp2
  go_loopw [3, 8] (fun s i wr => ∃ k m : Nat, k ≤ n ∧ i = .int .i64 k ∧ s = .int .i64 m ∧ Hid (m * prodL (L.drop k) = prodL L) ∧ Hid (m ≤ 16 ^ k) ∧ Below w.heap.size w wr) (fun _ i _ => n - (intOf i).toNat)
  case atStart => exact ⟨0, 1, by omega, rfl, rfl, by show 1 * _ = _; rw [Nat.one_mul]; rfl, Nat.le_refl _, Below.refl _ _⟩
  case round =>
    obtain ⟨k, m, hk, rfl, rfl, hp, hmb, hbw⟩ := hrel
    by_cases hlt : k < n
    · rcases RdI_below hr hbw with h | ⟨b1, o1, rfl, hb1, hc1⟩
      · have := HN.out; rw [h] at this; simp at this; omega
      have hx := hc1 k (by rw [HN.out]; omega)
      have hd := prodL_drop L k (by rw [HN.out]; omega)
      have hl := canN_le (L.getD k 0)
      have HC := Lib.hid (fun W => readings_any (L.getD k 0) W)
      have hsz := readP_size (L.getD k 0) 16 (Nat.le_refl _)
      have hp' := hp.out
      rw [hd] at hp'
      have h3 := mulStep hp'
      have h4 := mulBound hmb.out hl
      have hwr := mulWrap hmb.out hl (by omega)
      unfold canN at *
      rw [← hsz] at hl h3 h4 hwr
      generalize L.getD k 0 = y at *
      generalize readP y 16 = S at *
      clear hp' hd hc1 hp hmb hsz
      generalize hml : m * S.size = m2 at *
      have h3 := Lib.hid h3
      have h4 := Lib.hid h4
      clear hml
      go_wp2_with (first | (go_at_call 34; refine (HC.out _).mono ?_; rintro e w1 ⟨rfl, hb1⟩))
      go_roundw
      case rel => exact ⟨k + 1, m2, by omega, by go_num, by first | rfl | rw [hwr], h3.out, h4.out, belowThen hbw hb1⟩
      case measure => simp [intOf]; omega
    · have hkn : k = n := by omega
      subst hkn
      have hp' := hp.out
      rw [List.drop_eq_nil_of_le (by rw [HN.out]; omega)] at hp'
      have hp'' : m = prodL L := by rw [← hp']; exact (Nat.mul_one m).symm
      have HP := Lib.hid hp''
      clear hp hp' hp'' hmb
      go_wp2
      go_ret
      exact ⟨by rw [← HP.out]; rfl, hbw⟩
/-- What CountReadings gives. -/
def crN (L : List Int) : Int := if rowB L = true then ((prodL L : Nat) : Int) else 0
theorem CountReadingsS_any (ao : Option Addr) (n cap : Nat) (L : List Int) (w : World) (hr : RdI w ao L) (hn : L.length = n) (hm : n ≤ maxLen) (_ : n ≤ cap) :
    Calls Try.prog 10 #[.slice ao n cap] w fun e w' => e = .returned (.tuple #[.int .i64 (crN L), .bool (rowB L)]) ∧ Below w.heap.size w w' := by
  unfold crN
  have HR := Lib.hid (l2Row_any ao n cap L w hr hn hm)
  have hlen := rowB_len (L := L)
  have hat := rowB_at (L := L)
  rw [hn] at hlen hat
  have HC := fun h6 hD => Lib.hid (l10Count_any ao n cap L w hr hn h6 hD)
  generalize rowB L = q at HR hlen hat ⊢
  generalize prodL L = s at HC ⊢
  rcases q with _ | _
  · clear HC hlen hat hr hn
    go_enter Try.func10, Try.ntmps10
    go_wp2_with (first | (go_at_call 26; refine HR.out.mono ?_; rintro e w1 ⟨rfl, rfl⟩))
    go_ret2
    exact ⟨rfl, Below.refl _ _⟩
  · have HC := HC (hlen rfl) (hat rfl)
    clear hlen hat hr hn
    go_enter Try.func10, Try.ntmps10
    go_wp2_with (first | (go_at_call 26; refine HR.out.mono ?_; rintro e w1 ⟨rfl, rfl⟩) | (go_at_call 27; refine HC.out.mono ?_; rintro e w1 ⟨rfl, hb1⟩))
    go_ret2
    exact ⟨rfl, hb1⟩
theorem CountReadingsI_any (ao : Option Addr) (n cap : Nat) (L : List Int) (w : World) (hr : RdI w ao L) (hn : L.length = n) (hm : n ≤ maxLen) (_ : n ≤ cap) :
    Calls Try.prog 12 #[.slice ao n cap] w fun e w' => e = .returned (.tuple #[.int .i64 (crN L), .bool (rowB L)]) ∧ Below w.heap.size w w' := by
  unfold crN
  have HR := Lib.hid (IsRow_any ao n cap L w hr hn hm)
  have hlen := rowB_len (L := L)
  rw [hn] at hlen
  have HC := fun h6 W hrW => Lib.hid (countReadings_any ao n cap L W hrW hn h6)
  generalize rowB L = q at HR hlen ⊢
  generalize prodL L = s at HC ⊢
  rcases q with _ | _
  · clear HC hlen hr hn
    go_enter Try.func12, Try.ntmps12
    go_wp2_with (first | (go_at_call 28; refine HR.out.mono ?_; rintro e w1 ⟨rfl, hb1⟩))
    go_ret2
    exact ⟨rfl, hb1⟩
  · have HC := HC (hlen rfl)
    clear hlen hn
    go_enter Try.func12, Try.ntmps12
    go_wp2_with (first | (go_at_call 28; refine HR.out.mono ?_; rintro e w1 ⟨rfl, hb1⟩) | (go_at_call 29; refine (HC _ (RdI_below hr hb1)).out.mono ?_; rintro e w2 ⟨rfl, hb2⟩))
    go_ret2
    exact ⟨rfl, belowThen hb1 hb2⟩
end Go.Proofs.Ytjlhghbikmipgaa
