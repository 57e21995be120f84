/- Joined texts: Least, Plays, HasB. -/
import Derived.Test.YtcddfpbohejhhaaGreatMg05
import Derived.Test.YtcddfpbohejhhaaGreatMg02
import Derived.Lib.Hide
namespace Go.Proofs.YtcddfpbohejhhaaGreat
open Go.RowKit

/-- From k on, looking at most so often, the first number that is not in the list. -/
def mexF (L : List Int) : Nat → Nat → Nat
  | 0, k => k
  | t + 1, k => if L.contains (k : Int) = true then mexF L t (k + 1) else k
/-- The least number that is not in a list. -/
def mexN (L : List Int) : Nat := mexF L (L.length + 1) 0
theorem pigeon : ∀ (k : Nat) (L : List Int), (∀ i : Nat, i < k → (i : Int) ∈ L) → k ≤ L.length
  | 0, _, _ => Nat.zero_le _
  | k + 1, L, h => by
    have hk := h k (by omega)
    have h1 := pigeon k (L.erase (k : Int)) (fun i hi => (List.mem_erase_of_ne (by omega)).2 (h i (by omega)))
    rw [List.length_erase_of_mem hk] at h1
    have := List.length_pos_of_mem hk
    omega
theorem mexF_in {L : List Int} {k : Nat} (h : L.contains (k : Int) = true) (hk : k < L.length) : mexF L (L.length + 1 - k) k = mexF L (L.length + 1 - (k + 1)) (k + 1) := by
  rw [show L.length + 1 - k = (L.length + 1 - (k + 1)) + 1 by omega]
  show (if _ then _ else _) = _
  rw [if_pos h]
theorem mexF_out {L : List Int} {k : Nat} (h : L.contains (k : Int) = false) (hk : k ≤ L.length) : mexF L (L.length + 1 - k) k = k := by
  rw [show L.length + 1 - k = (L.length - k) + 1 by omega]
  show (if _ then _ else _) = _
  rw [if_neg (by rw [h]; decide)]
/-- All numbers below k are in the list, and the least absent is looked for from k on. -/
def mexAt (L : List Int) (k : Nat) : Prop := (∀ i : Nat, i < k → (i : Int) ∈ L) ∧ mexF L (L.length + 1 - k) k = mexN L
theorem mexAt_zero (L : List Int) : mexAt L 0 := ⟨fun _ h => absurd h (by omega), rfl⟩
theorem mexAt_le {L : List Int} {k : Nat} (h : mexAt L k) : k ≤ L.length := pigeon k L h.1
theorem mexAt_in {L : List Int} {k : Nat} (h : mexAt L k) (hc : L.contains (k : Int) = true) : mexAt L (k + 1) ∧ k < L.length := by
  have h1 : ∀ i : Nat, i < k + 1 → (i : Int) ∈ L := fun i hi => by
    rcases Nat.lt_or_ge i k with h2 | h2
    · exact h.1 i h2
    · have : i = k := by omega
      subst this; simpa using hc
  have h2 := pigeon (k + 1) L h1
  exact ⟨⟨h1, by rw [← mexF_in hc (by omega)]; exact h.2⟩, by omega⟩
theorem mexAt_out {L : List Int} {k : Nat} (h : mexAt L k) (hc : L.contains (k : Int) = false) : mexN L = k := by
  rw [← h.2]; exact mexF_out hc (mexAt_le h)
/-- A slice of ints reads as the ints. -/
theorem RdI_of_V {w : World} {ao : Option Addr} {vs : List Int} (h : RdV w ao (vs.map (Value.int .i64))) : RdI w ao vs := by
  rcases h with h | ⟨b, off, rfl, hlt, hc⟩
  · exact .inl (by simpa using h)
  · refine .inr ⟨b, off, rfl, hlt, fun j hj => ?_⟩
    rw [hc j (by simpa using hj)]
    simp [hj]
theorem leastAbsent_any (c : Int) (ao : Option Addr) (n cap : Nat) (L : List Int) (w : World) (hr : RdI w ao L) (hn : L.length = n) (hm : n ≤ 1000000) :
    Calls Tryz.prog 53 #[.int .i64 c, .slice ao n cap] w fun e w' => e = .returned (.int .i64 (mexN L : Nat)) ∧ w = w' := by
  have HN := Lib.hid hn
  go_enter Tryz.func53, Tryz.ntmps53
  go_wp2
  go_loop [5] (fun i => ∃ k : Nat, i = .int .i64 k ∧ mexAt L k) (fun i => n - (intOf i).toNat)
  case atStart => exact ⟨0, rfl, mexAt_zero L⟩
  case round =>
    obtain ⟨k, rfl, hat⟩ := hrel
    have hle := mexAt_le hat
    rw [hn] at hle
    obtain ⟨b, hb⟩ : ∃ b, L.contains (k : Int) = b := ⟨_, rfl⟩
    have HB := Lib.hid hb
    rcases b with _ | _
    · have HX := Lib.hid (mexAt_out hat hb)
      clear hb hat hn
      go_wp2_with (first | (go_at_call 89; refine (sliceContains_any _ _ _ L _ _ hr HN.out (by unfold maxLen; omega)).mono ?_; rw [HB.out]; rintro e w1 ⟨rfl, rfl⟩))
      go_ret
      exact ⟨by rw [HX.out]; rfl, rfl⟩
    · obtain ⟨hat2, hlt⟩ := mexAt_in hat hb
      rw [hn] at hlt
      have HA := Lib.hid hat2
      clear hb hat hn hat2
      go_wp2_with (first | (go_at_call 89; refine (sliceContains_any _ _ _ L _ _ hr HN.out (by unfold maxLen; omega)).mono ?_; rw [HB.out]; rintro e w1 ⟨rfl, rfl⟩))
      go_round
      case rel => exact ⟨k + 1, by go_num, HA.out⟩
      case measure => simp [intOf]; omega
end Go.Proofs.YtcddfpbohejhhaaGreat

namespace Go.Proofs.YtcddfpbohejhhaaGreat
open Go.RowKit

/-- Numbers one after the other into one. -/
def foldT (f : Int → Int → Int) (z : Int) (L : List Int) : Int := L.foldl f z
theorem foldT_succ (f : Int → Int → Int) (z : Int) (L : List Int) (k : Nat) (h : k < L.length) : foldT f z (L.take (k + 1)) = f (foldT f z (L.take k)) (L.getD k 0) := by
  rw [List.take_add_one, List.getElem?_eq_getElem h, List.getD_eq_getElem?_getD, List.getElem?_eq_getElem h]
  unfold foldT
  rw [List.foldl_append]
  rfl
def plusW (a b : Int) : Int := wrap64 (a + b)
def playsF (_ : Nat) (vs : List Int) : Int := if vs.length = 0 then 1 else foldT plusW 0 vs
theorem CountPlays1_any (c : Int) (ao : Option Addr) (n cap : Nat) (L : List Int) (w : World) (hr : RdI w ao L) (hn : L.length = n) (hm : n ≤ 1000000) :
    Calls Tryz.prog 41 #[.int .i64 c, .slice ao n cap] w fun e w' => e = .returned (.int .i64 (playsF 0 L)) ∧ w = w' := by
  unfold playsF
  rw [hn]
  by_cases h0 : n = 0
  · subst h0
    go_enter Tryz.func41, Tryz.ntmps41
    go_wp2
    go_ret
    exact ⟨rfl, rfl⟩
  · rw [if_neg h0]
    have HN := Lib.hid hn
    clear hn
    go_enter Tryz.func41, Tryz.ntmps41
    go_wp2
    go_loop [5, 13] (fun s i => ∃ k : Nat, k ≤ n ∧ i = .int .i64 k ∧ s = .int .i64 (foldT plusW 0 (L.take k))) (fun _ i => n - (intOf i).toNat)
    case atStart => exact ⟨0, by omega, rfl, rfl⟩
    case round =>
      obtain ⟨k, hle, rfl, rfl⟩ := hrel
      by_cases hlt : k < n
      · rcases hr with h | ⟨b1, o1, rfl, hb1, hc1⟩
        · have hn := HN.out; rw [h] at hn; simp at hn; omega
        have hx := hc1 k (by rw [HN.out]; omega)
        have hsucc := foldT_succ plusW 0 L k (by rw [HN.out]; omega)
        generalize L.getD k 0 = y at hx hsucc
        generalize foldT plusW 0 (L.take k) = s at hsucc ⊢
        have HS := Lib.hid hsucc
        clear hc1 hsucc
        go_wp2
        go_round
        case rel => exact ⟨k + 1, by omega, by go_num, by rw [HS.out]; rfl⟩
        case measure => simp [intOf]; omega
      · have hkn : k = n := by omega
        subst hkn
        rw [List.take_of_length_le (by rw [HN.out]; omega)]
        go_wp2
        go_ret
        exact ⟨rfl, rfl⟩
theorem sliceMax_any (ao : Option Addr) (n cap : Nat) (L : List Int) (w : World) (hr : RdI w ao L) (hn : L.length = n) (hm : n ≤ 1000000) (h0 : 0 < n) :
    Calls Tryz.prog 38 #[.slice ao n cap] w fun e w' => e = .returned (.int .i64 (foldT max (L.getD 0 0) L)) ∧ w = w' := by
  have HN := Lib.hid hn
  rcases hr with h | ⟨b1, o1, rfl, hb1, hc1⟩
  · rw [h] at hn; simp at hn; omega
  have h1 := hc1 0 (by omega)
  rw [Nat.add_zero] at h1
  have HC := Lib.hid hc1
  have hz : max (L.getD 0 0) (L.getD 0 0) = L.getD 0 0 := by omega
  have hs1 := foldT_succ max (L.getD 0 0) L 0 (by omega)
  simp only [List.take_zero] at hs1
  change foldT max (L.getD 0 0) (L.take 1) = max (L.getD 0 0) (L.getD 0 0) at hs1
  rw [hz] at hs1
  generalize L.getD 0 0 = z at h1 hs1 ⊢
  have HS1 := Lib.hid hs1
  clear hc1 hn hs1 hz
  go_enter Tryz.func38, Tryz.ntmps38
  go_wp2
  go_loop [3, 4] (fun s i => ∃ k : Nat, 1 ≤ k ∧ k ≤ n ∧ i = .int .i64 k ∧ s = .int .i64 (foldT max z (L.take k))) (fun _ i => n - (intOf i).toNat)
  case atStart => exact ⟨1, by omega, by omega, rfl, by rw [HS1.out]⟩
  case round =>
    obtain ⟨k, hk1, hle, rfl, rfl⟩ := hrel
    by_cases hlt : k < n
    · have hx := HC.out k (by rw [HN.out]; omega)
      have hsucc := foldT_succ max z L k (by rw [HN.out]; omega)
      generalize L.getD k 0 = y at hx hsucc
      generalize foldT max z (L.take k) = s at hsucc ⊢
      have HS := Lib.hid hsucc
      clear hsucc
      go_wp2
      go_round
      case rel => exact ⟨k + 1, by omega, by omega, by go_num, by rw [HS.out]; congr 1; split <;> omega⟩
      case measure => simp [intOf]; omega
    · have hkn : k = n := by omega
      subst hkn
      rw [List.take_of_length_le (by rw [HN.out]; omega)]
      go_wp2
      go_ret
      exact ⟨rfl, rfl⟩
theorem sliceMin_any (ao : Option Addr) (n cap : Nat) (L : List Int) (w : World) (hr : RdI w ao L) (hn : L.length = n) (hm : n ≤ 1000000) (h0 : 0 < n) :
    Calls Tryz.prog 40 #[.slice ao n cap] w fun e w' => e = .returned (.int .i64 (foldT min (L.getD 0 0) L)) ∧ w = w' := by
  have HN := Lib.hid hn
  rcases hr with h | ⟨b1, o1, rfl, hb1, hc1⟩
  · rw [h] at hn; simp at hn; omega
  have h1 := hc1 0 (by omega)
  rw [Nat.add_zero] at h1
  have HC := Lib.hid hc1
  have hz : min (L.getD 0 0) (L.getD 0 0) = L.getD 0 0 := by omega
  have hs1 := foldT_succ min (L.getD 0 0) L 0 (by omega)
  simp only [List.take_zero] at hs1
  change foldT min (L.getD 0 0) (L.take 1) = min (L.getD 0 0) (L.getD 0 0) at hs1
  rw [hz] at hs1
  generalize L.getD 0 0 = z at h1 hs1 ⊢
  have HS1 := Lib.hid hs1
  clear hc1 hn hs1 hz
  go_enter Tryz.func40, Tryz.ntmps40
  go_wp2
  go_loop [3, 4] (fun s i => ∃ k : Nat, 1 ≤ k ∧ k ≤ n ∧ i = .int .i64 k ∧ s = .int .i64 (foldT min z (L.take k))) (fun _ i => n - (intOf i).toNat)
  case atStart => exact ⟨1, by omega, by omega, rfl, by rw [HS1.out]⟩
  case round =>
    obtain ⟨k, hk1, hle, rfl, rfl⟩ := hrel
    by_cases hlt : k < n
    · have hx := HC.out k (by rw [HN.out]; omega)
      have hsucc := foldT_succ min z L k (by rw [HN.out]; omega)
      generalize L.getD k 0 = y at hx hsucc
      generalize foldT min z (L.take k) = s at hsucc ⊢
      have HS := Lib.hid hsucc
      clear hsucc
      go_wp2
      go_round
      case rel => exact ⟨k + 1, by omega, by omega, by go_num, by rw [HS.out]; congr 1; split <;> omega⟩
      case measure => simp [intOf]; omega
    · have hkn : k = n := by omega
      subst hkn
      rw [List.take_of_length_le (by rw [HN.out]; omega)]
      go_wp2
      go_ret
      exact ⟨rfl, rfl⟩
def longF (_ : Nat) (vs : List Int) : Int := if vs.length = 0 then 0 else wrap64 (1 + foldT max (vs.getD 0 0) vs)
def shortF (_ : Nat) (vs : List Int) : Int := if vs.length = 0 then 0 else wrap64 (1 + foldT min (vs.getD 0 0) vs)
theorem LongestPlay1_any (c : Int) (ao : Option Addr) (n cap : Nat) (L : List Int) (w : World) (hr : RdI w ao L) (hn : L.length = n) (hm : n ≤ 1000000) :
    Calls Tryz.prog 37 #[.int .i64 c, .slice ao n cap] w fun e w' => e = .returned (.int .i64 (longF 0 L)) ∧ w = w' := by
  unfold longF
  rw [hn]
  by_cases h0 : n = 0
  · subst h0
    go_enter Tryz.func37, Tryz.ntmps37
    go_wp2
    go_ret
    exact ⟨rfl, rfl⟩
  · rw [if_neg h0]
    have HM := Lib.hid (sliceMax_any ao n cap L w hr hn hm (by omega))
    generalize foldT max (L.getD 0 0) L = s at HM ⊢
    clear hr hn
    go_enter Tryz.func37, Tryz.ntmps37
    go_wp2_with (first | (go_at_call 38; refine HM.out.mono ?_; rintro e w1 ⟨rfl, rfl⟩))
    go_ret
    exact ⟨rfl, rfl⟩
theorem ShortestPlay1_any (c : Int) (ao : Option Addr) (n cap : Nat) (L : List Int) (w : World) (hr : RdI w ao L) (hn : L.length = n) (hm : n ≤ 1000000) :
    Calls Tryz.prog 39 #[.int .i64 c, .slice ao n cap] w fun e w' => e = .returned (.int .i64 (shortF 0 L)) ∧ w = w' := by
  unfold shortF
  rw [hn]
  by_cases h0 : n = 0
  · subst h0
    go_enter Tryz.func39, Tryz.ntmps39
    go_wp2
    go_ret
    exact ⟨rfl, rfl⟩
  · rw [if_neg h0]
    have HM := Lib.hid (sliceMin_any ao n cap L w hr hn hm (by omega))
    generalize foldT min (L.getD 0 0) L = s at HM ⊢
    clear hr hn
    go_enter Tryz.func39, Tryz.ntmps39
    go_wp2_with (first | (go_at_call 40; refine HM.out.mono ?_; rintro e w1 ⟨rfl, rfl⟩))
    go_ret
    exact ⟨rfl, rfl⟩
end Go.Proofs.YtcddfpbohejhhaaGreat

namespace Go.Proofs.YtcddfpbohejhhaaGreat
open Go.RowKit

/-- The place of the first false, the first element having the place n, or -1. -/
def idxB : List Bool → Nat → Int
  | [], _ => -1
  | y :: ys, n => if y = false then (n : Int) else idxB ys (n + 1)
theorem idxB_ge (L : List Bool) (n : Nat) : (decide (0 ≤ idxB L n)) = L.contains false := by
  induction L generalizing n with
  | nil => simp [idxB]
  | cons y ys ih =>
    unfold idxB
    cases y
    · simp
    · rw [if_neg (by decide), ih]; simp
theorem dropB (L : List Bool) (k : Nat) (h : k < L.length) : L.drop k = L.getD k false :: L.drop (k + 1) := by
  rw [List.drop_eq_getElem_cons h]; simp [h]
/-- A slice reads as the bools. -/
def RdB (w : World) (ao : Option Addr) (L : List Bool) : Prop := L = [] ∨ ∃ b off, ao = some ⟨b, off, none⟩ ∧ b < w.heap.size ∧ ∀ j, j < L.length → w.cell? ⟨b, off + j, none⟩ = some (.bool (L.getD j false))
theorem RdB_of_V {w : World} {ao : Option Addr} {vs : List Bool} (h : RdV w ao (vs.map Value.bool)) : RdB w ao vs := by
  rcases h with h | ⟨b, off, rfl, hlt, hc⟩
  · exact .inl (by simpa using h)
  · refine .inr ⟨b, off, rfl, hlt, fun j hj => ?_⟩
    rw [hc j (by simpa using hj)]
    simp [hj]
theorem RdB_below {w w' : World} {ao : Option Addr} {vs : List Bool} (h : RdB w ao vs) (hb : Below w.heap.size w w') : RdB w' ao vs := by
  rcases h with h | ⟨b, off, rfl, hlt, hc⟩
  · exact .inl h
  · have := hb.size
    exact .inr ⟨b, off, rfl, by omega, fun j hj => (hb.cell (p := ⟨b, off + j, none⟩) (by show b < _; omega)).trans (hc j hj)⟩
theorem sliceIndexB_any (ao : Option Addr) (n cap : Nat) (L : List Bool) (w : World) (hr : RdB w ao L) (hn : L.length = n) (hm : n ≤ 1000000) :
    Calls Tryz.prog 77 #[.slice ao n cap, .bool false] w fun e w' => e = .returned (.int .i64 (idxB L 0)) ∧ w = w' := by
  obtain ⟨R, hR⟩ : ∃ R, idxB L 0 = R := ⟨_, rfl⟩
  rw [hR]
  go_enter Tryz.func77, Tryz.ntmps77
  go_wp2
  go_loop [8] (fun i => ∃ k : Nat, k ≤ n ∧ i = .int .i64 k ∧ idxB (L.drop k) k = R) (fun i => n - (intOf i).toNat)
  case atStart => exact ⟨0, by omega, rfl, by simpa using hR⟩
  case round =>
    obtain ⟨k, hle, rfl, hd⟩ := hrel
    by_cases hlt : k < n
    · rcases hr with h | ⟨b1, o1, rfl, hb1, hc1⟩
      · rw [h] at hn; simp at hn; omega
      have hx := hc1 k (by omega)
      rw [dropB L k (by omega)] at hd
      unfold idxB at hd
      generalize L.getD k false = y at hx hd
      clear hc1 hR hn
      cases y
      · rw [if_pos rfl] at hd
        subst hd
        go_wp2
        go_ret
        exact ⟨rfl, rfl⟩
      · rw [if_neg (by decide)] at hd
        have HD := Lib.hid hd
        clear hd
        go_wp2
        go_round
        case rel => exact ⟨k + 1, by omega, by go_num, HD.out⟩
        case measure => simp [intOf]; omega
    · have hkn : k = n := by omega
      subst hkn
      rw [List.drop_eq_nil_of_le (by omega)] at hd
      unfold idxB at hd
      subst hd
      clear hR hn
      go_wp2
      go_ret
      exact ⟨rfl, rfl⟩
theorem sliceContainsB_any (ao : Option Addr) (n cap : Nat) (L : List Bool) (w : World) (hr : RdB w ao L) (hn : L.length = n) (hm : n ≤ 1000000) :
    Calls Tryz.prog 44 #[.slice ao n cap, .bool false] w fun e w' => e = .returned (.bool (L.contains false)) ∧ w = w' := by
  have HG := Lib.hid (idxB_ge L 0)
  go_enter Tryz.func44, Tryz.ntmps44
  go_wp2_with (go_at_call 77; refine (sliceIndexB_any _ _ _ L _ hr hn hm).mono ?_; rintro e w' ⟨rfl, rfl⟩)
  go_ret
  exact ⟨ret_bool HG.out, rfl⟩
def missF (_ : Nat) (vs : List Bool) : Bool := decide (vs.length = 0) || vs.contains false
theorem MissWins1_any (c : Int) (ao : Option Addr) (n cap : Nat) (L : List Bool) (w : World) (hr : RdB w ao L) (hn : L.length = n) (hm : n ≤ 1000000) :
    Calls Tryz.prog 43 #[.int .i64 c, .slice ao n cap] w fun e w' => e = .returned (.bool (missF 0 L)) ∧ w = w' := by
  unfold missF
  rw [hn]
  by_cases h0 : n = 0
  · subst h0
    go_enter Tryz.func43, Tryz.ntmps43
    go_wp2
    go_ret
    exact ⟨rfl, rfl⟩
  · rw [decide_eq_false h0, Bool.false_or]
    have hz : ((n : Int) == 0) = false := by simp; omega
    have HM := Lib.hid (sliceContainsB_any ao n cap L w hr hn hm)
    generalize L.contains false = s at HM ⊢
    clear hr hn
    go_enter Tryz.func43, Tryz.ntmps43
    go_wp2_with (first | (go_at_call 44; refine HM.out.mono ?_; rintro e w1 ⟨rfl, rfl⟩))
    go_ret
    exact ⟨rfl, rfl⟩
end Go.Proofs.YtcddfpbohejhhaaGreat
