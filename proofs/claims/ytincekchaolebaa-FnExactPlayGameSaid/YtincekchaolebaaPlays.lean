/- The contracts of the functions that compute the number of plays, the longest and the shortest one. -/
import Derived.Test.YtincekchaolebaaLeast
import Derived.Lib.Hide
namespace Go.Proofs.Ytincekchaolebaa
open Go.RowKit

/-- Numbers one after the other into one. -/
def foldT (f : Int → Int → Int) (z : Int) (L : List Int) : Int := L.foldl f z
theorem foldT_succ (f : Int → Int → Int) (z : Int) (L : List Int) (k : Nat) (h : k < L.length) : foldT f z (L.take (k + 1)) = f (foldT f z (L.take k)) (L.getD k 0) := by
  rw [List.take_add_one, List.getElem?_eq_getElem h, List.getD_eq_getElem?_getD, List.getElem?_eq_getElem h]
  unfold foldT
  rw [List.foldl_append]
  rfl
def plusW (a b : Int) : Int := wrap64 (a + b)
def playsF (_ : Nat) (vs : List Int) : Int := if vs.length = 0 then 1 else foldT plusW 0 vs
theorem CountPlays1_any (c : Int) (ao : Option Addr) (n cap : Nat) (L : List Int) (w : World) (hr : RdI w ao L) (hn : L.length = n) (hm : n ≤ 1000000) :
    Calls Try.prog 66 #[.int .i64 c, .slice ao n cap] w fun e w' => e = .returned (.int .i64 (playsF 0 L)) ∧ w = w' := by
  unfold playsF
  rw [hn]
  by_cases h0 : n = 0
  · subst h0
    go_enter Try.func66, Try.ntmps66
    go_wp2
    go_ret
    exact ⟨rfl, rfl⟩
  · rw [if_neg h0]
    have HN := Lib.hid hn
    clear hn
    go_enter Try.func66, Try.ntmps66
    go_wp2
    go_loop [5, 13] (fun s i => ∃ k : Nat, k ≤ n ∧ i = .int .i64 k ∧ s = .int .i64 (foldT plusW 0 (L.take k))) (fun _ i => n - (intOf i).toNat)
    case atStart => exact ⟨0, by omega, rfl, rfl⟩
    case round =>
      obtain ⟨k, hle, rfl, rfl⟩ := hrel
      by_cases hlt : k < n
      · rcases hr with h | ⟨b1, o1, rfl, hb1, hc1⟩
        · have hn := HN.out; rw [h] at hn; simp at hn; omega
        have hx := hc1 k (by rw [HN.out]; omega)
        have hsucc := foldT_succ plusW 0 L k (by rw [HN.out]; omega)
        generalize L.getD k 0 = y at hx hsucc
        generalize foldT plusW 0 (L.take k) = s at hsucc ⊢
        have HS := Lib.hid hsucc
        clear hc1 hsucc
        go_wp2
        go_round
        case rel => exact ⟨k + 1, by omega, by go_num, by rw [HS.out]; rfl⟩
        case measure => simp [intOf]; omega
      · have hkn : k = n := by omega
        subst hkn
        rw [List.take_of_length_le (by rw [HN.out]; omega)]
        go_wp2
        go_ret
        exact ⟨rfl, rfl⟩
theorem sliceMax_any (ao : Option Addr) (n cap : Nat) (L : List Int) (w : World) (hr : RdI w ao L) (hn : L.length = n) (hm : n ≤ 1000000) (h0 : 0 < n) :
    Calls Try.prog 68 #[.slice ao n cap] w fun e w' => e = .returned (.int .i64 (foldT max (L.getD 0 0) L)) ∧ w = w' := by
  have HN := Lib.hid hn
  rcases hr with h | ⟨b1, o1, rfl, hb1, hc1⟩
  · rw [h] at hn; simp at hn; omega
  have h1 := hc1 0 (by omega)
  rw [Nat.add_zero] at h1
  have HC := Lib.hid hc1
  have hz : max (L.getD 0 0) (L.getD 0 0) = L.getD 0 0 := by omega
  have hs1 := foldT_succ max (L.getD 0 0) L 0 (by omega)
  simp only [List.take_zero] at hs1
  change foldT max (L.getD 0 0) (L.take 1) = max (L.getD 0 0) (L.getD 0 0) at hs1
  rw [hz] at hs1
  generalize L.getD 0 0 = z at h1 hs1 ⊢
  have HS1 := Lib.hid hs1
  clear hc1 hn hs1 hz
  go_enter Try.func68, Try.ntmps68
  go_wp2
  go_loop [3, 4] (fun s i => ∃ k : Nat, 1 ≤ k ∧ k ≤ n ∧ i = .int .i64 k ∧ s = .int .i64 (foldT max z (L.take k))) (fun _ i => n - (intOf i).toNat)
  case atStart => exact ⟨1, by omega, by omega, rfl, by rw [HS1.out]⟩
  case round =>
    obtain ⟨k, hk1, hle, rfl, rfl⟩ := hrel
    by_cases hlt : k < n
    · have hx := HC.out k (by rw [HN.out]; omega)
      have hsucc := foldT_succ max z L k (by rw [HN.out]; omega)
      generalize L.getD k 0 = y at hx hsucc
      generalize foldT max z (L.take k) = s at hsucc ⊢
      have HS := Lib.hid hsucc
      clear hsucc
      go_wp2
      go_round
      case rel => exact ⟨k + 1, by omega, by omega, by go_num, by rw [HS.out]; congr 1; split <;> omega⟩
      case measure => simp [intOf]; omega
    · have hkn : k = n := by omega
      subst hkn
      rw [List.take_of_length_le (by rw [HN.out]; omega)]
      go_wp2
      go_ret
      exact ⟨rfl, rfl⟩
theorem sliceMin_any (ao : Option Addr) (n cap : Nat) (L : List Int) (w : World) (hr : RdI w ao L) (hn : L.length = n) (hm : n ≤ 1000000) (h0 : 0 < n) :
    Calls Try.prog 70 #[.slice ao n cap] w fun e w' => e = .returned (.int .i64 (foldT min (L.getD 0 0) L)) ∧ w = w' := by
  have HN := Lib.hid hn
  rcases hr with h | ⟨b1, o1, rfl, hb1, hc1⟩
  · rw [h] at hn; simp at hn; omega
  have h1 := hc1 0 (by omega)
  rw [Nat.add_zero] at h1
  have HC := Lib.hid hc1
  have hz : min (L.getD 0 0) (L.getD 0 0) = L.getD 0 0 := by omega
  have hs1 := foldT_succ min (L.getD 0 0) L 0 (by omega)
  simp only [List.take_zero] at hs1
  change foldT min (L.getD 0 0) (L.take 1) = min (L.getD 0 0) (L.getD 0 0) at hs1
  rw [hz] at hs1
  generalize L.getD 0 0 = z at h1 hs1 ⊢
  have HS1 := Lib.hid hs1
  clear hc1 hn hs1 hz
  go_enter Try.func70, Try.ntmps70
  go_wp2
  go_loop [3, 4] (fun s i => ∃ k : Nat, 1 ≤ k ∧ k ≤ n ∧ i = .int .i64 k ∧ s = .int .i64 (foldT min z (L.take k))) (fun _ i => n - (intOf i).toNat)
  case atStart => exact ⟨1, by omega, by omega, rfl, by rw [HS1.out]⟩
  case round =>
    obtain ⟨k, hk1, hle, rfl, rfl⟩ := hrel
    by_cases hlt : k < n
    · have hx := HC.out k (by rw [HN.out]; omega)
      have hsucc := foldT_succ min z L k (by rw [HN.out]; omega)
      generalize L.getD k 0 = y at hx hsucc
      generalize foldT min z (L.take k) = s at hsucc ⊢
      have HS := Lib.hid hsucc
      clear hsucc
      go_wp2
      go_round
      case rel => exact ⟨k + 1, by omega, by omega, by go_num, by rw [HS.out]; congr 1; split <;> omega⟩
      case measure => simp [intOf]; omega
    · have hkn : k = n := by omega
      subst hkn
      rw [List.take_of_length_le (by rw [HN.out]; omega)]
      go_wp2
      go_ret
      exact ⟨rfl, rfl⟩
def longF (_ : Nat) (vs : List Int) : Int := if vs.length = 0 then 0 else wrap64 (1 + foldT max (vs.getD 0 0) vs)
def shortF (_ : Nat) (vs : List Int) : Int := if vs.length = 0 then 0 else wrap64 (1 + foldT min (vs.getD 0 0) vs)
theorem LongestPlay1_any (c : Int) (ao : Option Addr) (n cap : Nat) (L : List Int) (w : World) (hr : RdI w ao L) (hn : L.length = n) (hm : n ≤ 1000000) :
    Calls Try.prog 67 #[.int .i64 c, .slice ao n cap] w fun e w' => e = .returned (.int .i64 (longF 0 L)) ∧ w = w' := by
  unfold longF
  rw [hn]
  by_cases h0 : n = 0
  · subst h0
    go_enter Try.func67, Try.ntmps67
    go_wp2
    go_ret
    exact ⟨rfl, rfl⟩
  · rw [if_neg h0]
    have HM := Lib.hid (sliceMax_any ao n cap L w hr hn hm (by omega))
    generalize foldT max (L.getD 0 0) L = s at HM ⊢
    clear hr hn
    go_enter Try.func67, Try.ntmps67
    go_wp2_with (first | (go_at_call 68; refine HM.out.mono ?_; rintro e w1 ⟨rfl, rfl⟩))
    go_ret
    exact ⟨rfl, rfl⟩
theorem ShortestPlay1_any (c : Int) (ao : Option Addr) (n cap : Nat) (L : List Int) (w : World) (hr : RdI w ao L) (hn : L.length = n) (hm : n ≤ 1000000) :
    Calls Try.prog 69 #[.int .i64 c, .slice ao n cap] w fun e w' => e = .returned (.int .i64 (shortF 0 L)) ∧ w = w' := by
  unfold shortF
  rw [hn]
  by_cases h0 : n = 0
  · subst h0
    go_enter Try.func69, Try.ntmps69
    go_wp2
    go_ret
    exact ⟨rfl, rfl⟩
  · rw [if_neg h0]
    have HM := Lib.hid (sliceMin_any ao n cap L w hr hn hm (by omega))
    generalize foldT min (L.getD 0 0) L = s at HM ⊢
    clear hr hn
    go_enter Try.func69, Try.ntmps69
    go_wp2_with (first | (go_at_call 70; refine HM.out.mono ?_; rintro e w1 ⟨rfl, rfl⟩))
    go_ret
    exact ⟨rfl, rfl⟩
end Go.Proofs.Ytincekchaolebaa
