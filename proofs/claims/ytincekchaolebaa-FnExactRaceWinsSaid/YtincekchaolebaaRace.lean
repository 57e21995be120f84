/- The race: contracts of the reference's functions, and what is computed. -/
import Derived.Test.YtincekchaolebaaValC
import Derived.Test.YtincekchaolebaaKnown
import Derived.Lib.Hide
namespace Go.Proofs.Ytincekchaolebaa
open Go.RowKit

/-- A cell is that of a digit of a goal. -/
def showP (c x : Int) : Bool := ((digC x.toNat : Int) == c)
def goalB (L : List Int) (c : Int) : Bool := L.any (showP c)
def raceF (L : List Int) (c : Nat) (vs : List Bool) : Bool := !goalB L (c : Int) && vs.contains false
def raceV (L : List Int) (c : Nat) : Bool := valC L (raceF L) c
/-- Who is to light a bar can light one behind which the other one does not win. -/
def raceC (L : List Int) (c : Nat) : Bool := (litL L c).any fun x => !raceV L x
theorem containsF_map (l : List Nat) (p : Nat → Bool) : (l.map p).contains false = l.any fun x => !p x := by
  induction l with
  | nil => rfl
  | cons a l ih =>
    rw [List.map_cons, List.contains_cons, List.any_cons, ih]
    cases p a <;> rfl
theorem raceV_eq (L : List Int) (c : Nat) (hc : c < 128) : raceV L c = (!goalB L (c : Int) && raceC L c) := by
  unfold raceV raceC
  rw [valC_eq L (raceF L) c hc]
  show (_ && _) = _
  rw [containsF_map]
  rfl
set_option maxHeartbeats 400000 in
theorem l11Shows_any (c : Int) (ao : Option Addr) (n cap : Nat) (L : List Int) (w : World) (hr : RdI w ao L) (hn : L.length = n) (hm : n ≤ maxLen) (hD : allDig L) :
    Calls Try.prog 56 #[.int .i64 c, .slice ao n cap] w fun e w' => e = .returned (.bool (goalB L c)) ∧ Below w.heap.size w w' := by
  unfold maxLen at hm
  obtain ⟨R, hR⟩ : ∃ R, goalB L c = R := ⟨_, rfl⟩
  rw [hR]
  have hA1 := @cellAlloc; have hA2 := @frozenAlloc; have hA3 := @setCellAlloc; go_enter Try.func56, Try.ntmps56
  go_wp2
  go_loopw [5] (fun i wr => ∃ k : Nat, k ≤ n ∧ i = .int .i64 k ∧ (L.drop k).any (showP c) = R ∧ Below w.heap.size w wr) (fun i _ => n - (intOf i).toNat)
  case atStart => exact ⟨0, by omega, rfl, by simpa [goalB] using hR, Below.refl _ _⟩
  case round =>
    obtain ⟨k, hle, rfl, hd, hbw⟩ := hrel
    by_cases hlt : k < n
    · have hrr := RdI_below hr hbw
      rcases hrr with h | ⟨b1, o1, rfl, hb1, hc1⟩
      · rw [h] at hn; simp at hn; omega
      have hx := hc1 k (by omega)
      have hy := hD _ (mem_getD (show k < L.length by omega))
      rw [drop_cons L k (by omega), List.any_cons] at hd
      generalize L.getD k 0 = y at hx hd hy
      rw [inB_iff] at hy
      obtain ⟨d, rfl⟩ := Int.eq_ofNat_of_zero_le hy.1
      have hd10 : d < 10 := by omega
      simp only [showP, Int.toNat_natCast] at hd
      generalize ht : ((digC d : Int) == c) = t at hd
      clear hc1 hR hn hr hy hD
      rcases t with _ | _
      · rw [Bool.false_or] at hd
        have HD := Lib.hid hd
        clear hd
        go_wp2_with (go_at_call 85; refine (l2Digit_any d hd10 _).mono ?_; rintro e w1 ⟨rfl, hb2⟩)
        go_roundw
        case rel => exact ⟨k + 1, by omega, by go_num, HD.out, belowThen hbw hb2⟩
        case measure => simp [intOf]; omega
      · rw [Bool.true_or] at hd
        subst hd
        go_wp2_with (go_at_call 85; refine (l2Digit_any d hd10 _).mono ?_; rintro e w1 ⟨rfl, hb2⟩)
        go_ret
        exact ⟨rfl, belowThen hbw hb2⟩
    · have hkn : k = n := by omega
      subst hkn
      rw [List.drop_eq_nil_of_le (by omega)] at hd
      simp only [List.any_nil] at hd
      subst hd
      clear hR hn
      go_wp2
      go_ret
      exact ⟨rfl, hbw⟩
/-- In none of the cells by the first k bars does who is to light a bar fail to win. -/
def raceAll (L : List Int) (c k : Nat) : Bool := (litP L c k).all (raceV L)
theorem raceAll_succ (L : List Int) (c k : Nat) : raceAll L c (k + 1) = if nextB L c k = true then raceAll L c k && raceV L (c ||| 2 ^ k) else raceAll L c k := by
  unfold raceAll
  rw [litP_succ]
  split <;> simp
theorem raceAll_le (L : List Int) (c k : Nat) (h : raceC L c = false) : raceAll L c 7 = true := by
  unfold raceC at h
  unfold raceAll
  rw [List.any_eq_false] at h
  rw [List.all_eq_true]
  intro x hx
  have := h x hx
  simpa using this
theorem raceC_of_all (L : List Int) (c : Nat) (h : raceAll L c 7 = true) : raceC L c = false := by
  unfold raceAll at h
  unfold raceC
  rw [List.all_eq_true] at h
  rw [List.any_eq_false]
  intro x hx
  have := h x hx
  simpa using this
theorem raceC_of_one (L : List Int) (c k : Nat) (hk : k < 7) (hn : nextB L c k = true) (h : raceV L (c ||| 2 ^ k) = false) : raceC L c = true := by
  unfold raceC
  rw [List.any_eq_true]
  refine ⟨c ||| 2 ^ k, ?_, by rw [h]; rfl⟩
  simp only [litL, litP, List.mem_map, List.mem_filter, List.mem_range]
  exact ⟨k, ⟨hk, hn⟩, rfl⟩
set_option maxHeartbeats 1600000 in
theorem l11Race_any (ao : Option Addr) (n cap : Nat) (L : List Int) (hn : L.length = n) (hm : n ≤ maxLen) (hD : allDig L) (t : Nat) : ∀ (c : Nat) (w : World), c < 128 → 128 - c ≤ t → RdI w ao L →
    Calls Try.prog 57 #[.int .i64 c, .slice ao n cap] w fun e w' => e = .returned (.bool (raceC L c)) ∧ Below w.heap.size w w' := by
  have HN := Lib.hid hn
  have HD := Lib.hid hD
  clear hn hD
  induction t with
  | zero => intro c w hc h0 _; omega
  | succ t ih =>
    intro c w hc ht hr
    have IH := Lib.hid ih
    clear ih
    have hA1 := @cellAlloc; have hA2 := @frozenAlloc; have hA3 := @setCellAlloc; go_enter Try.func57, Try.ntmps57
    go_wp2_with fail
    go_loopw [5] (fun i wr => ∃ k : Nat, k ≤ 7 ∧ i = .int .i64 k ∧ Hid (raceAll L c k = true) ∧ Below w.heap.size w wr) (fun i _ => 7 - (intOf i).toNat)
    case atStart => exact ⟨0, by omega, rfl, rfl, Below.refl _ _⟩
    case round =>
      obtain ⟨k, hle, rfl, hall, hbw⟩ := hrel
      by_cases hlt : k < 7
      · have hsucc := raceAll_succ L c k
        rw [hall.out] at hsucc
        have hone := raceC_of_one L c k hlt
        have hmem : nextB L c k = true → c < c ||| 2 ^ k := by
          intro h
          have : c ||| 2 ^ k ∈ litP L c 7 := by
            simp only [litP, List.mem_map, List.mem_filter, List.mem_range]
            exact ⟨k, ⟨hlt, h⟩, rfl⟩
          exact (litP_mem hc (Nat.le_refl 7) this).1
        have hl := lor_lt c k hc hlt
        have hV := raceV_eq L (c ||| 2 ^ k) hl
        have HX := Lib.hid (fun W h => l11Next_any c k hc hlt ao n cap L W h HN.out hm HD.out)
        generalize c ||| 2 ^ k = x at hsucc hone hmem hl hV HX
        generalize nextB L c k = q at hsucc hone hmem HX
        rcases q with _ | _
        · have HS := Lib.hid hsucc
          clear hsucc hone hmem hV
          go_wp2_with (first | (go_at_call 52; refine (HX.out _ (RdI_below hr hbw)).mono ?_; rintro e w2 ⟨rfl, hb2⟩))
          go_roundw
          case rel => exact ⟨k + 1, by omega, by go_num, by show _ = _; rw [HS.out]; rfl, belowThen hbw hb2⟩
          case measure => simp [intOf]; omega
        · have hlx := hmem rfl
          have hone := hone rfl
          rw [if_pos rfl, Bool.true_and] at hsucc
          rw [hV] at hsucc hone
          have HSh := Lib.hid (fun W h => l11Shows_any (x : Int) ao n cap L W h HN.out hm HD.out)
          have HRc := Lib.hid (fun W h => IH.out x W hl (by omega) h)
          generalize goalB L (x : Int) = g at hsucc hone HSh
          generalize raceC L x = r at hsucc hone HRc
          clear hV hmem
          rcases g with _ | _
          · rcases r with _ | _
            · have HO := Lib.hid (hone rfl)
              clear hone hsucc
              go_wp2_with (first | (go_at_call 52; refine (HX.out _ (RdI_below hr hbw)).mono ?_; rintro e w2 ⟨rfl, hb2⟩) | (go_at_call 56; refine (HSh.out _ (RdI_below (RdI_below hr hbw) hb2)).mono ?_; rintro e w3 ⟨rfl, hb3⟩) | (go_at_call 57; refine (HRc.out _ (RdI_below (RdI_below (RdI_below hr hbw) hb2) hb3)).mono ?_; rintro e w4 ⟨rfl, hb4⟩))
              go_ret
              exact ⟨by rw [HO.out]; rfl, belowThen hbw (belowThen hb2 (belowThen hb3 hb4))⟩
            · have HS := Lib.hid hsucc
              clear hone hsucc
              go_wp2_with (first | (go_at_call 52; refine (HX.out _ (RdI_below hr hbw)).mono ?_; rintro e w2 ⟨rfl, hb2⟩) | (go_at_call 56; refine (HSh.out _ (RdI_below (RdI_below hr hbw) hb2)).mono ?_; rintro e w3 ⟨rfl, hb3⟩) | (go_at_call 57; refine (HRc.out _ (RdI_below (RdI_below (RdI_below hr hbw) hb2) hb3)).mono ?_; rintro e w4 ⟨rfl, hb4⟩))
              go_roundw
              case rel => exact ⟨k + 1, by omega, by go_num, by show _ = _; rw [HS.out]; rfl, belowThen hbw (belowThen hb2 (belowThen hb3 hb4))⟩
              case measure => simp [intOf]; omega
          · have HO := Lib.hid (hone rfl)
            clear hone hsucc
            go_wp2_with (first | (go_at_call 52; refine (HX.out _ (RdI_below hr hbw)).mono ?_; rintro e w2 ⟨rfl, hb2⟩) | (go_at_call 56; refine (HSh.out _ (RdI_below (RdI_below hr hbw) hb2)).mono ?_; rintro e w3 ⟨rfl, hb3⟩))
            go_ret
            exact ⟨by rw [HO.out]; rfl, belowThen hbw (belowThen hb2 hb3)⟩
      · have hk : k = 7 := by omega
        subst hk
        have HO := Lib.hid (raceC_of_all L c hall.out)
        clear hall
        go_wp2_with fail
        go_ret
        exact ⟨by rw [HO.out]; rfl, hbw⟩
end Go.Proofs.Ytincekchaolebaa
