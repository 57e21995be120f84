/- Joined texts: PlayW. -/
import Derived.Test.YtcddfpbohejhhaaGreatMg16
import Derived.Test.YtcddfpbohejhhaaGreatMg17
import Derived.Test.YtcddfpbohejhhaaGreatMg18
import Derived.Test.YtcddfpbohejhhaaGreatMg19
import Derived.Test.YtcddfpbohejhhaaGreatMg20
import Derived.Test.YtcddfpbohejhhaaGreatMg21
import Derived.Test.YtcddfpbohejhhaaGreatMg02
import Derived.Lib.Hide
namespace Go.Proofs.YtcddfpbohejhhaaGreat
open Go.RowKit

theorem dof_digC : ∀ d : Fin 10, dofI ((digC d.val : Nat) : Int) = (d.val : Int) := by decide +kernel
theorem DigitOfI_any (d : Nat) (hd : d < 10) (w : World) : Calls Tryz.prog 25 #[.int .i64 (digC d)] w fun e w' => e = .returned (.tuple #[.int .i64 d, .bool true]) ∧ Below w.heap.size w w' := by
  have hq := dof_digC ⟨d, hd⟩
  have HQ := Lib.hid hq
  simp only at hq
  have HD := Lib.hid (fun W => digitOf_any ((digC d : Nat) : Int) W)
  rw [hq] at HD
  clear hq HQ
  generalize digC d = x at HD
  have h0 : decide ((d : Int) < 0) = false := by simp
  have hA1 := @cellAlloc; have hA2 := @frozenAlloc; have hA3 := @setCellAlloc; go_enter Tryz.func25, Tryz.ntmps25
  go_wp2_with (go_at_call 61; refine (HD.out _).mono ?_; rintro e w1 ⟨rfl, hb1⟩)
  go_ret2
  exact ⟨rfl, hb1⟩
theorem CountBarsI_any (c : Nat) (hc : c < 128) (w : World) : Calls Tryz.prog 24 #[.int .i64 c] w fun e w' => e = .returned (.tuple #[.int .i64 (cnt c), .bool true]) ∧ Below w.heap.size w w' := by
  have hin : inB 0 127 (c : Int) = true := by rw [inB_iff]; omega
  have hA1 := @cellAlloc; have hA2 := @frozenAlloc; have hA3 := @setCellAlloc; go_enter Tryz.func24, Tryz.ntmps24
  go_wp2_with (first | (go_at_call 59; refine (IsCell_any _ _).mono ?_; rw [hin]; rintro e w1 ⟨rfl, rfl⟩) | (go_at_call 60; refine (count_any c hc _).mono ?_; rintro e w2 ⟨rfl, rfl⟩))
  go_ret2
  exact ⟨rfl, Below.refl _ _⟩
set_option maxHeartbeats 400000 in
theorem rHas_any (ao : Option Addr) (n cap : Nat) (L : List Int) (x : Int) (w : World) (hr : RdI w ao L) (hn : L.length = n) (hm : n ≤ maxLen) :
    Calls Tryz.prog 26 #[.slice ao n cap, .int .i64 x] w fun e w' => e = .returned (.bool (L.contains x)) ∧ w = w' := by
  obtain ⟨R, hR⟩ : ∃ R, L.contains x = R := ⟨_, rfl⟩
  rw [hR]
  unfold maxLen at hm
  go_enter Tryz.func26, Tryz.ntmps26
  go_wp2
  go_loop [5] (fun i => ∃ k : Nat, k ≤ n ∧ i = .int .i64 k ∧ (L.drop k).contains x = R) (fun i => n - (intOf i).toNat)
  case atStart => exact ⟨0, by omega, rfl, by simpa using hR⟩
  case round =>
    obtain ⟨k, hle, rfl, hd⟩ := hrel
    by_cases hlt : k < n
    · rcases hr with h | ⟨b1, o1, rfl, hb1, hc1⟩
      · rw [h] at hn; simp at hn; omega
      have hx := hc1 k (by omega)
      rw [drop_cons L k (by omega), List.contains_cons] at hd
      generalize L.getD k 0 = y at hx hd
      clear hc1 hR hn
      by_cases hxy : y = x
      · subst hxy
        rw [beq_self_eq_true, Bool.true_or] at hd
        subst hd
        go_wp2
        go_ret
        exact ⟨rfl, rfl⟩
      · rw [show (x == y) = false by simp; exact fun e => hxy e.symm, Bool.false_or] at hd
        have HD := Lib.hid hd
        have hbeq : (y == x) = false := by simpa using hxy
        clear hd
        go_wp2
        go_round
        case rel => exact ⟨k + 1, by omega, by go_num, HD.out⟩
        case measure => simp [intOf]; omega
    · have hkn : k = n := by omega
      subst hkn
      rw [List.drop_of_length_le (by omega)] at hd
      have hd' : R = false := by rw [← hd]; rfl
      subst hd'
      go_wp2
      go_ret
      exact ⟨rfl, rfl⟩
theorem DrawLastCells_any (ao : Option Addr) (n cap : Nat) (w : World) (h : RdY w ao n) : Calls Tryz.prog 5 #[.slice ao n cap] w fun e w' => RetIntOwn 11 w e w' ∧ Below w.heap.size w w' := by
  have HL := Lib.hid (DrawLightableBars_any ao n cap w h)
  go_enter Tryz.func5, Tryz.ntmps5
  go_wp2_with (go_at_call 27; refine HL.out.mono ?_; rintro e w1 ⟨⟨x, ao1, cap1, L1, rfl, hL1, hown1⟩, hb1⟩)
  go_ret2
  exact ⟨⟨x, ao1, cap1, L1, rfl, hL1, hown1⟩, hb1⟩
/-- The fewest bars of the first k cells of a list, and the most. -/
def fewU (l : List Nat) (k : Nat) : Nat := (l.take k).foldl (fun a x => if cnt x < a then cnt x else a) 8
def mostU (l : List Nat) (k : Nat) : Nat := (l.take k).foldl (fun a x => if a < cnt x then cnt x else a) 0
theorem take_foldl {α : Type} (f : α → Nat → α) (z : α) (l : List Nat) (k : Nat) (h : k < l.length) : (l.take (k + 1)).foldl f z = f ((l.take k).foldl f z) (l.getD k 0) := by
  rw [List.take_add_one, List.getElem?_eq_getElem h, List.getD_eq_getElem?_getD, List.getElem?_eq_getElem h, List.foldl_append]
  rfl
theorem fewU_succ (l : List Nat) (k : Nat) (h : k < l.length) : fewU l (k + 1) = if cnt (l.getD k 0) < fewU l k then cnt (l.getD k 0) else fewU l k := take_foldl _ _ l k h
theorem mostU_succ (l : List Nat) (k : Nat) (h : k < l.length) : mostU l (k + 1) = if mostU l k < cnt (l.getD k 0) then cnt (l.getD k 0) else mostU l k := take_foldl _ _ l k h
theorem few_spec (l : List Nat) : ∀ a : Nat, (l.foldl (fun a x => if cnt x < a then cnt x else a) a ≤ a ∧ ∀ x ∈ l, l.foldl (fun a x => if cnt x < a then cnt x else a) a ≤ cnt x) ∧ (l.foldl (fun a x => if cnt x < a then cnt x else a) a = a ∨ ∃ x ∈ l, l.foldl (fun a x => if cnt x < a then cnt x else a) a = cnt x) := by
  induction l with
  | nil => intro a; simp
  | cons y l ih =>
    intro a
    rw [List.foldl_cons]
    obtain ⟨⟨h1, h2⟩, h3⟩ := ih (if cnt y < a then cnt y else a)
    generalize l.foldl (fun a x => if cnt x < a then cnt x else a) (if cnt y < a then cnt y else a) = r at h1 h2 h3
    refine ⟨⟨by split at h1 <;> omega, fun x hx => ?_⟩, ?_⟩
    · rcases List.mem_cons.1 hx with rfl | hx
      · split at h1 <;> omega
      · exact h2 x hx
    · rcases h3 with h3 | ⟨x, hx, h3⟩
      · split at h3
        · exact .inr ⟨y, by simp, h3⟩
        · exact .inl h3
      · exact .inr ⟨x, by simp [hx], h3⟩
theorem most_spec (l : List Nat) : ∀ a : Nat, (a ≤ l.foldl (fun a x => if a < cnt x then cnt x else a) a ∧ ∀ x ∈ l, cnt x ≤ l.foldl (fun a x => if a < cnt x then cnt x else a) a) ∧ (l.foldl (fun a x => if a < cnt x then cnt x else a) a = a ∨ ∃ x ∈ l, l.foldl (fun a x => if a < cnt x then cnt x else a) a = cnt x) := by
  induction l with
  | nil => intro a; simp
  | cons y l ih =>
    intro a
    rw [List.foldl_cons]
    obtain ⟨⟨h1, h2⟩, h3⟩ := ih (if a < cnt y then cnt y else a)
    generalize l.foldl (fun a x => if a < cnt x then cnt x else a) (if a < cnt y then cnt y else a) = r at h1 h2 h3
    refine ⟨⟨by split at h1 <;> omega, fun x hx => ?_⟩, ?_⟩
    · rcases List.mem_cons.1 hx with rfl | hx
      · split at h1 <;> omega
      · exact h2 x hx
    · rcases h3 with h3 | ⟨x, hx, h3⟩
      · split at h3
        · exact .inr ⟨y, by simp, h3⟩
        · exact .inl h3
      · exact .inr ⟨x, by simp [hx], h3⟩
/-- What holds of the plays' numbers at a cell that is on the way. -/
theorem play_facts {c : Int} {L : List Int} {n : Nat} (hp : playB c L n = true) : ∃ C : Nat, c = (C : Int) ∧ C < 128 ∧ lastL c L n = ints (lastP L C 128) ∧ 0 < (lastP L C 128).length ∧ (lastP L C 128).length ≤ 128 ∧
    0 ≤ valOfI shortF c L n ∧ valOfI shortF c L n ≤ valOfI longF c L n ∧ valOfI longF c L n ≤ 7 ∧ ((lastP L C 128).length : Int) ≤ valOfI playsF c L n ∧
    valOfI shortF c L n = (fewU (lastP L C 128) (lastP L C 128).length : Int) - (cnt C : Int) ∧ valOfI longF c L n = (mostU (lastP L C 128) (lastP L C 128).length : Int) - (cnt C : Int) ∧
    (valOfI shortF c L n = valOfI longF c L n → valOfB missF c L n = decide (valOfI shortF c L n % 2 = 0)) ∧
    (∀ x ∈ lastP L C 128, x < 128 ∧ (bits .and .i64 (x : Int) (C : Int) = (C : Int)) ∧ ∃ d : Nat, d < 10 ∧ L.contains (d : Int) = true ∧ x = digC d) := by
  have hon := playB_on hp
  have hw : wayB c L = true := by unfold playB at hp; rw [Bool.and_eq_true] at hp; exact hp.2
  obtain ⟨hD, hc⟩ := hon
  rw [inB_iff] at hc
  obtain ⟨C, rfl⟩ := Int.eq_ofNat_of_zero_le hc.1
  have hC : C < 128 := by omega
  have e1 : lastL (C : Int) L n = ints (lastP L C 128) := by unfold lastL; rw [if_pos hp, Int.toNat_natCast]
  have eS : valOfI shortF (C : Int) L n = valC L shortF C := by unfold valOfI; rw [if_pos hp, Int.toNat_natCast]
  have eG : valOfI longF (C : Int) L n = valC L longF C := by unfold valOfI; rw [if_pos hp, Int.toNat_natCast]
  have eP : valOfI playsF (C : Int) L n = valC L playsF C := by unfold valOfI; rw [if_pos hp, Int.toNat_natCast]
  have eM : valOfB missF (C : Int) L n = valC L missF C := by unfold valOfB; rw [if_pos hp, Int.toNat_natCast]
  obtain ⟨⟨x1, h1, h2⟩, h3, ⟨x2, h4, h5⟩, h6, h7⟩ := play_range L 128 C hC (by omega) hw
  have hpl := (plays_ge L 128 C hC (by omega) hw).1
  rw [valC_last L 128 C hC (by omega) hw, ints_length] at hpl
  rw [eS, eG, eP, eM]
  have hx1 := lastP_mem.1 h1
  have hsub := cnt_sub ⟨C, hC⟩ ⟨x1, hx1.1⟩ (by have := (lastB_iff.1 hx1.2).1; simpa [subB] using this)
  simp only at hsub
  have c1 := cnt_le7 x1
  have c2 := cnt_le7 x2
  have hF := few_spec (lastP L C 128) 8
  have hM := most_spec (lastP L C 128) 0
  have g1 := h6 x1 h1
  refine ⟨C, rfl, hC, e1, List.length_pos_of_mem h1, lastP_le L C 128, by omega, by omega, by omega, hpl, ?_, ?_, h7, fun x hx => ?_⟩
  · unfold fewU
    rw [List.take_length]
    have a1 := hF.1.2 x1 h1
    rcases hF.2 with a2 | ⟨y, hy, a2⟩
    · omega
    · have := h3 y hy; omega
  · unfold mostU
    rw [List.take_length]
    have a1 := hM.1.2 x2 h4
    rcases hM.2 with a2 | ⟨y, hy, a2⟩
    · omega
    · have := h6 y hy; omega
  · obtain ⟨hx8, hxl⟩ := lastP_mem.1 hx
    obtain ⟨d, hd, hdL, hdx⟩ := last_digit hD hx
    refine ⟨hx8, ?_, d, hd, by simpa using hdL, hdx⟩
    have := sub_and C x hC hx8
    rw [(lastB_iff.1 hxl).1] at this
    simpa using this
theorem play_none {c : Int} {L : List Int} {n : Nat} (hp : playB c L n = false) : lastL c L n = [] ∧ valOfI shortF c L n = 0 ∧ valOfI longF c L n = 0 ∧ valOfI playsF c L n = 0 ∧ raceOk c L n = false := by
  refine ⟨?_, ?_, ?_, ?_, ?_⟩
  · unfold lastL; rw [hp]; rfl
  · unfold valOfI; rw [hp]; rfl
  · unfold valOfI; rw [hp]; rfl
  · unfold valOfI; rw [hp]; rfl
  · unfold raceOk; rw [hp]; rfl
/-- Who wins makes the last move of the game. -/
theorem game_wins {R L : List Int} {m : Nat} (h : goodRow R L m = true) : winB R L m = (((gameN R L m % 2 : Nat) : Int) == 1) := by
  have h6 := rowB_len (goodRow_row h)
  have hm := mus_le R
  have hp := game_parity L 762 R (goodRow_ok h) (by omega)
  have e : gameN R L m = (playG L 762 R).length / 2 := by unfold gameN gameF; rw [if_pos h]
  unfold winB
  rw [h, Bool.true_and, e, Bool.eq_iff_iff]
  simp only [bne_iff_ne, beq_iff_eq, ne_eq]
  constructor
  · intro h1
    have := hp.2 (by omega)
    omega
  · intro h1
    have := hp.1 (by omega)
    omega
end Go.Proofs.YtcddfpbohejhhaaGreat
