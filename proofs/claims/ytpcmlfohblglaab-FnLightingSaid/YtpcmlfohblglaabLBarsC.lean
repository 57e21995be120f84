/- Contracts of LightableBars of the program and of the reference. -/
import Derived.Test.YtpcmlfohblglaabLight
import Derived.Test.YtpcmlfohblglaabToS
import Derived.Test.YtpcmlfohblglaabEqS
namespace Go.Proofs.Ytpcmlfohblglaab
open Go.RowKit

/-- The letters of the bars that can be lit. -/
def lightS (c : Int) (L : List Int) (n : Nat) : ByteArray := if playB c L n = true then lettersP (nextB L c.toNat) 7 else ⟨#[]⟩
set_option maxHeartbeats 400000 in
theorem LightableBarsS_any (c : Int) (ao : Option Addr) (n cap : Nat) (L : List Int) (w : World) (hr : RdI w ao L) (hn : L.length = n) (hm : n ≤ maxLen) (hcap : n ≤ cap) :
    Calls Try.prog 15 #[.int .i64 c, .slice ao n cap] w fun e w' => e = .returned (.tuple #[.string (lightS c L n), .bool (playB c L n)]) ∧ Below w.heap.size w w' := by
  unfold lightS
  generalize hp : playB c L n = p
  have HP := Lib.hid hp
  have hon := fun h => playB_on (L := L) (n := n) (c := c) (hp.trans h)
  clear hp
  rcases p with _ | _
  · go_enter Try.func15, Try.ntmps15
    go_wp2_with (first | (go_at_call 37; refine (l11Good_any _ _ _ _ L _ hr hn hm hcap).mono ?_; rw [HP.out]; rintro e w1 ⟨rfl, hb1⟩))
    go_ret2
    exact ⟨rfl, hb1⟩
  · obtain ⟨hD, hc⟩ := hon rfl
    rw [inB_iff] at hc
    obtain ⟨C, rfl⟩ := Int.eq_ofNat_of_zero_le hc.1
    have hC : C < 128 := by omega
    rw [if_pos rfl, Int.toNat_natCast]
    have HD := Lib.hid hD
    have HN := Lib.hid hn
    clear hD hc hon hn
    go_enter Try.func15, Try.ntmps15
    go_wp2_with (first | (go_at_call 37; refine (l11Good_any _ _ _ _ L _ hr HN.out hm hcap).mono ?_; rw [HP.out]; rintro e w1 ⟨rfl, hb1⟩))
    go_loopw [6, 7] (fun s i wr => ∃ k : Nat, k ≤ 7 ∧ i = .int .i64 k ∧ s = .string (lettersP (nextB L C) k) ∧ Below w.heap.size w wr) (fun _ i _ => 7 - (intOf i).toNat)
    case atStart => exact ⟨0, by omega, rfl, rfl, hb1⟩
    case round =>
      obtain ⟨k, hle, rfl, rfl, hbw⟩ := hrel
      by_cases hlt : k < 7
      · have hsz := lettersP_size (nextB L C) k
        have hsucc : lettersP (nextB L C) (k + 1) = if nextB L C k = true then lettersP (nextB L C) k ++ (⟨#[97, 98, 99, 100, 101, 102, 103]⟩ : ByteArray).extract k (k + 1) else lettersP (nextB L C) k := rfl
        generalize lettersP (nextB L C) k = S at hsz hsucc ⊢
        generalize hq : nextB L C k = q at hsucc
        have HQ := Lib.hid hq
        clear hq
        have HS := Lib.hid hsucc
        clear hsucc
        rcases q with _ | _
        all_goals
          go_wp2_with (first | (go_at_call 41; refine (l11Next_any C k hC hlt _ _ _ L _ (RdI_below hr hbw) HN.out hm HD.out).mono ?_; rw [HQ.out]; rintro e w2 ⟨rfl, hb2⟩))
          go_roundw
          case rel => exact ⟨k + 1, by omega, by go_num, by rw [HS.out]; rfl, belowThen hbw hb2⟩
          case measure => simp [intOf]; omega
      · have hk : k = 7 := by omega
        subst hk
        go_wp2
        go_ret2
        exact ⟨rfl, hbw⟩
theorem LightableBarsI_any (c : Int) (ao : Option Addr) (n cap : Nat) (L : List Int) (w : World) (hr : RdI w ao L) (hn : L.length = n) (hm : n ≤ maxLen) (hcap : n ≤ cap) :
    Calls Try.prog 14 #[.int .i64 c, .slice ao n cap] w fun e w' => e = .returned (.tuple #[.string (lightS c L n), .bool (playB c L n)]) ∧ Below w.heap.size w w' := by
  unfold lightS
  generalize hp : playB c L n = p
  have HP := Lib.hid hp
  have hon := fun h => playB_on (L := L) (n := n) (c := c) (hp.trans h)
  clear hp
  rcases p with _ | _
  · go_enter Try.func14, Try.ntmps14
    go_wp2_with (first | (go_at_call 38; refine (isPlayable_any _ _ _ _ L _ hr hn hm hcap).mono ?_; rw [HP.out]; rintro e w1 ⟨rfl, hb1⟩))
    go_ret2
    exact ⟨rfl, hb1⟩
  · obtain ⟨hD, hc⟩ := hon rfl
    rw [inB_iff] at hc
    obtain ⟨C, rfl⟩ := Int.eq_ofNat_of_zero_le hc.1
    have hC : C < 128 := by omega
    rw [if_pos rfl, Int.toNat_natCast]
    have hS : lettersP (fun k => lightM L C / 2 ^ k % 2 == 1) 7 = lettersP (nextB L C) 7 := lettersP_congr _ _ 7 fun i hi => maskP_bit (nextB L C) i hi
    rw [← hS]
    have HD := Lib.hid hD
    have HN := Lib.hid hn
    clear hD hc hon hn hS
    go_enter Try.func14, Try.ntmps14
    go_wp2_with (first | (go_at_call 38; refine (isPlayable_any _ _ _ _ L _ hr HN.out hm hcap).mono ?_; rw [HP.out]; rintro e w1 ⟨rfl, hb1⟩) | (go_at_call 40; refine (lightable_any C hC _ _ _ L _ (RdI_below hr hb1) HN.out hm HD.out).mono ?_; rintro e w2 ⟨rfl, hb2⟩) | (go_at_call 39; refine (barsOf_any _ (lightM_lt L C) _).mono ?_; rintro e w' ⟨rfl, rfl⟩))
    go_ret2
    exact ⟨rfl, belowThen hb1 hb2⟩
end Go.Proofs.Ytpcmlfohblglaab
