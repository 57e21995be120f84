/- The contract of the reference's BrightestBars. -/
import Derived.Test.YtjcbffkdemadnaaBright
import Derived.Test.YtjcbffkdemadnaaDutyS
import Derived.Test.YtjcbffkdemadnaaMost
import Derived.Lib.Hide
namespace Go.Proofs.Ytjcbffkdemadnaa
open Go.RowKit

set_option maxHeartbeats 1600000 in
set_option maxRecDepth 100000 in
theorem BrightestBarsS_any (k : Int) (ao : Option Addr) (n cap : Nat) (l : List (Int × Int)) (w : World) (hr : RdS w ao l) (hn : l.length = n) (hm : n ≤ 1048576) :
    Calls Try.prog 24 #[.int .i64 k, .slice ao n cap] w fun e w' => e = .returned (.tuple #[.int .i64 ((brN k l).1 : Nat), .int .i64 ((brN k l).2 : Nat), .bool (brB k l)]) ∧ Below w.heap.size w w' := by
  unfold brB brN
  have HG := Lib.hid (fun W h => l8Good_any k ao n cap l W h hn (by unfold maxLen; omega))
  cases hb : goodS k l with
  | false =>
    rw [hb] at HG
    go_enter Try.func24, Try.ntmps24
    go_wp2_with (go_at_call 26; refine (HG.out _ hr).mono ?_; rintro e w1 ⟨rfl, hb1⟩)
    go_ret3
    exact ⟨rfl, hb1⟩
  | true =>
    have hs := goodS_small hb
    obtain ⟨q, rfl, hq, hqn, h12⟩ := good_nat hb
    rw [hb] at HG
    simp only [if_true, hqn]
    have HV := Lib.hid (fun W h => l8Duty_any q hq ao n cap l W h hn (by omega) hs)
    have HLD := Lib.hid (fun t => dutL_getD q l t)
    have hD12 : ∀ z ∈ dutN q l, z ≤ 12 := fun z hz => Nat.le_trans (dutN_le q l z hz) h12
    have hDl := dutN_length q l
    generalize dutL q l = DL at HV HLD
    generalize dutN q l = D at *
    have HD := Lib.hid (And.intro hD12 hDl)
    clear hs hb hqn hD12 hDl h12
    have hA1 := @cellAlloc; have hA2 := @frozenAlloc; have hA3 := @setCellAlloc; go_enter Try.func24, Try.ntmps24
    go_wp2_with (first | (go_at_call 26; refine (HG.out _ hr).mono ?_; rintro e w1 ⟨rfl, hb1⟩) | (go_at_call 48; refine (HV.out _ (RdS_below hr hb1)).mono ?_; rintro e w2 ⟨g, rfl, ho2, hb2⟩))
    have HO := Lib.hid ho2
    have hgl := (ownsD_at ho2 0 (by omega)).2.2.2
    have hbz := belowThen hb1 hb2
    clear ho2 hb1 hb2
    go_loopw [7, 8, 10] (fun m f i wr => ∃ x : Nat, x ≤ q ∧ i = .int .i64 x ∧ m = .int .i64 ((brS D (x * 7)).1 : Nat) ∧ f = .int .i64 ((brS D (x * 7)).2 : Nat) ∧ w2 = wr) (fun _ _ i _ => q - (intOf i).toNat)
    case atStart => exact ⟨0, by omega, rfl, by rw [Nat.zero_mul, brS_zero]; rfl, by rw [Nat.zero_mul, brS_zero]; rfl, rfl⟩
    case round =>
      obtain ⟨x, hx, rfl, rfl, rfl, rfl⟩ := hrel
      by_cases hlx : x < q
      · have hdx : decide ((x : Int) < (q : Int)) = true := by simp; omega
        go_wp2_with fail
        go_loopw [7, 8, 11] (fun m f i wq => ∃ y : Nat, y ≤ 7 ∧ i = .int .i64 y ∧ m = .int .i64 ((brS D (x * 7 + y)).1 : Nat) ∧ f = .int .i64 ((brS D (x * 7 + y)).2 : Nat) ∧ w2 = wq) (fun _ _ i _ => 7 - (intOf i).toNat)
        case atStart => exact ⟨0, by omega, rfl, rfl, rfl, rfl⟩
        case round =>
          obtain ⟨y, hy, rfl, rfl, rfl, rfl⟩ := hrel
          by_cases hly : y < 7
          · have hd7 : decide ((y : Int) < 7) = true := by simp; omega
            have hcell := (ownsD_at HO.out (x * 7 + y) (by omega)).1
            rw [HLD.out] at hcell
            have hsucc := brS_succ D (x * 7 + y) (by rw [HD.out.2]; omega)
            have hz12 : D.getD (x * 7 + y) 0 ≤ 12 := HD.out.1 _ (by rw [List.getD_eq_getElem?_getD, List.getElem?_eq_getElem (by rw [HD.out.2]; omega)]; exact List.getElem_mem _)
            generalize D.getD (x * 7 + y) 0 = z at hcell hsucc hz12
            by_cases h0 : 0 < z
            · have hd0 : decide ((0 : Int) < (z : Int)) = true := by simp; omega
              rw [stepS, if_pos h0] at hsucc
              have HM := Lib.hid (show (brS D (x * 7 + (y + 1))).1 = max (brS D (x * 7 + y)).1 z by rw [show x * 7 + (y + 1) = x * 7 + y + 1 by omega, hsucc])
              have HF := Lib.hid (show (brS D (x * 7 + (y + 1))).2 = if (brS D (x * 7 + y)).2 = 0 ∨ z < (brS D (x * 7 + y)).2 then z else (brS D (x * 7 + y)).2 by rw [show x * 7 + (y + 1) = x * 7 + y + 1 by omega, hsucc])
              generalize (brS D (x * 7 + y)).1 = m at *
              generalize (brS D (x * 7 + y)).2 = f at *
              clear hsucc
              have HMX := Lib.hid (show max (m : Int) (z : Int) = ((max m z : Nat) : Int) by omega)
              by_cases hf0 : f = 0
              · subst hf0
                rw [if_pos (Or.inl rfl)] at HF
                have hd1 : (((0 : Nat) : Int) == 0) = true := by decide
                go_wp2_with (go_at_call 49; refine (l1Most_any _ _ _).mono ?_; rw [HMX.out]; rintro e w' ⟨rfl, rfl⟩)
                go_roundw
                case rel => exact ⟨y + 1, by omega, by go_num, by rw [HM.out], by rw [HF.out], by first | rfl | trivial⟩
                case measure => simp [intOf]; omega
              · have hd1 : ((f : Int) == 0) = false := by rw [beq_eq_false_iff_ne]; omega
                by_cases hzf : z < f
                · rw [if_pos (Or.inr hzf)] at HF
                  have hd2 : decide ((z : Int) < (f : Int)) = true := by simp; omega
                  go_wp2_with (go_at_call 49; refine (l1Most_any _ _ _).mono ?_; rw [HMX.out]; rintro e w' ⟨rfl, rfl⟩)
                  go_roundw
                  case rel => exact ⟨y + 1, by omega, by go_num, by rw [HM.out], by rw [HF.out], by first | rfl | trivial⟩
                  case measure => simp [intOf]; omega
                · rw [if_neg (by omega)] at HF
                  have hd2 : decide ((z : Int) < (f : Int)) = false := by simp; omega
                  go_wp2_with (go_at_call 49; refine (l1Most_any _ _ _).mono ?_; rw [HMX.out]; rintro e w' ⟨rfl, rfl⟩)
                  go_roundw
                  case rel => exact ⟨y + 1, by omega, by go_num, by rw [HM.out], by rw [HF.out], by first | rfl | trivial⟩
                  case measure => simp [intOf]; omega
            · have hsame : brS D (x * 7 + (y + 1)) = brS D (x * 7 + y) := by rw [show x * 7 + (y + 1) = x * 7 + y + 1 by omega, hsucc, stepS, if_neg h0]
              have HSM := Lib.hid hsame
              have hd0 : decide ((0 : Int) < (z : Int)) = false := by simp; omega
              clear hsucc hsame
              go_wp2
              go_roundw
              case rel => exact ⟨y + 1, by omega, by go_num, by rw [HSM.out], by rw [HSM.out], by first | rfl | trivial⟩
              case measure => simp [intOf]; omega
          · have hy7 : y = 7 := by omega
            subst hy7
            rw [show x * 7 + 7 = (x + 1) * 7 by omega]
            have hd7 : decide (((7 : Nat) : Int) < 7) = false := by decide
            go_wp2
            go_roundw
            case rel => exact ⟨x + 1, by omega, by go_num, rfl, rfl, by first | rfl | trivial⟩
            case measure => simp [intOf]; omega
      · have hxq : x = q := by omega
        subst hxq
        have hdx : decide ((x : Int) < (x : Int)) = false := by simp
        obtain ⟨m, hmm⟩ : ∃ m, (brS D (x * 7)).1 = m := ⟨_, rfl⟩
        obtain ⟨f, hff⟩ : ∃ f, (brS D (x * 7)).2 = f := ⟨_, rfl⟩
        rw [hmm, hff]
        have HX := Lib.hid (And.intro hmm hff)
        have hd1 : decide ((0 : Int) < (m : Int)) = decide (0 < m) := by simp
        clear hmm hff
        go_wp2
        go_ret3
        rw [HX.out.1, HX.out.2]
        exact ⟨by simp, hbz⟩
end Go.Proofs.Ytjcbffkdemadnaa
