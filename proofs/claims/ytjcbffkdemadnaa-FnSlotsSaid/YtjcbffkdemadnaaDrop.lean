/- Contracts of VainSlots of the reference, and of DropVain of both. -/
import Derived.Test.YtjcbffkdemadnaaVain
import Derived.Lib.Hide
namespace Go.Proofs.Ytjcbffkdemadnaa
open Go.RowKit

def lenW : Value → Nat
  | .slice _ n _ => n
  | _ => 0
def dvL (k : Int) (l : List (Int × Int)) : List (Int × Int) := if goodS k l = true then dropV k.toNat l else []
/-- Slots that are read and a Boolean are returned. -/
def RetSB (L : List (Int × Int)) (b : Bool) (w : World) (e : Ending) (w' : World) : Prop := ∃ ao cap, e = .returned (.tuple #[.slice ao L.length cap, .bool b]) ∧ RdS w' ao L ∧ Below w.heap.size w w'
set_option maxHeartbeats 1600000 in
theorem VainSlotsS_any (k : Int) (b o n cap : Nat) (l : List (Int × Int)) (w : World) (hr : RdS w (some ⟨b, o, none⟩) l) (hn : l.length = n) (hm : n ≤ 1048576) (hc : 0 < n → n ≤ cap ∧ cap ≤ 9223372036854775807) :
    Calls Try.prog 18 #[.int .i64 k, .slice (some ⟨b, o, none⟩) n cap] w (RetIB (vsL k l) (goodS k l) w) := by
  unfold vsL RetIB
  have HG := Lib.hid (fun W h => l8Good_any k (some ⟨b, o, none⟩) n cap l W h hn (by unfold maxLen; omega))
  cases hb : goodS k l with
  | false =>
    rw [hb] at HG
    have hA1 := @cellAlloc; have hA2 := @frozenAlloc; have hA3 := @setCellAlloc; go_enter Try.func18, Try.ntmps18
    go_wp2_with (go_at_call 26; refine (HG.out _ (RdS_below hr (Go.Joins.below_alloc1 _ _))).mono ?_; rintro e w1 ⟨rfl, hb1⟩)
    go_ret2
    exact ⟨_, _, rfl, ownsInts_zero _ _ _, belowThen (Go.Joins.below_alloc1 _ _) hb1⟩
  | true =>
    have hs := goodS_small hb
    obtain ⟨q, rfl, hq, hqn, h12⟩ := good_nat hb
    rw [hb] at HG
    simp only [if_true, hqn, hn]
    have HV := Lib.hid (fun i W hi hp h => l8Vain_any q hq b o n cap i l W h hn hi (hc hp).1 (hc hp).2 (by omega) hs)
    have HVS := Lib.hid (fun j => vainZ_succ q l j)
    have HLV := Lib.hid (fun j => vainZ_le q l j)
    have hn12 : n ≤ 12 := by omega
    clear hs hb hqn hn hc h12
    have hA1 := @cellAlloc; have hA2 := @frozenAlloc; have hA3 := @setCellAlloc; go_enter Try.func18, Try.ntmps18
    go_wp2_with (go_at_call 26; refine (HG.out _ (RdS_below hr (Go.Joins.below_alloc1 _ _))).mono ?_; rintro e w1 ⟨rfl, hb1⟩)
    have hb0 := belowThen (Go.Joins.below_alloc1 w (.cells #[] 3)) hb1
    go_loopw [6, 7] (fun v i wr => ∃ j : Nat, j ≤ n ∧ i = .int .i64 j ∧ ownsInts wr w.heap.size v (vainZ q l j) ∧ Below w.heap.size w wr) (fun _ i _ => n - (intOf i).toNat)
    case atStart => exact ⟨0, by omega, rfl, by rw [show vainZ q l 0 = [] from rfl]; exact ownsInts_zero _ _ _, hb0⟩
    case round =>
      obtain ⟨j, hj, rfl, hown, hbw⟩ := hrel
      by_cases hlt : j < n
      · have hdj : decide ((j : Int) < (n : Int)) = true := by simp; omega
        have hrw := RdS_below hr hbw
        have hsucc := HVS.out j
        have hll := HLV.out j
        have HJ := Lib.hid (fun W h => HV.out j W hlt (by omega) h)
        have hws := hbw.size
        generalize vainI q l j = bv at hsucc HJ
        generalize vainZ q l j = V at hown hsucc hll
        have HSU := Lib.hid hsucc
        clear hsucc
        rcases bv with _ | _
        · go_wp2_with (go_at_call 44; refine (HJ.out _ hrw).mono ?_; rintro e w2 ⟨rfl, hb2⟩)
          go_roundw
          case rel => exact ⟨j + 1, by omega, by go_num, by rw [HSU.out]; exact ownsInts_below hown hb2 (Nat.le_refl _), belowThen hbw hb2⟩
          case measure => simp [intOf]; omega
        · go_wp2_with (first
            | (go_at_call 44; refine (HJ.out _ hrw).mono ?_; rintro e w2 ⟨rfl, hb2⟩)
            | (at_builtin; go_must (refine wpAppendInt w2 (by rfl) _ _ (by rfl) w.heap.size _ _ (by rfl) (ownsInts_below hown hb2 (Nat.le_refl _)) (j : Int) (by rfl) (by omega) (Nat.le_trans hws hb2.size) ?_; intro co cc w5 hv5 hb5)))
          go_roundw
          case rel => exact ⟨j + 1, by omega, by go_num, by rw [HSU.out]; first | exact hv5 | (simp only [if_true]; exact hv5), (belowThen hbw hb2).trans hb5⟩
          case measure => simp [intOf]; omega
      · have hjn : j = n := by omega
        subst hjn
        obtain ⟨co, cc, rfl, _⟩ := ownsInts_shape hown
        go_wp2
        go_ret2
        exact ⟨co, cc, rfl, hown, hbw⟩
set_option maxHeartbeats 1600000 in
theorem DropVainI_any (k : Int) (ao : Option Addr) (n cap : Nat) (l : List (Int × Int)) (w : World) (hr : RdS w ao l) (hn : l.length = n) (hm : n ≤ 1048576) :
    Calls Try.prog 14 #[.int .i64 k, .slice ao n cap] w (RetSB (dvL k l) (goodS k l) w) := by
  unfold dvL RetSB
  have HG := Lib.hid (fun W h => isDriven_any k ao n cap l W h hn (by unfold maxLen; omega))
  cases hb : goodS k l with
  | false =>
    rw [hb] at HG
    go_enter Try.func14, Try.ntmps14
    go_wp2_with (go_at_call 31; refine (HG.out _ hr).mono ?_; rintro e w1 ⟨rfl, hb1⟩)
    go_ret2
    exact ⟨none, ⟨0, rfl⟩, .inl rfl, hb1⟩
  | true =>
    have hs := goodS_small hb
    obtain ⟨q, rfl, hq, hqn, h12⟩ := good_nat hb
    rw [hb] at HG
    simp only [if_true, hqn]
    have HV := Lib.hid (fun (c : List (Int × Int)) (hc : ∀ x ∈ c, x ∈ l) (h : c.length ≤ 12) ao cap W hrd => vain_any q hq ao c.length cap c W hrd rfl (by omega) (fun x hx => hs x (hc x hx)))
    have HWO := Lib.hid (fun (c : List (Int × Int)) (h : c.length ≤ 12) ao cap i W hrd hi => without_any ao c.length cap i c W hrd rfl hi (by omega))
    have HCL := Lib.hid (fun W h => CloneS_any ao n cap l W h hn (by omega))
    have hl12 : l.length ≤ 12 := h12
    have HN := Lib.hid hn
    clear hs hb hqn hn
    go_enter Try.func14, Try.ntmps14
    go_wp2_with (first
      | (go_at_call 31; refine (HG.out _ hr).mono ?_; rintro e w1 ⟨rfl, hb1⟩)
      | (go_at_call 32; refine (HCL.out _ (RdS_below hr hb1)).mono ?_; rintro e w2 ⟨v, rfl, ho2, hb2, hv2⟩; obtain ⟨ao2, cap2, rfl, hsh⟩ := ownsS_shape ho2; clear hsh)
      | (go_at_call 42; refine (HV.out l (fun x h => h) hl12 _ _ _ (RdS_owns ho2)).mono ?_; rintro e w3 ⟨bo3, c3, rfl, ho3, hb3⟩))
    have hr3 := RdS_below (RdS_owns ho2) hb3
    have hi3 := RdI_owns ho3
    have hbz := belowThen (belowThen hb1 hb2) hb3
    clear ho2 ho3 hb1 hb2 hb3 hv2
    go_loopw [6, 7] (fun v z wr => ∃ (c : List (Int × Int)) (co : Option Addr) (cc : Nat) (zo : Option Addr) (zc : Nat), v = .slice co c.length cc ∧ z = .slice zo (vainZ q c c.length).length zc ∧ RdS wr co c ∧ RdI wr zo (vainZ q c c.length) ∧ c.length ≤ 12 ∧ Hid (dropV q c = dropV q l ∧ ∀ x ∈ c, x ∈ l) ∧ Below w.heap.size w wr) (fun v _ _ => lenW v)
    case atStart => exact ⟨l, ao2, cap2, bo3, c3, rfl, rfl, hr3, hi3, hl12, Lib.hid ⟨rfl, fun x h => h⟩, hbz⟩
    case round =>
      obtain ⟨c, co, cc, zo, zc, rfl, rfl, hrc, hiz, hc12, HD, hbw⟩ := hrel
      cases hv : vainL q c with
      | nil =>
        have hz : vainZ q c c.length = [] := by show (vainL q c).map _ = []; rw [hv]; rfl
        have hdone := dropV_done q c hv
        rw [hz]
        have hd0 : decide ((0 : Int) < (([] : List Int).length : Int)) = false := by decide
        have HDN := Lib.hid (hdone.symm.trans HD.out.1)
        clear hz hdone hv hiz
        go_wp2
        go_ret2
        rw [← HDN.out]
        exact ⟨co, cc, rfl, hrc, hbw⟩
      | cons i r =>
        obtain ⟨hi, _⟩ := vainL_lt q c i r hv
        have hstep := dropV_step q c i r hv
        have hz : vainZ q c c.length = (i : Int) :: r.map (fun i : Nat => (i : Int)) := by show (vainL q c).map _ = _; rw [hv]; rfl
        rw [hz] at hiz ⊢
        rcases hiz with h | ⟨zb, zof, rfl, hzl, hzc⟩
        · cases h
        have hz0 := hzc 0 (by simp)
        rw [Nat.add_zero] at hz0
        simp only [List.getD_cons_zero] at hz0
        have hd0 : decide ((0 : Int) < ((((i : Int) :: r.map (fun i : Nat => (i : Int))).length : Nat) : Int)) = true := by first | (simp; done) | (simp; omega)
        have hlp : 0 < ((i : Int) :: r.map (fun i : Nat => (i : Int))).length := by simp
        generalize ((i : Int) :: r.map (fun i : Nat => (i : Int))).length = zl at *
        have hel : (c.eraseIdx i).length = c.length - 1 := by rw [List.length_eraseIdx, if_pos hi]
        have HD2 : Hid (dropV q (c.eraseIdx i) = dropV q l ∧ ∀ x ∈ c.eraseIdx i, x ∈ l) := Lib.hid ⟨hstep.symm.trans HD.out.1, fun x hx => HD.out.2 x (List.mem_of_mem_eraseIdx hx)⟩
        have HEL := Lib.hid hel
        have HV2 := Lib.hid (fun ao cap W hrd => HV.out (c.eraseIdx i) HD2.out.2 (by rw [hel]; omega) ao cap W hrd)
        rw [hel] at HV2
        clear hzc hstep hz hv hel
        go_wp2_with (first
          | (go_at_call 43; refine (HWO.out c hc12 _ _ i _ hrc hi).mono ?_; rintro e w4 ⟨g4, c4, rfl, ho4, hb4⟩)
          | (go_at_call 42; refine (HV2.out _ _ _ (RdS_owns ho4)).mono ?_; rintro e w5 ⟨bo5, c5, rfl, ho5, hb5⟩))
        go_roundw
        case rel =>
          refine ⟨c.eraseIdx i, some ⟨g4, 0, none⟩, c4, bo5, c5, by rw [HEL.out], by rw [HEL.out], RdS_below (RdS_owns ho4) hb5, by rw [HEL.out]; exact RdI_owns ho5, by rw [HEL.out]; omega, HD2, belowThen (belowThen hbw hb4) hb5⟩
        case measure => simp [lenW]; omega
end Go.Proofs.Ytjcbffkdemadnaa
