/- Contracts of the functions that tell which Slots are vain, and of the smaller ones beside. -/
import Derived.Test.YtjcbffkdemadnaaSeen
import Derived.Test.YtjcbffkdemadnaaEqI
import Derived.Test.YtjcbffkdemadnaaDelS
import Derived.Test.YtjcbffkdemadnaaLeastB
import Derived.Test.YtjcbffkdemadnaaLsB
import Derived.Test.YtjcbffkdemadnaaSeqR
import Derived.Lib.Hide
namespace Go.Proofs.Ytjcbffkdemadnaa
open Go.RowKit

def vainZ (k : Nat) (l : List (Int × Int)) (j : Nat) : List Int := (vainP k l j).map fun i : Nat => (i : Int)
theorem vainZ_succ (k : Nat) (l : List (Int × Int)) (j : Nat) : vainZ k l (j + 1) = if vainI k l j = true then vainZ k l j ++ [(j : Int)] else vainZ k l j := by
  unfold vainZ
  rw [vainP_succ]
  split <;> simp
theorem vainZ_le (k : Nat) (l : List (Int × Int)) (j : Nat) : (vainZ k l j).length ≤ j := by unfold vainZ; rw [List.length_map]; exact vainP_le k l j
theorem good_nat {k : Int} {l : List (Int × Int)} (h : goodS k l = true) : ∃ q : Nat, k = (q : Int) ∧ (1 ≤ q ∧ q ≤ 6) ∧ k.toNat = q ∧ l.length ≤ 12 := by
  unfold goodS frameB at h
  simp only [Bool.and_eq_true, decide_eq_true_eq, inB_iff] at h
  exact ⟨k.toNat, by omega, by omega, rfl, h.2.1⟩
/-- What VainSlots, SeenOf tell. -/
def vsL (k : Int) (l : List (Int × Int)) : List Int := if goodS k l = true then vainZ k.toNat l l.length else []
def soL (k : Int) (l : List (Int × Int)) : List Int := if goodS k l = true then seenL k.toNat l else []
def soN (k : Int) (l : List (Int × Int)) : Int := if goodS k l = true then (swF l : Int) else 0
theorem vsL_le (k : Int) (l : List (Int × Int)) : (vsL k l).length ≤ 12 := by
  unfold vsL
  split
  · rename_i h
    obtain ⟨q, _, _, _, h4⟩ := good_nat h
    exact Nat.le_trans (vainZ_le _ _ _) h4
  · simp
/-- Numbers of the call's own and a Boolean are returned. -/
def RetIB (L : List Int) (b : Bool) (w : World) (e : Ending) (w' : World) : Prop := ∃ ao cap, e = .returned (.tuple #[.slice ao L.length cap, .bool b]) ∧ ownsInts w' w.heap.size (.slice ao L.length cap) L ∧ Below w.heap.size w w'
theorem without_any (ao : Option Addr) (n cap i : Nat) (l : List (Int × Int)) (w : World) (hr : RdS w ao l) (hn : l.length = n) (hi : i < n) (hm : n ≤ 1000) :
    Calls Try.prog 43 #[.slice ao n cap, .int .i64 i] w fun e w' => ∃ g c, e = .returned (.slice (some ⟨g, 0, none⟩) (n - 1) c) ∧ ownsS w' w.heap.size (.slice (some ⟨g, 0, none⟩) (n - 1) c) (l.eraseIdx i) ∧ Below w.heap.size w w' := by
  have HN := Lib.hid hn
  clear hn
  have HD := Lib.hid (fun (B g c : Nat) (iz jz : Int) (hiz : iz = (i : Int)) (hjz : jz = ((i + 1 : Nat) : Int)) (W : World) (ho : ownsS W B (.slice (some ⟨g, 0, none⟩) n c) l) (hm : c ≤ 9223372036854775807) => show Calls Try.prog 61 #[.slice (some ⟨g, 0, none⟩) n c, .int .i64 iz, .int .i64 jz] W fun e w' => e = .returned (.slice (some ⟨g, 0, none⟩) (n - 1) c) ∧ ownsS w' B (.slice (some ⟨g, 0, none⟩) (n - 1) c) (l.eraseIdx i) ∧ OnlyB 1 g W w' ∧ Below B W w' by subst hiz hjz; exact DeleteS_any B g n c i (i + 1) l W ho HN.out hi rfl hm)
  go_enter Try.func43, Try.ntmps43
  go_wp2_with (first
    | (go_at_call 32; refine (CloneS_pos ao n cap l _ hr HN.out (by omega) (by omega)).mono ?_; rintro e w1 ⟨g1, c1, rfl, ho1, hb1, hg1, hgl1, hc1⟩)
    | (go_at_call 61; refine (HD.out w.heap.size g1 c1 _ _ (by first | rfl | omega) (by first | omega | (rw [IntKind.wrap_i64]; omega)) _ ho1 hc1).mono ?_; rintro e w2 ⟨rfl, ho2, _, hb2⟩))
  go_ret
  exact ⟨g1, c1, rfl, ho2, hb1.trans hb2⟩
set_option maxHeartbeats 1600000 in
theorem vain_any (k : Nat) (hk : 1 ≤ k ∧ k ≤ 6) (ao : Option Addr) (n cap : Nat) (l : List (Int × Int)) (w : World) (hr : RdS w ao l) (hn : l.length = n) (hm : n ≤ 100) (hs : smallS l) :
    Calls Try.prog 42 #[.int .i64 k, .slice ao n cap] w fun e w' => ∃ bo c, e = .returned (.slice bo (vainZ k l n).length c) ∧ ownsInts w' w.heap.size (.slice bo (vainZ k l n).length c) (vainZ k l n) ∧ Below w.heap.size w w' := by
  have HN := Lib.hid hn
  have HSE := Lib.hid (fun W h => seen_any k hk ao n cap l W h hn (by omega) hs)
  have hel : ∀ i, i < n → (l.eraseIdx i).length = n - 1 := fun i hi => by rw [List.length_eraseIdx, if_pos (by omega)]; omega
  have HWS := Lib.hid (fun g c i (hi : i < n) W h => seen_any k hk (some ⟨g, 0, none⟩) (n - 1) c (l.eraseIdx i) W h (hel i hi) (by omega) (fun x hx => hs x (List.mem_of_mem_eraseIdx hx)))
  have HWO := Lib.hid (fun i (hi : i < n) W h => without_any ao n cap i l W h hn hi (by omega))
  have hlen := seenL_length k l
  have HLE := Lib.hid (fun i => seenL_length k (l.eraseIdx i))
  have HVS := Lib.hid (fun j => vainZ_succ k l j)
  have hvI : ∀ j, vainI k l j = decide (seenL k (l.eraseIdx j) = seenL k l) := fun _ => rfl
  have HLV := Lib.hid (fun j => vainZ_le k l j)
  generalize seenL k l = SL at *
  have HVI := Lib.hid hvI
  have HLS := Lib.hid hlen
  clear hn hs hel hvI hlen
  go_enter Try.func42, Try.ntmps42
  go_wp2_with (go_at_call 50; refine (HSE.out _ hr).mono ?_; rintro e w1 ⟨g1, rfl, ho1, hb1⟩)
  have HO := Lib.hid (RdI_owns ho1)
  clear ho1
  go_loopw [6, 13] (fun v i wr => ∃ j : Nat, j ≤ n ∧ i = .int .i64 j ∧ ownsInts wr w1.heap.size v (vainZ k l j) ∧ Below w1.heap.size w1 wr) (fun _ i _ => n - (intOf i).toNat)
  case atStart => exact ⟨0, by omega, rfl, by rw [show vainZ k l 0 = [] from rfl]; exact ownsInts_nil _ _, Below.refl _ _⟩
  case round =>
    obtain ⟨j, hj, rfl, hown, hbw⟩ := hrel
    by_cases hlt : j < n
    · have hdj : decide ((j : Int) < (n : Int)) = true := by simp; omega
      have hrw := RdS_below hr (belowThen hb1 hbw)
      have hso := RdI_below HO.out hbw
      have hsucc := HVS.out j
      have hvi := HVI.out j
      have hll := HLV.out j
      have HEQ := Lib.hid (fun g W h1 h2 => Equal_any (some ⟨g, 0, none⟩) (some ⟨g1, 0, none⟩) k k k k (seenL k (l.eraseIdx j)) SL W h1 h2 (HLE.out j) HLS.out (by omega) (by omega))
      rw [← hvi] at HEQ
      have HWSJ := Lib.hid (fun g c W h => HWS.out g c j hlt W h)
      generalize vainI k l j = b at hsucc HEQ
      generalize vainZ k l j = V at hown hsucc hll
      clear hvi
      rcases b with _ | _
      · have HSU := Lib.hid hsucc
        clear hsucc
        go_wp2_with (first
          | (go_at_call 43; refine (HWO.out j hlt _ hrw).mono ?_; rintro e w2 ⟨g2, c2, rfl, ho2, hb2⟩)
          | (go_at_call 50; refine (HWSJ.out _ _ _ (RdS_owns ho2)).mono ?_; rintro e w3 ⟨g3, rfl, ho3, hb3⟩)
          | (go_at_call 66; refine (HEQ.out _ _ (RdI_owns ho3) (RdI_below hso (belowThen hb2 hb3))).mono ?_; rintro e w4 ⟨rfl, hb4⟩))
        go_roundw
        case rel => exact ⟨j + 1, by omega, by go_num, by rw [HSU.out]; exact ownsInts_below hown (belowThen (belowThen hb2 hb3) hb4) (Nat.le_refl _), belowThen (belowThen (belowThen hbw hb2) hb3) hb4⟩
        case measure => simp [intOf]; omega
      · have HSU := Lib.hid hsucc
        clear hsucc
        have hws := hbw.size
        go_wp2_with (first
          | (go_at_call 43; refine (HWO.out j hlt _ hrw).mono ?_; rintro e w2 ⟨g2, c2, rfl, ho2, hb2⟩)
          | (go_at_call 50; refine (HWSJ.out _ _ _ (RdS_owns ho2)).mono ?_; rintro e w3 ⟨g3, rfl, ho3, hb3⟩)
          | (go_at_call 66; refine (HEQ.out _ _ (RdI_owns ho3) (RdI_below hso (belowThen hb2 hb3))).mono ?_; rintro e w4 ⟨rfl, hb4⟩; have hbz := belowThen (belowThen hb2 hb3) hb4)
          | (at_builtin; go_must (refine wpAppendInt w4 (by rfl) _ _ (by rfl) w1.heap.size _ _ (by rfl) (ownsInts_below hown hbz (Nat.le_refl _)) (j : Int) (by rfl) (by omega) (Nat.le_trans hws hbz.size) ?_; intro co cc w5 hv5 hb5)))
        go_roundw
        case rel => exact ⟨j + 1, by omega, by go_num, by rw [HSU.out]; first | exact hv5 | (simp only [if_true]; exact hv5), (belowThen hbw hbz).trans hb5⟩
        case measure => simp [intOf]; omega
    · have hjn : j = n := by omega
      subst hjn
      obtain ⟨co, cc, rfl, _⟩ := ownsInts_shape hown
      go_wp2
      go_ret
      exact ⟨co, cc, rfl, ownsInts_below hown (Below.refl _ _) hb1.size, hb1.trans (hbw.mono hb1.size)⟩
theorem l8Vain_any (k : Nat) (hk : 1 ≤ k ∧ k ≤ 6) (b o n cap i : Nat) (l : List (Int × Int)) (w : World) (hr : RdS w (some ⟨b, o, none⟩) l) (hn : l.length = n) (hi : i < n) (hnc : n ≤ cap) (hcm : cap ≤ 9223372036854775807) (hm : n ≤ 100) (hs : smallS l) :
    Calls Try.prog 44 #[.int .i64 k, .slice (some ⟨b, o, none⟩) n cap, .int .i64 i] w fun e w' => e = .returned (.bool (vainI k l i)) ∧ Below w.heap.size w w' := by
  have HN := Lib.hid hn
  have hel : (l.eraseIdx i).length = n - 1 := by rw [List.length_eraseIdx, if_pos (by omega)]; omega
  have HSE := Lib.hid (fun W h => l8Seen_any k hk (some ⟨b, o, none⟩) n cap l W h hn (by omega) hs)
  have HWS := Lib.hid (fun g off c W h => l8Seen_any k hk (some ⟨g, off, none⟩) (n - 1) c (l.eraseIdx i) W h hel (by omega) (fun x hx => hs x (List.mem_of_mem_eraseIdx hx)))
  have HWO := Lib.hid (fun W h => l8Without_any b o n cap i l W h hn hi hnc (by omega) hcm)
  have hlen := seenL_length k l
  have hlen2 := seenL_length k (l.eraseIdx i)
  have hvI : vainI k l i = decide (seenL k (l.eraseIdx i) = seenL k l) := rfl
  generalize seenL k l = SL at *
  generalize seenL k (l.eraseIdx i) = SE at *
  have HEQ := Lib.hid (fun g1 g2 W h1 h2 => l1Same_any (some ⟨g1, 0, none⟩) (some ⟨g2, 0, none⟩) k k k k SE SL W h1 h2 hlen2 hlen (by omega) (by omega))
  rw [← hvI] at HEQ
  generalize vainI k l i = r at *
  have t1 : True := trivial
  clear hn hs hel hvI hlen hlen2
  have hA1 := @cellAlloc; have hA2 := @frozenAlloc; have hA3 := @setCellAlloc; go_enter Try.func44, Try.ntmps44
  go_wp2_with (first
    | (go_at_call 45; refine (HWO.out _ hr).mono ?_; rintro e w1 ⟨g1, o1, c1, rfl, ho1, hb1⟩)
    | (go_at_call 68; clear t1; refine (HWS.out _ _ _ _ (RdS_owns ho1)).mono ?_; rintro e w2 ⟨g2, rfl, ho2, hb2⟩; have hbz := belowThen hb1 hb2)
    | (go_at_call 68; refine (HSE.out _ (RdS_below hr hbz)).mono ?_; rintro e w3 ⟨g3, rfl, ho3, hb3⟩)
    | (go_at_call 67; refine (HEQ.out _ _ _ (RdI_below (RdI_owns ho2) hb3) (RdI_owns ho3)).mono ?_; rintro e w4 ⟨rfl, hb4⟩))
  go_ret
  exact ⟨rfl, belowThen (belowThen hbz hb3) hb4⟩
theorem VainSlotsI_any (k : Int) (ao : Option Addr) (n cap : Nat) (l : List (Int × Int)) (w : World) (hr : RdS w ao l) (hn : l.length = n) (hm : n ≤ 1048576) :
    Calls Try.prog 17 #[.int .i64 k, .slice ao n cap] w (RetIB (vsL k l) (goodS k l) w) := by
  unfold vsL RetIB
  have HG := Lib.hid (fun W h => isDriven_any k ao n cap l W h hn (by unfold maxLen; omega))
  cases hb : goodS k l with
  | false =>
    rw [hb] at HG
    go_enter Try.func17, Try.ntmps17
    go_wp2_with (go_at_call 31; refine (HG.out _ hr).mono ?_; rintro e w1 ⟨rfl, hb1⟩)
    go_ret2
    exact ⟨none, 0, rfl, ownsInts_nil _ _, hb1⟩
  | true =>
    have hs := goodS_small hb
    obtain ⟨q, rfl, hq, hqn, h12⟩ := good_nat hb
    rw [hb] at HG
    simp only [if_true, hqn, hn]
    have HV := Lib.hid (fun W h => vain_any q hq ao n cap l W h hn (by omega) hs)
    generalize vainZ q l n = V at *
    clear hs hb hqn
    go_enter Try.func17, Try.ntmps17
    go_wp2_with (first | (go_at_call 31; refine (HG.out _ hr).mono ?_; rintro e w1 ⟨rfl, hb1⟩) | (go_at_call 42; refine (HV.out _ (RdS_below hr hb1)).mono ?_; rintro e w2 ⟨bo, c, rfl, ho2, hb2⟩))
    go_ret2
    exact ⟨bo, c, rfl, ownsInts_below ho2 (Below.refl _ _) hb1.size, belowThen hb1 hb2⟩
theorem SeenOfI_any (k : Int) (ao : Option Addr) (n cap : Nat) (l : List (Int × Int)) (w : World) (hr : RdS w ao l) (hn : l.length = n) (hm : n ≤ 1048576) :
    Calls Try.prog 25 #[.int .i64 k, .slice ao n cap] w (RetIB (soL k l) (goodS k l) w) := by
  unfold soL RetIB
  have HG := Lib.hid (fun W h => isDriven_any k ao n cap l W h hn (by unfold maxLen; omega))
  cases hb : goodS k l with
  | false =>
    rw [hb] at HG
    go_enter Try.func25, Try.ntmps25
    go_wp2_with (go_at_call 31; refine (HG.out _ hr).mono ?_; rintro e w1 ⟨rfl, hb1⟩)
    go_ret2
    exact ⟨none, 0, rfl, ownsInts_nil _ _, hb1⟩
  | true =>
    have hs := goodS_small hb
    obtain ⟨q, rfl, hq, hqn, h12⟩ := good_nat hb
    rw [hb] at HG
    simp only [if_true, hqn]
    have HV := Lib.hid (fun W h => seen_any q hq ao n cap l W h hn (by omega) hs)
    have hlen := seenL_length q l
    rw [hlen]
    generalize seenL q l = V at *
    clear hs hb hqn hlen
    go_enter Try.func25, Try.ntmps25
    go_wp2_with (first | (go_at_call 31; refine (HG.out _ hr).mono ?_; rintro e w1 ⟨rfl, hb1⟩) | (go_at_call 50; refine (HV.out _ (RdS_below hr hb1)).mono ?_; rintro e w2 ⟨g2, rfl, ho2, hb2⟩))
    go_ret2
    exact ⟨_, _, rfl, ownsInts_below ho2 (Below.refl _ _) hb1.size, belowThen hb1 hb2⟩
theorem SwitchesOfI_any (k : Int) (ao : Option Addr) (n cap : Nat) (l : List (Int × Int)) (w : World) (hr : RdS w ao l) (hn : l.length = n) (hm : n ≤ 1048576) :
    Calls Try.prog 21 #[.int .i64 k, .slice ao n cap] w fun e w' => e = .returned (.tuple #[.int .i64 (soN k l), .bool (goodS k l)]) ∧ Below w.heap.size w w' := by
  unfold soN
  have HG := Lib.hid (fun W h => isDriven_any k ao n cap l W h hn (by unfold maxLen; omega))
  cases hb : goodS k l with
  | false =>
    rw [hb] at HG
    go_enter Try.func21, Try.ntmps21
    go_wp2_with (go_at_call 31; refine (HG.out _ hr).mono ?_; rintro e w1 ⟨rfl, hb1⟩)
    go_ret2
    exact ⟨rfl, hb1⟩
  | true =>
    have hs := goodS_small hb
    obtain ⟨q, rfl, hq, hqn, h12⟩ := good_nat hb
    rw [hb] at HG
    simp only [if_true]
    have HV := Lib.hid (fun W h => switches_any ao n cap l W h hn (by omega) hs)
    generalize swF l = V at *
    clear hs hb hqn
    go_enter Try.func21, Try.ntmps21
    go_wp2_with (first | (go_at_call 31; refine (HG.out _ hr).mono ?_; rintro e w1 ⟨rfl, hb1⟩) | (go_at_call 39; refine (HV.out _ (RdS_below hr hb1)).mono ?_; rintro e w2 ⟨rfl, hb2⟩))
    go_ret2
    exact ⟨rfl, belowThen hb1 hb2⟩
theorem SwitchesOfS_any (k : Int) (ao : Option Addr) (n cap : Nat) (l : List (Int × Int)) (w : World) (hr : RdS w ao l) (hn : l.length = n) (hm : n ≤ 1048576) :
    Calls Try.prog 22 #[.int .i64 k, .slice ao n cap] w fun e w' => e = .returned (.tuple #[.int .i64 (soN k l), .bool (goodS k l)]) ∧ Below w.heap.size w w' := by
  unfold soN
  have HG := Lib.hid (fun W h => l8Good_any k ao n cap l W h hn (by unfold maxLen; omega))
  cases hb : goodS k l with
  | false =>
    rw [hb] at HG
    go_enter Try.func22, Try.ntmps22
    go_wp2_with (go_at_call 26; refine (HG.out _ hr).mono ?_; rintro e w1 ⟨rfl, hb1⟩)
    go_ret2
    exact ⟨rfl, hb1⟩
  | true =>
    have hs := goodS_small hb
    obtain ⟨q, rfl, hq, hqn, h12⟩ := good_nat hb
    rw [hb] at HG
    simp only [if_true]
    have HV := Lib.hid (fun W h => l8Switches_any ao n cap l W h hn (by omega) hs)
    generalize swF l = V at *
    clear hs hb hqn
    go_enter Try.func22, Try.ntmps22
    go_wp2_with (first | (go_at_call 26; refine (HG.out _ hr).mono ?_; rintro e w1 ⟨rfl, hb1⟩) | (go_at_call 29; refine (HV.out _ (RdS_below hr hb1)).mono ?_; rintro e w2 ⟨rfl, hb2⟩))
    go_ret2
    exact ⟨rfl, belowThen hb1 hb2⟩
end Go.Proofs.Ytjcbffkdemadnaa
