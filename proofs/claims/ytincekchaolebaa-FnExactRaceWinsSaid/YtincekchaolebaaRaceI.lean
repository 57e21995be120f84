/- The race: contracts of the program's functions. -/
import Derived.Test.YtincekchaolebaaRace
import Derived.Lib.Hide
import Derived.Deep.RegionHeld3
namespace Go.Proofs.Ytincekchaolebaa
open Go.RowKit

theorem enters_show : Enters 90 := fun _ _ => by simp [go_sem, Try.func90]
theorem showFn_any (c : Int) (d : Nat) (hd : d < 10) (b : Nat) (w : World) (hb : b < w.heap.size) (hcell : w.cell? ⟨b, 0, none⟩ = some (.int .i64 c)) :
    Calls Try.prog 90 #[.int .i64 d, .pointer (some ⟨b, 0, none⟩)] w fun e w' => e = .returned (.bool (showP c d)) ∧ Below w.heap.size w w' := by
  have hdg := digAgg d hd
  have hA1 := @cellAlloc; have hA2 := @frozenAlloc; have hA3 := @setCellAlloc; go_enter Try.func90, Try.ntmps90
  go_wp2_with fail
  go_region_held3 (fun w' => w'.cell? ⟨b, 0, none⟩ = some (.int .i64 c) ∧ Below w.heap.size w w') (first | assumption | exact ⟨hcell, (Below.refl _ _).drew⟩ | exact boxKeep1 hb ‹_› ‹_›) (first | (go_at_call 89; refine (digitCells_any _).mono ?_; rintro e w1 ⟨rfl, hb1⟩))
  rename_i hH
  go_wp2
  go_ret
  exact ⟨ret_bool (by simp [showP]), hH.2⟩
theorem isGoalCell_any (c : Int) (ao : Option Addr) (n cap : Nat) (L : List Int) (w : World) (hr : RdI w ao L) (hn : L.length = n) (hm : n ≤ maxLen) (hD : allDig L) :
    Calls Try.prog 58 #[.int .i64 c, .slice ao n cap] w fun e w' => e = .returned (.bool (goalB L c)) ∧ Below w.heap.size w w' := by
  have hmf : ∀ (fn : Fn) (first cap : Array Value) (w : World), (Instr.makeFunc fn first cap).run Try.prog w = .ok (.func fn first cap) w := fun _ _ _ _ => rfl
  have hT : Tells 90 (.pointer (some ⟨w.heap.size, 0, none⟩)) (showP c) L (w.alloc (.cells #[.int .i64 c] 3)) := by
    intro x W hx hbW
    have hy := hD x hx
    rw [inB_iff] at hy
    obtain ⟨d, rfl⟩ := Int.eq_ofNat_of_zero_le hy.1
    refine showFn_any c d (by omega) w.heap.size W (by have := hbW.size; simp at this; omega) ?_
    rw [hbW.cell (p := ⟨w.heap.size, 0, none⟩) (by simp)]
    exact World.cell?_alloc_at _ _ _ _ rfl
  have HT := Lib.hid hT
  clear hT
  have hA1 := @cellAlloc; have hA2 := @frozenAlloc; have hA3 := @setCellAlloc; go_enter Try.func58, Try.ntmps58
  go_wp2_with (go_at_call 87; refine (ContainsFunc_any _ _ _ _ _ _ L _ (RdI_below hr (Go.Joins.below_alloc1 _ _)) hn hm HT.out enters_show).mono ?_; rintro e w1 ⟨rfl, hb1⟩)
  go_ret
  exact ⟨rfl, belowThen (Go.Joins.below_alloc1 _ _) hb1⟩
theorem RaceWins1_any (c : Nat) (b : Nat) (ao : Option Addr) (n cap : Nat) (L : List Int) (bo : Option Addr) (cb : Nat) (vs : List Bool) (w : World) (hb : b < w.heap.size) (hcell : w.cell? ⟨b, 0, none⟩ = some (.slice ao n cap))
    (hr : RdI w ao L) (hn : L.length = n) (hm : n ≤ maxLen) (hD : allDig L) (hv : RdB w bo vs) (hvl : vs.length ≤ 1000000) :
    Calls Try.prog 60 #[.int .i64 c, .slice bo vs.length cb, .pointer (some ⟨b, 0, none⟩)] w fun e w' => e = .returned (.bool (raceF L c vs)) ∧ Below w.heap.size w w' := by
  unfold raceF
  have HG := Lib.hid (isGoalCell_any (c : Int) ao n cap L w hr hn hm hD)
  have HV := Lib.hid (fun W h => sliceContainsB_any bo vs.length cb vs W h rfl hvl)
  generalize goalB L (c : Int) = g at HG ⊢
  generalize vs.contains false = v at HV ⊢
  clear hr hn hD
  rcases g with _ | _
  · have hA1 := @cellAlloc; have hA2 := @frozenAlloc; have hA3 := @setCellAlloc; go_enter Try.func60, Try.ntmps60
    go_wp2_with (first | (go_at_call 58; refine HG.out.mono ?_; rintro e w1 ⟨rfl, hb1⟩) | (go_at_call 61; refine (HV.out _ (RdB_below hv hb1)).mono ?_; rintro e w' ⟨rfl, rfl⟩))
    go_ret
    exact ⟨rfl, hb1⟩
  · have hA1 := @cellAlloc; have hA2 := @frozenAlloc; have hA3 := @setCellAlloc; go_enter Try.func60, Try.ntmps60
    go_wp2_with (first | (go_at_call 58; refine HG.out.mono ?_; rintro e w1 ⟨rfl, hb1⟩))
    go_ret
    exact ⟨rfl, hb1⟩
theorem enters_race : Enters 60 := fun _ _ => by simp [go_sem, Try.func60]
/-- What is told of the race: whether the arguments are valid, and who wins. -/
def raceOk (c : Int) (L : List Int) (n : Nat) : Bool := playB c L n && !goalB L c
def raceR (c : Int) (L : List Int) (n : Nat) : Bool := raceOk c L n && raceC L c.toNat
set_option maxHeartbeats 800000 in
theorem RaceWinsI_any (c : Int) (ao : Option Addr) (n cap : Nat) (L : List Int) (w : World) (hr : RdI w ao L) (hn : L.length = n) (hm : n ≤ maxLen) (hcap : n ≤ cap) :
    Calls Try.prog 24 #[.int .i64 c, .slice ao n cap] w fun e w' => e = .returned (.tuple #[.bool (raceR c L n), .bool (raceOk c L n)]) ∧ Below w.heap.size w w' := by
  unfold raceR raceOk
  obtain ⟨p, hp⟩ : ∃ p, playB c L n = p := ⟨_, rfl⟩
  have HP := Lib.hid hp
  have hon := fun h => playB_on (L := L) (n := n) (c := c) (hp.trans h)
  rw [hp]
  clear hp
  have hmf : ∀ (fn : Fn) (first cap : Array Value) (w : World), (Instr.makeFunc fn first cap).run Try.prog w = .ok (.func fn first cap) w := fun _ _ _ _ => rfl
  rcases p with _ | _
  · clear hon
    have hA1 := @cellAlloc; have hA2 := @frozenAlloc; have hA3 := @setCellAlloc; go_enter Try.func24, Try.ntmps24
    go_wp2_with (first | (go_at_call 53; refine (isPlayable_any _ _ _ _ L _ (RdI_below hr (Go.Joins.below_alloc1 _ _)) hn hm hcap).mono ?_; rw [HP.out]; rintro e w1 ⟨rfl, hb1⟩; have hs1 := hb1.size; (try simp only [heapAlloc, heapSet] at hs1); have hc1 := cellRule hb1; have hf1 := frozenRule hb1))
    go_ret2
    exact ⟨rfl, by (repeat (first | assumption | exact Below.refl _ _ | refine belowThen ?_ (Go.Joins.below_alloc1 _ _) | apply Below.drew | refine belowThen ?_ (by assumption) | refine belowThen ?_ (Go.Joins.below_draws _ _ _) | refine Below.setCell ?_ (by first | exact Nat.le_refl _ | (simp; done) | (simp; omega)) _))⟩
  · obtain ⟨hD, hc⟩ := hon rfl
    have HD := Lib.hid hD
    have HN := Lib.hid hn
    rw [inB_iff] at hc
    obtain ⟨C, rfl⟩ := Int.eq_ofNat_of_zero_le hc.1
    have hC : C < 128 := by omega
    have hV := raceV_eq L C hC
    have hval : valOfC (raceF L) (C : Int) L n = raceV L C := by unfold valOfC; rw [HP.out, if_pos rfl, Int.toNat_natCast]; rfl
    rw [hV] at hval
    rw [Int.toNat_natCast]
    have HS := Lib.hid (fun W h => isGoalCell_any (C : Int) ao n cap L W h HN.out hm HD.out)
    generalize hg : goalB L (C : Int) = g at hval HS ⊢
    generalize raceC L C = r at hval ⊢
    have HVal := Lib.hid hval
    clear hV hval hg hD hn hon hc
    have hF : ∀ (w1 : World), w1.cell? ⟨w.heap.size, 0, none⟩ = some (.slice ao n cap) → w.heap.size < w1.heap.size → RdI w1 ao L → ∀ (c : Nat) (vs : List Bool) (bo : Option Addr) (cb : Nat) (W : World), c < 128 → vs.length ≤ 7 → RdV W bo (vs.map (Value.bool)) → Below w1.heap.size w1 W → Calls Try.prog 60 #[.int .i64 c, .slice bo vs.length cb, .pointer (some ⟨w.heap.size, 0, none⟩)] W fun e w' => e = .returned (Value.bool (raceF L c vs)) ∧ Below W.heap.size W w' := by
      intro w1 h1 h2 h3 c vs bo cb W _ hl hv hbW
      have := hbW.size
      exact RaceWins1_any c w.heap.size ao n cap L bo cb vs W (by omega) ((hbW.cell (p := ⟨w.heap.size, 0, none⟩) h2).trans h1) (RdI_below h3 hbW) HN.out hm HD.out (RdB_of_V hv) (by omega)
    have HF := Lib.hid hF
    clear hF
    rcases g with _ | _
    · have hA1 := @cellAlloc; have hA2 := @frozenAlloc; have hA3 := @setCellAlloc; go_enter Try.func24, Try.ntmps24
      go_wp2_with (first | (go_at_call 53; refine (isPlayable_any _ _ _ _ L _ (RdI_below hr (Go.Joins.below_alloc1 _ _)) HN.out hm hcap).mono ?_; rw [HP.out]; rintro e w1 ⟨rfl, hb1⟩; have hr1 := RdI_below (RdI_below hr (Go.Joins.below_alloc1 _ _)) hb1; have c1 := (hb1.cell (p := ⟨w.heap.size, 0, none⟩) (by simp)).trans (World.cell?_alloc_at _ _ _ _ rfl); have hs0 := hb1.size; rw [heapAlloc] at hs0; have hs1 := hb1.size; (try simp only [heapAlloc, heapSet] at hs1); have hc1 := cellRule hb1; have hf1 := frozenRule hb1) | (go_at_call 58; refine (HS.out _ hr1).mono ?_; rintro e w2 ⟨rfl, hb2⟩; have c2 := (hb2.cell (p := ⟨w.heap.size, 0, none⟩) (by show w.heap.size < _; omega)).trans c1; have hs2 := hb2.size; have hs2 := hb2.size; (try simp only [heapAlloc, heapSet] at hs2); have hc2 := cellRule hb2; have hf2 := frozenRule hb2) | (go_at_call 59; refine (valueOfC_any (raceF L) 60 (.pointer (some ⟨w.heap.size, 0, none⟩)) _ _ _ _ L _ (RdI_below hr1 hb2) HN.out hm hcap enters_race (HF.out w2 c2 (by omega) (RdI_below hr1 hb2))).mono ?_; rw [HP.out, HVal.out]; rintro e w3 ⟨rfl, hb3⟩))
      go_ret2
      exact ⟨by simp, by (repeat (first | assumption | exact Below.refl _ _ | refine belowThen ?_ (Go.Joins.below_alloc1 _ _) | apply Below.drew | refine belowThen ?_ (by assumption) | refine belowThen ?_ (Go.Joins.below_draws _ _ _) | refine Below.setCell ?_ (by first | exact Nat.le_refl _ | (simp; done) | (simp; omega)) _))⟩
    · have hA1 := @cellAlloc; have hA2 := @frozenAlloc; have hA3 := @setCellAlloc; go_enter Try.func24, Try.ntmps24
      go_wp2_with (first | (go_at_call 53; refine (isPlayable_any _ _ _ _ L _ (RdI_below hr (Go.Joins.below_alloc1 _ _)) HN.out hm hcap).mono ?_; rw [HP.out]; rintro e w1 ⟨rfl, hb1⟩; have hr1 := RdI_below (RdI_below hr (Go.Joins.below_alloc1 _ _)) hb1; have c1 := (hb1.cell (p := ⟨w.heap.size, 0, none⟩) (by simp)).trans (World.cell?_alloc_at _ _ _ _ rfl); have hs0 := hb1.size; rw [heapAlloc] at hs0; have hs1 := hb1.size; (try simp only [heapAlloc, heapSet] at hs1); have hc1 := cellRule hb1; have hf1 := frozenRule hb1) | (go_at_call 58; refine (HS.out _ hr1).mono ?_; rintro e w2 ⟨rfl, hb2⟩; have hs2 := hb2.size; (try simp only [heapAlloc, heapSet] at hs2); have hc2 := cellRule hb2; have hf2 := frozenRule hb2))
      go_ret2
      exact ⟨rfl, by (repeat (first | assumption | exact Below.refl _ _ | refine belowThen ?_ (Go.Joins.below_alloc1 _ _) | apply Below.drew | refine belowThen ?_ (by assumption) | refine belowThen ?_ (Go.Joins.below_draws _ _ _) | refine Below.setCell ?_ (by first | exact Nat.le_refl _ | (simp; done) | (simp; omega)) _))⟩
set_option maxHeartbeats 800000 in
theorem RaceWinsS_any (c : Int) (ao : Option Addr) (n cap : Nat) (L : List Int) (w : World) (hr : RdI w ao L) (hn : L.length = n) (hm : n ≤ maxLen) (hcap : n ≤ cap) :
    Calls Try.prog 23 #[.int .i64 c, .slice ao n cap] w fun e w' => e = .returned (.tuple #[.bool (raceR c L n), .bool (raceOk c L n)]) ∧ Below w.heap.size w w' := by
  unfold raceR raceOk
  obtain ⟨p, hp⟩ : ∃ p, playB c L n = p := ⟨_, rfl⟩
  have HP := Lib.hid hp
  have hon := fun h => playB_on (L := L) (n := n) (c := c) (hp.trans h)
  rw [hp]
  clear hp
  rcases p with _ | _
  · clear hon
    have hA1 := @cellAlloc; have hA2 := @frozenAlloc; have hA3 := @setCellAlloc; go_enter Try.func23, Try.ntmps23
    go_wp2_with (first | (go_at_call 51; refine (l11Good_any _ _ _ _ L _ hr hn hm hcap).mono ?_; rw [HP.out]; rintro e w1 ⟨rfl, hb1⟩))
    go_ret2
    exact ⟨rfl, hb1⟩
  · obtain ⟨hD, hc⟩ := hon rfl
    rw [inB_iff] at hc
    obtain ⟨C, rfl⟩ := Int.eq_ofNat_of_zero_le hc.1
    have hC : C < 128 := by omega
    rw [Int.toNat_natCast]
    have HS := Lib.hid (fun W h => l11Shows_any (C : Int) ao n cap L W h hn hm hD)
    have HR := Lib.hid (fun W h => l11Race_any ao n cap L hn hm hD 128 C W hC (by omega) h)
    have HN := Lib.hid hn
    generalize hg : goalB L (C : Int) = g at HS ⊢
    generalize raceC L C = r at HR ⊢
    clear hg hD hn hon hc
    rcases g with _ | _
    all_goals
      have hA1 := @cellAlloc; have hA2 := @frozenAlloc; have hA3 := @setCellAlloc; go_enter Try.func23, Try.ntmps23
      go_wp2_with (first | (go_at_call 51; refine (l11Good_any _ _ _ _ L _ hr HN.out hm hcap).mono ?_; rw [HP.out]; rintro e w1 ⟨rfl, hb1⟩) | (go_at_call 56; refine (HS.out _ (RdI_below hr hb1)).mono ?_; rintro e w2 ⟨rfl, hb2⟩) | (go_at_call 57; refine (HR.out _ (RdI_below (RdI_below hr hb1) hb2)).mono ?_; rintro e w3 ⟨rfl, hb3⟩))
      go_ret2
      exact ⟨by simp, by (repeat (first | assumption | exact Below.refl _ _ | refine belowThen ?_ (Go.Joins.below_alloc1 _ _) | apply Below.drew | refine belowThen ?_ (by assumption) | refine belowThen ?_ (Go.Joins.below_draws _ _ _) | refine Below.setCell ?_ (by first | exact Nat.le_refl _ | (simp; done) | (simp; omega)) _))⟩
end Go.Proofs.Ytincekchaolebaa
