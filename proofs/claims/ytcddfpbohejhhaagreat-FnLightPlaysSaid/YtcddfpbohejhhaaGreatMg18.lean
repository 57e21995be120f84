/- Joined texts: ValC, Race, RaceI. -/
import Derived.Test.YtcddfpbohejhhaaGreatMg17
import Derived.Lib.Hide
import Derived.Test.YtcddfpbohejhhaaGreatMg09
import Derived.Deep.RegionHeld3
namespace Go.Proofs.YtcddfpbohejhhaaGreat
open Go.RowKit

/-- What is looked up. -/
def valOfC (F : Nat → List Bool → Bool) (c : Int) (L : List Int) (n : Nat) : Bool := if playB c L n = true then valC L F c.toNat else false
set_option maxRecDepth 100000 in
set_option maxHeartbeats 800000 in
theorem valueOfC_any (F : Nat → List Bool → Bool) (K : Nat) (c0 : Value) (c : Int) (ao : Option Addr) (n cap : Nat) (L : List Int) (w : World) (hr : RdI w ao L) (hn : L.length = n) (hm : n ≤ maxLen) (hcap : n ≤ cap) (hK : Enters K)
    (hF : ∀ (c : Nat) (vs : List Bool) (bo : Option Addr) (cb : Nat) (W : World), c < 128 → vs.length ≤ 7 → RdV W bo (vs.map (Value.bool)) → Below w.heap.size w W → Calls Tryz.prog K #[.int .i64 c, .slice bo vs.length cb, c0] W fun e w' => e = .returned (Value.bool (F c vs)) ∧ Below W.heap.size W w') :
    Calls Tryz.prog 42 #[.int .i64 c, .slice ao n cap, .func (.func K) #[] #[c0]] w fun e w' => e = .returned (.tuple #[Value.bool (valOfC F c L n), .bool (playB c L n)]) ∧ Below w.heap.size w w' := by
  unfold valOfC
  generalize hp : playB c L n = p
  have HP := Lib.hid hp
  have hon := fun h => playB_on (L := L) (n := n) (c := c) (hp.trans h)
  have hway : p = true → wayB c L = true := by intro h; rw [← hp] at h; unfold playB at h; rw [Bool.and_eq_true] at h; exact h.2
  clear hp
  have HF := Lib.hid hF
  clear hF
  rcases p with _ | _
  · clear hway hon
    have hA1 := @cellAlloc; have hA2 := @frozenAlloc; have hA3 := @setCellAlloc; go_enter Tryz.func42, Tryz.ntmps42
    go_wp2_with (first | (go_at_call 45; refine (isPlayable_any _ _ _ _ L _ hr hn hm hcap).mono ?_; rw [HP.out]; rintro e w1 ⟨rfl, hb1⟩))
    go_ret2
    exact ⟨rfl, hb1⟩
  · obtain ⟨hD, hc⟩ := hon rfl
    have hw := hway rfl
    rw [inB_iff] at hc
    obtain ⟨C, rfl⟩ := Int.eq_ofNat_of_zero_le hc.1
    have hC : C < 128 := by omega
    rw [if_pos rfl, Int.toNat_natCast]
    have HD := Lib.hid hD
    have HN := Lib.hid hn
    clear hD hc hon hn hway
    have hfx : (if 0 ≤ (C : Int) ∧ (C : Int) < 128 ∧ wayB (C : Int) L = true then Value.bool (valC L F (C : Int).toNat) else (.bool false)) = Value.bool (valC L F C) := by
      rw [if_pos ⟨by omega, by omega, hw⟩]; rfl
    generalize valC L F C = u at hfx
    have HX := Lib.hid hfx
    have HK := Lib.hid hK
    clear hfx hw hK
    have hA1 := @cellAlloc; have hA2 := @frozenAlloc; have hA3 := @setCellAlloc; go_enter Tryz.func42, Tryz.ntmps42
    go_wp2_with (first | (go_at_call 45; refine (isPlayable_any _ _ _ _ L _ hr HN.out hm hcap).mono ?_; rw [HP.out]; rintro e w1 ⟨rfl, hb1⟩) | (go_at_call 76; refine (tableC_any F K c0 _ _ _ L _ (RdI_below hr hb1) HN.out hm HD.out HK.out (fun c vs bo cb W h1 h2 h3 h4 => HF.out c vs bo cb W h1 h2 h3 (belowThen hb1 h4))).mono ?_; rintro e w2 ⟨rfl, hmap, hb2⟩) | (at_lookup; refine wpLookVC _ (by rfl) _ _ _ (by rfl) _ (Tryz.underlying85) _ (by rfl) w1.heap.size _ _ (by rfl) hmap (C : Int) (by rfl) (wf128 C hC) (Value.bool u) HX.out ?_))
    go_ret2
    exact ⟨rfl, belowThen hb1 hb2⟩
end Go.Proofs.YtcddfpbohejhhaaGreat

namespace Go.Proofs.YtcddfpbohejhhaaGreat
open Go.RowKit

/-- A cell is that of a digit of a goal. -/
def showP (c x : Int) : Bool := ((digC x.toNat : Int) == c)
def goalB (L : List Int) (c : Int) : Bool := L.any (showP c)
def raceF (L : List Int) (c : Nat) (vs : List Bool) : Bool := !goalB L (c : Int) && vs.contains false
def raceV (L : List Int) (c : Nat) : Bool := valC L (raceF L) c
/-- Who is to light a bar can light one behind which the other one does not win. -/
def raceC (L : List Int) (c : Nat) : Bool := (litL L c).any fun x => !raceV L x
theorem containsF_map (l : List Nat) (p : Nat → Bool) : (l.map p).contains false = l.any fun x => !p x := by
  induction l with
  | nil => rfl
  | cons a l ih =>
    rw [List.map_cons, List.contains_cons, List.any_cons, ih]
    cases p a <;> rfl
theorem raceV_eq (L : List Int) (c : Nat) (hc : c < 128) : raceV L c = (!goalB L (c : Int) && raceC L c) := by
  unfold raceV raceC
  rw [valC_eq L (raceF L) c hc]
  show (_ && _) = _
  rw [containsF_map]
  rfl
set_option maxHeartbeats 400000 in
theorem l11Shows_any (c : Int) (ao : Option Addr) (n cap : Nat) (L : List Int) (w : World) (hr : RdI w ao L) (hn : L.length = n) (hm : n ≤ maxLen) (hD : allDig L) :
    Calls Tryz.prog 48 #[.int .i64 c, .slice ao n cap] w fun e w' => e = .returned (.bool (goalB L c)) ∧ Below w.heap.size w w' := by
  unfold maxLen at hm
  obtain ⟨R, hR⟩ : ∃ R, goalB L c = R := ⟨_, rfl⟩
  rw [hR]
  have hA1 := @cellAlloc; have hA2 := @frozenAlloc; have hA3 := @setCellAlloc; go_enter Tryz.func48, Tryz.ntmps48
  go_wp2
  go_loopw [5] (fun i wr => ∃ k : Nat, k ≤ n ∧ i = .int .i64 k ∧ (L.drop k).any (showP c) = R ∧ Below w.heap.size w wr) (fun i _ => n - (intOf i).toNat)
  case atStart => exact ⟨0, by omega, rfl, by simpa [goalB] using hR, Below.refl _ _⟩
  case round =>
    obtain ⟨k, hle, rfl, hd, hbw⟩ := hrel
    by_cases hlt : k < n
    · have hrr := RdI_below hr hbw
      rcases hrr with h | ⟨b1, o1, rfl, hb1, hc1⟩
      · rw [h] at hn; simp at hn; omega
      have hx := hc1 k (by omega)
      have hy := hD _ (mem_getD (show k < L.length by omega))
      rw [drop_cons L k (by omega), List.any_cons] at hd
      generalize L.getD k 0 = y at hx hd hy
      rw [inB_iff] at hy
      obtain ⟨d, rfl⟩ := Int.eq_ofNat_of_zero_le hy.1
      have hd10 : d < 10 := by omega
      simp only [showP, Int.toNat_natCast] at hd
      generalize ht : ((digC d : Int) == c) = t at hd
      clear hc1 hR hn hr hy hD
      rcases t with _ | _
      · rw [Bool.false_or] at hd
        have HD := Lib.hid hd
        clear hd
        go_wp2_with (go_at_call 71; refine (l2Digit_any d hd10 _).mono ?_; rintro e w1 ⟨rfl, hb2⟩)
        go_roundw
        case rel => exact ⟨k + 1, by omega, by go_num, HD.out, belowThen hbw hb2⟩
        case measure => simp [intOf]; omega
      · rw [Bool.true_or] at hd
        subst hd
        go_wp2_with (go_at_call 71; refine (l2Digit_any d hd10 _).mono ?_; rintro e w1 ⟨rfl, hb2⟩)
        go_ret
        exact ⟨rfl, belowThen hbw hb2⟩
    · have hkn : k = n := by omega
      subst hkn
      rw [List.drop_eq_nil_of_le (by omega)] at hd
      simp only [List.any_nil] at hd
      subst hd
      clear hR hn
      go_wp2
      go_ret
      exact ⟨rfl, hbw⟩
/-- In none of the cells by the first k bars does who is to light a bar fail to win. -/
def raceAll (L : List Int) (c k : Nat) : Bool := (litP L c k).all (raceV L)
theorem raceAll_succ (L : List Int) (c k : Nat) : raceAll L c (k + 1) = if nextB L c k = true then raceAll L c k && raceV L (c ||| 2 ^ k) else raceAll L c k := by
  unfold raceAll
  rw [litP_succ]
  split <;> simp
theorem raceAll_le (L : List Int) (c k : Nat) (h : raceC L c = false) : raceAll L c 7 = true := by
  unfold raceC at h
  unfold raceAll
  rw [List.any_eq_false] at h
  rw [List.all_eq_true]
  intro x hx
  have := h x hx
  simpa using this
theorem raceC_of_all (L : List Int) (c : Nat) (h : raceAll L c 7 = true) : raceC L c = false := by
  unfold raceAll at h
  unfold raceC
  rw [List.all_eq_true] at h
  rw [List.any_eq_false]
  intro x hx
  have := h x hx
  simpa using this
theorem raceC_of_one (L : List Int) (c k : Nat) (hk : k < 7) (hn : nextB L c k = true) (h : raceV L (c ||| 2 ^ k) = false) : raceC L c = true := by
  unfold raceC
  rw [List.any_eq_true]
  refine ⟨c ||| 2 ^ k, ?_, by rw [h]; rfl⟩
  simp only [litL, litP, List.mem_map, List.mem_filter, List.mem_range]
  exact ⟨k, ⟨hk, hn⟩, rfl⟩
set_option maxHeartbeats 1600000 in
theorem l11Race_any (ao : Option Addr) (n cap : Nat) (L : List Int) (hn : L.length = n) (hm : n ≤ maxLen) (hD : allDig L) (t : Nat) : ∀ (c : Nat) (w : World), c < 128 → 128 - c ≤ t → RdI w ao L →
    Calls Tryz.prog 49 #[.int .i64 c, .slice ao n cap] w fun e w' => e = .returned (.bool (raceC L c)) ∧ Below w.heap.size w w' := by
  have HN := Lib.hid hn
  have HD := Lib.hid hD
  clear hn hD
  induction t with
  | zero => intro c w hc h0 _; omega
  | succ t ih =>
    intro c w hc ht hr
    have IH := Lib.hid ih
    clear ih
    have hA1 := @cellAlloc; have hA2 := @frozenAlloc; have hA3 := @setCellAlloc; go_enter Tryz.func49, Tryz.ntmps49
    go_wp2_with fail
    go_loopw [5] (fun i wr => ∃ k : Nat, k ≤ 7 ∧ i = .int .i64 k ∧ Hid (raceAll L c k = true) ∧ Below w.heap.size w wr) (fun i _ => 7 - (intOf i).toNat)
    case atStart => exact ⟨0, by omega, rfl, rfl, Below.refl _ _⟩
    case round =>
      obtain ⟨k, hle, rfl, hall, hbw⟩ := hrel
      by_cases hlt : k < 7
      · have hsucc := raceAll_succ L c k
        rw [hall.out] at hsucc
        have hone := raceC_of_one L c k hlt
        have hmem : nextB L c k = true → c < c ||| 2 ^ k := by
          intro h
          have : c ||| 2 ^ k ∈ litP L c 7 := by
            simp only [litP, List.mem_map, List.mem_filter, List.mem_range]
            exact ⟨k, ⟨hlt, h⟩, rfl⟩
          exact (litP_mem hc (Nat.le_refl 7) this).1
        have hl := lor_lt c k hc hlt
        have hV := raceV_eq L (c ||| 2 ^ k) hl
        have HX := Lib.hid (fun W h => l11Next_any c k hc hlt ao n cap L W h HN.out hm HD.out)
        generalize c ||| 2 ^ k = x at hsucc hone hmem hl hV HX
        generalize nextB L c k = q at hsucc hone hmem HX
        rcases q with _ | _
        · have HS := Lib.hid hsucc
          clear hsucc hone hmem hV
          go_wp2_with (first | (go_at_call 73; refine (HX.out _ (RdI_below hr hbw)).mono ?_; rintro e w2 ⟨rfl, hb2⟩))
          go_roundw
          case rel => exact ⟨k + 1, by omega, by go_num, by show _ = _; rw [HS.out]; rfl, belowThen hbw hb2⟩
          case measure => simp [intOf]; omega
        · have hlx := hmem rfl
          have hone := hone rfl
          rw [if_pos rfl, Bool.true_and] at hsucc
          rw [hV] at hsucc hone
          have HSh := Lib.hid (fun W h => l11Shows_any (x : Int) ao n cap L W h HN.out hm HD.out)
          have HRc := Lib.hid (fun W h => IH.out x W hl (by omega) h)
          generalize goalB L (x : Int) = g at hsucc hone HSh
          generalize raceC L x = r at hsucc hone HRc
          clear hV hmem
          rcases g with _ | _
          · rcases r with _ | _
            · have HO := Lib.hid (hone rfl)
              clear hone hsucc
              go_wp2_with (first | (go_at_call 73; refine (HX.out _ (RdI_below hr hbw)).mono ?_; rintro e w2 ⟨rfl, hb2⟩) | (go_at_call 48; refine (HSh.out _ (RdI_below (RdI_below hr hbw) hb2)).mono ?_; rintro e w3 ⟨rfl, hb3⟩) | (go_at_call 49; refine (HRc.out _ (RdI_below (RdI_below (RdI_below hr hbw) hb2) hb3)).mono ?_; rintro e w4 ⟨rfl, hb4⟩))
              go_ret
              exact ⟨by rw [HO.out]; rfl, belowThen hbw (belowThen hb2 (belowThen hb3 hb4))⟩
            · have HS := Lib.hid hsucc
              clear hone hsucc
              go_wp2_with (first | (go_at_call 73; refine (HX.out _ (RdI_below hr hbw)).mono ?_; rintro e w2 ⟨rfl, hb2⟩) | (go_at_call 48; refine (HSh.out _ (RdI_below (RdI_below hr hbw) hb2)).mono ?_; rintro e w3 ⟨rfl, hb3⟩) | (go_at_call 49; refine (HRc.out _ (RdI_below (RdI_below (RdI_below hr hbw) hb2) hb3)).mono ?_; rintro e w4 ⟨rfl, hb4⟩))
              go_roundw
              case rel => exact ⟨k + 1, by omega, by go_num, by show _ = _; rw [HS.out]; rfl, belowThen hbw (belowThen hb2 (belowThen hb3 hb4))⟩
              case measure => simp [intOf]; omega
          · have HO := Lib.hid (hone rfl)
            clear hone hsucc
            go_wp2_with (first | (go_at_call 73; refine (HX.out _ (RdI_below hr hbw)).mono ?_; rintro e w2 ⟨rfl, hb2⟩) | (go_at_call 48; refine (HSh.out _ (RdI_below (RdI_below hr hbw) hb2)).mono ?_; rintro e w3 ⟨rfl, hb3⟩))
            go_ret
            exact ⟨by rw [HO.out]; rfl, belowThen hbw (belowThen hb2 hb3)⟩
      · have hk : k = 7 := by omega
        subst hk
        have HO := Lib.hid (raceC_of_all L c hall.out)
        clear hall
        go_wp2_with fail
        go_ret
        exact ⟨by rw [HO.out]; rfl, hbw⟩
end Go.Proofs.YtcddfpbohejhhaaGreat

namespace Go.Proofs.YtcddfpbohejhhaaGreat
open Go.RowKit

theorem enters_show : Enters 81 := fun _ _ => by simp [go_sem, Tryz.func81]
theorem showFn_any (c : Int) (d : Nat) (hd : d < 10) (b : Nat) (w : World) (hb : b < w.heap.size) (hcell : w.cell? ⟨b, 0, none⟩ = some (.int .i64 c)) :
    Calls Tryz.prog 81 #[.int .i64 d, .pointer (some ⟨b, 0, none⟩)] w fun e w' => e = .returned (.bool (showP c d)) ∧ Below w.heap.size w w' := by
  have hdg := digAgg d hd
  have hA1 := @cellAlloc; have hA2 := @frozenAlloc; have hA3 := @setCellAlloc; go_enter Tryz.func81, Tryz.ntmps81
  go_wp2_with fail
  go_region_held3 (fun w' => w'.cell? ⟨b, 0, none⟩ = some (.int .i64 c) ∧ Below w.heap.size w w') (first | assumption | exact ⟨hcell, (Below.refl _ _).drew⟩ | exact boxKeep1 hb ‹_› ‹_›) (first | (go_at_call 82; refine (digitCells_any _).mono ?_; rintro e w1 ⟨rfl, hb1⟩))
  rename_i hH
  go_wp2
  go_ret
  exact ⟨ret_bool (by simp [showP]), hH.2⟩
theorem isGoalCell_any (c : Int) (ao : Option Addr) (n cap : Nat) (L : List Int) (w : World) (hr : RdI w ao L) (hn : L.length = n) (hm : n ≤ maxLen) (hD : allDig L) :
    Calls Tryz.prog 46 #[.int .i64 c, .slice ao n cap] w fun e w' => e = .returned (.bool (goalB L c)) ∧ Below w.heap.size w w' := by
  have hmf : ∀ (fn : Fn) (first cap : Array Value) (w : World), (Instr.makeFunc fn first cap).run Tryz.prog w = .ok (.func fn first cap) w := fun _ _ _ _ => rfl
  have hT : Tells 81 (.pointer (some ⟨w.heap.size, 0, none⟩)) (showP c) L (w.alloc (.cells #[.int .i64 c] 3)) := by
    intro x W hx hbW
    have hy := hD x hx
    rw [inB_iff] at hy
    obtain ⟨d, rfl⟩ := Int.eq_ofNat_of_zero_le hy.1
    refine showFn_any c d (by omega) w.heap.size W (by have := hbW.size; simp at this; omega) ?_
    rw [hbW.cell (p := ⟨w.heap.size, 0, none⟩) (by simp)]
    exact World.cell?_alloc_at _ _ _ _ rfl
  have HT := Lib.hid hT
  clear hT
  have hA1 := @cellAlloc; have hA2 := @frozenAlloc; have hA3 := @setCellAlloc; go_enter Tryz.func46, Tryz.ntmps46
  go_wp2_with (go_at_call 80; refine (ContainsFunc_any _ _ _ _ _ _ L _ (RdI_below hr (Go.Joins.below_alloc1 _ _)) hn hm HT.out enters_show).mono ?_; rintro e w1 ⟨rfl, hb1⟩)
  go_ret
  exact ⟨rfl, belowThen (Go.Joins.below_alloc1 _ _) hb1⟩
theorem RaceWins1_any (c : Nat) (b : Nat) (ao : Option Addr) (n cap : Nat) (L : List Int) (bo : Option Addr) (cb : Nat) (vs : List Bool) (w : World) (hb : b < w.heap.size) (hcell : w.cell? ⟨b, 0, none⟩ = some (.slice ao n cap))
    (hr : RdI w ao L) (hn : L.length = n) (hm : n ≤ maxLen) (hD : allDig L) (hv : RdB w bo vs) (hvl : vs.length ≤ 1000000) :
    Calls Tryz.prog 47 #[.int .i64 c, .slice bo vs.length cb, .pointer (some ⟨b, 0, none⟩)] w fun e w' => e = .returned (.bool (raceF L c vs)) ∧ Below w.heap.size w w' := by
  unfold raceF
  have HG := Lib.hid (isGoalCell_any (c : Int) ao n cap L w hr hn hm hD)
  have HV := Lib.hid (fun W h => sliceContainsB_any bo vs.length cb vs W h rfl hvl)
  generalize goalB L (c : Int) = g at HG ⊢
  generalize vs.contains false = v at HV ⊢
  clear hr hn hD
  rcases g with _ | _
  · have hA1 := @cellAlloc; have hA2 := @frozenAlloc; have hA3 := @setCellAlloc; go_enter Tryz.func47, Tryz.ntmps47
    go_wp2_with (first | (go_at_call 46; refine HG.out.mono ?_; rintro e w1 ⟨rfl, hb1⟩) | (go_at_call 44; refine (HV.out _ (RdB_below hv hb1)).mono ?_; rintro e w' ⟨rfl, rfl⟩))
    go_ret
    exact ⟨rfl, hb1⟩
  · have hA1 := @cellAlloc; have hA2 := @frozenAlloc; have hA3 := @setCellAlloc; go_enter Tryz.func47, Tryz.ntmps47
    go_wp2_with (first | (go_at_call 46; refine HG.out.mono ?_; rintro e w1 ⟨rfl, hb1⟩))
    go_ret
    exact ⟨rfl, hb1⟩
theorem enters_race : Enters 47 := fun _ _ => by simp [go_sem, Tryz.func47]
/-- What is told of the race: whether the arguments are valid, and who wins. -/
def raceOk (c : Int) (L : List Int) (n : Nat) : Bool := playB c L n && !goalB L c
def raceR (c : Int) (L : List Int) (n : Nat) : Bool := raceOk c L n && raceC L c.toNat
set_option maxHeartbeats 800000 in
theorem RaceWinsI_any (c : Int) (ao : Option Addr) (n cap : Nat) (L : List Int) (w : World) (hr : RdI w ao L) (hn : L.length = n) (hm : n ≤ maxLen) (hcap : n ≤ cap) :
    Calls Tryz.prog 17 #[.int .i64 c, .slice ao n cap] w fun e w' => e = .returned (.tuple #[.bool (raceR c L n), .bool (raceOk c L n)]) ∧ Below w.heap.size w w' := by
  unfold raceR raceOk
  obtain ⟨p, hp⟩ : ∃ p, playB c L n = p := ⟨_, rfl⟩
  have HP := Lib.hid hp
  have hon := fun h => playB_on (L := L) (n := n) (c := c) (hp.trans h)
  rw [hp]
  clear hp
  have hmf : ∀ (fn : Fn) (first cap : Array Value) (w : World), (Instr.makeFunc fn first cap).run Tryz.prog w = .ok (.func fn first cap) w := fun _ _ _ _ => rfl
  rcases p with _ | _
  · clear hon
    have hA1 := @cellAlloc; have hA2 := @frozenAlloc; have hA3 := @setCellAlloc; go_enter Tryz.func17, Tryz.ntmps17
    go_wp2_with (first | (go_at_call 45; refine (isPlayable_any _ _ _ _ L _ (RdI_below hr (Go.Joins.below_alloc1 _ _)) hn hm hcap).mono ?_; rw [HP.out]; rintro e w1 ⟨rfl, hb1⟩; have hs1 := hb1.size; (try simp only [heapAlloc, heapSet] at hs1); have hc1 := cellRule hb1; have hf1 := frozenRule hb1))
    go_ret2
    exact ⟨rfl, by (repeat (first | assumption | exact Below.refl _ _ | refine belowThen ?_ (Go.Joins.below_alloc1 _ _) | apply Below.drew | refine belowThen ?_ (by assumption) | refine belowThen ?_ (Go.Joins.below_draws _ _ _) | refine Below.setCell ?_ (by first | exact Nat.le_refl _ | (simp; done) | (simp; omega)) _))⟩
  · obtain ⟨hD, hc⟩ := hon rfl
    have HD := Lib.hid hD
    have HN := Lib.hid hn
    rw [inB_iff] at hc
    obtain ⟨C, rfl⟩ := Int.eq_ofNat_of_zero_le hc.1
    have hC : C < 128 := by omega
    have hV := raceV_eq L C hC
    have hval : valOfC (raceF L) (C : Int) L n = raceV L C := by unfold valOfC; rw [HP.out, if_pos rfl, Int.toNat_natCast]; rfl
    rw [hV] at hval
    rw [Int.toNat_natCast]
    have HS := Lib.hid (fun W h => isGoalCell_any (C : Int) ao n cap L W h HN.out hm HD.out)
    generalize hg : goalB L (C : Int) = g at hval HS ⊢
    generalize raceC L C = r at hval ⊢
    have HVal := Lib.hid hval
    clear hV hval hg hD hn hon hc
    have hF : ∀ (w1 : World), w1.cell? ⟨w.heap.size, 0, none⟩ = some (.slice ao n cap) → w.heap.size < w1.heap.size → RdI w1 ao L → ∀ (c : Nat) (vs : List Bool) (bo : Option Addr) (cb : Nat) (W : World), c < 128 → vs.length ≤ 7 → RdV W bo (vs.map (Value.bool)) → Below w1.heap.size w1 W → Calls Tryz.prog 47 #[.int .i64 c, .slice bo vs.length cb, .pointer (some ⟨w.heap.size, 0, none⟩)] W fun e w' => e = .returned (Value.bool (raceF L c vs)) ∧ Below W.heap.size W w' := by
      intro w1 h1 h2 h3 c vs bo cb W _ hl hv hbW
      have := hbW.size
      exact RaceWins1_any c w.heap.size ao n cap L bo cb vs W (by omega) ((hbW.cell (p := ⟨w.heap.size, 0, none⟩) h2).trans h1) (RdI_below h3 hbW) HN.out hm HD.out (RdB_of_V hv) (by omega)
    have HF := Lib.hid hF
    clear hF
    rcases g with _ | _
    · have hA1 := @cellAlloc; have hA2 := @frozenAlloc; have hA3 := @setCellAlloc; go_enter Tryz.func17, Tryz.ntmps17
      go_wp2_with (first | (go_at_call 45; refine (isPlayable_any _ _ _ _ L _ (RdI_below hr (Go.Joins.below_alloc1 _ _)) HN.out hm hcap).mono ?_; rw [HP.out]; rintro e w1 ⟨rfl, hb1⟩; have hr1 := RdI_below (RdI_below hr (Go.Joins.below_alloc1 _ _)) hb1; have c1 := (hb1.cell (p := ⟨w.heap.size, 0, none⟩) (by simp)).trans (World.cell?_alloc_at _ _ _ _ rfl); have hs0 := hb1.size; rw [heapAlloc] at hs0; have hs1 := hb1.size; (try simp only [heapAlloc, heapSet] at hs1); have hc1 := cellRule hb1; have hf1 := frozenRule hb1) | (go_at_call 46; refine (HS.out _ hr1).mono ?_; rintro e w2 ⟨rfl, hb2⟩; have c2 := (hb2.cell (p := ⟨w.heap.size, 0, none⟩) (by show w.heap.size < _; omega)).trans c1; have hs2 := hb2.size; have hs2 := hb2.size; (try simp only [heapAlloc, heapSet] at hs2); have hc2 := cellRule hb2; have hf2 := frozenRule hb2) | (go_at_call 42; refine (valueOfC_any (raceF L) 47 (.pointer (some ⟨w.heap.size, 0, none⟩)) _ _ _ _ L _ (RdI_below hr1 hb2) HN.out hm hcap enters_race (HF.out w2 c2 (by omega) (RdI_below hr1 hb2))).mono ?_; rw [HP.out, HVal.out]; rintro e w3 ⟨rfl, hb3⟩))
      go_ret2
      exact ⟨by simp, by (repeat (first | assumption | exact Below.refl _ _ | refine belowThen ?_ (Go.Joins.below_alloc1 _ _) | apply Below.drew | refine belowThen ?_ (by assumption) | refine belowThen ?_ (Go.Joins.below_draws _ _ _) | refine Below.setCell ?_ (by first | exact Nat.le_refl _ | (simp; done) | (simp; omega)) _))⟩
    · have hA1 := @cellAlloc; have hA2 := @frozenAlloc; have hA3 := @setCellAlloc; go_enter Tryz.func17, Tryz.ntmps17
      go_wp2_with (first | (go_at_call 45; refine (isPlayable_any _ _ _ _ L _ (RdI_below hr (Go.Joins.below_alloc1 _ _)) HN.out hm hcap).mono ?_; rw [HP.out]; rintro e w1 ⟨rfl, hb1⟩; have hr1 := RdI_below (RdI_below hr (Go.Joins.below_alloc1 _ _)) hb1; have c1 := (hb1.cell (p := ⟨w.heap.size, 0, none⟩) (by simp)).trans (World.cell?_alloc_at _ _ _ _ rfl); have hs0 := hb1.size; rw [heapAlloc] at hs0; have hs1 := hb1.size; (try simp only [heapAlloc, heapSet] at hs1); have hc1 := cellRule hb1; have hf1 := frozenRule hb1) | (go_at_call 46; refine (HS.out _ hr1).mono ?_; rintro e w2 ⟨rfl, hb2⟩; have hs2 := hb2.size; (try simp only [heapAlloc, heapSet] at hs2); have hc2 := cellRule hb2; have hf2 := frozenRule hb2))
      go_ret2
      exact ⟨rfl, by (repeat (first | assumption | exact Below.refl _ _ | refine belowThen ?_ (Go.Joins.below_alloc1 _ _) | apply Below.drew | refine belowThen ?_ (by assumption) | refine belowThen ?_ (Go.Joins.below_draws _ _ _) | refine Below.setCell ?_ (by first | exact Nat.le_refl _ | (simp; done) | (simp; omega)) _))⟩
set_option maxHeartbeats 800000 in
theorem RaceWinsS_any (c : Int) (ao : Option Addr) (n cap : Nat) (L : List Int) (w : World) (hr : RdI w ao L) (hn : L.length = n) (hm : n ≤ maxLen) (hcap : n ≤ cap) :
    Calls Tryz.prog 18 #[.int .i64 c, .slice ao n cap] w fun e w' => e = .returned (.tuple #[.bool (raceR c L n), .bool (raceOk c L n)]) ∧ Below w.heap.size w w' := by
  unfold raceR raceOk
  obtain ⟨p, hp⟩ : ∃ p, playB c L n = p := ⟨_, rfl⟩
  have HP := Lib.hid hp
  have hon := fun h => playB_on (L := L) (n := n) (c := c) (hp.trans h)
  rw [hp]
  clear hp
  rcases p with _ | _
  · clear hon
    have hA1 := @cellAlloc; have hA2 := @frozenAlloc; have hA3 := @setCellAlloc; go_enter Tryz.func18, Tryz.ntmps18
    go_wp2_with (first | (go_at_call 32; refine (l11Good_any _ _ _ _ L _ hr hn hm hcap).mono ?_; rw [HP.out]; rintro e w1 ⟨rfl, hb1⟩))
    go_ret2
    exact ⟨rfl, hb1⟩
  · obtain ⟨hD, hc⟩ := hon rfl
    rw [inB_iff] at hc
    obtain ⟨C, rfl⟩ := Int.eq_ofNat_of_zero_le hc.1
    have hC : C < 128 := by omega
    rw [Int.toNat_natCast]
    have HS := Lib.hid (fun W h => l11Shows_any (C : Int) ao n cap L W h hn hm hD)
    have HR := Lib.hid (fun W h => l11Race_any ao n cap L hn hm hD 128 C W hC (by omega) h)
    have HN := Lib.hid hn
    generalize hg : goalB L (C : Int) = g at HS ⊢
    generalize raceC L C = r at HR ⊢
    clear hg hD hn hon hc
    rcases g with _ | _
    all_goals
      have hA1 := @cellAlloc; have hA2 := @frozenAlloc; have hA3 := @setCellAlloc; go_enter Tryz.func18, Tryz.ntmps18
      go_wp2_with (first | (go_at_call 32; refine (l11Good_any _ _ _ _ L _ hr HN.out hm hcap).mono ?_; rw [HP.out]; rintro e w1 ⟨rfl, hb1⟩) | (go_at_call 48; refine (HS.out _ (RdI_below hr hb1)).mono ?_; rintro e w2 ⟨rfl, hb2⟩) | (go_at_call 49; refine (HR.out _ (RdI_below (RdI_below hr hb1) hb2)).mono ?_; rintro e w3 ⟨rfl, hb3⟩))
      go_ret2
      exact ⟨by simp, by (repeat (first | assumption | exact Below.refl _ _ | refine belowThen ?_ (Go.Joins.below_alloc1 _ _) | apply Below.drew | refine belowThen ?_ (by assumption) | refine belowThen ?_ (Go.Joins.below_draws _ _ _) | refine Below.setCell ?_ (by first | exact Nat.le_refl _ | (simp; done) | (simp; omega)) _))⟩
end Go.Proofs.YtcddfpbohejhhaaGreat
