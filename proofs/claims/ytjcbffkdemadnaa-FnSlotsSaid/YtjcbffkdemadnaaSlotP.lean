/- Contracts of the functions that tell whether a list is a frame. -/
import Derived.Test.YtjcbffkdemadnaaSlot
import Derived.Test.YtjcbffkdemadnaaCell
import Derived.Lib.Hide
import Derived.Deep.QuietTactic
import Derived.BigQuiet
import Derived.Deep.RegionHeld3
namespace Go.Proofs.Ytjcbffkdemadnaa
open Go.RowKit

/-- The Slot is valid for k cells; all Slots are. -/
def slotB (k : Nat) (x : Int × Int) : Bool := inB 0 (2 ^ k - 1 : Nat) x.1 && inB 0 127 x.2
def frameB (k : Nat) (l : List (Int × Int)) : Bool := decide (l.length ≤ 12) && l.all (slotB k)
def goodS (k : Int) (l : List (Int × Int)) : Bool := inB 1 6 k && frameB k.toNat l
theorem shlS (k : Nat) (hk : k ≤ 6) : wrap64 (2 ^ k) = ((2 ^ k : Nat) : Int) ∧ (2 ^ k : Nat) ≤ 64 ∧ 1 ≤ (2 ^ k : Nat) := by
  have : ∀ x : Fin 7, wrap64 (2 ^ x.val) = ((2 ^ x.val : Nat) : Int) ∧ (2 ^ x.val : Nat) ≤ 64 ∧ 1 ≤ (2 ^ x.val : Nat) := by decide +kernel
  exact this ⟨k, by omega⟩
theorem allS_succ (p : Int × Int → Bool) (l : List (Int × Int)) (k : Nat) (h : k < l.length) : (l.take (k + 1)).all p = ((l.take k).all p && p (l.getD k (0, 0))) := by
  rw [List.take_add_one, List.getElem?_eq_getElem h, List.all_append, List.getD_eq_getElem?_getD, List.getElem?_eq_getElem h]
  simp
theorem memS (l : List (Int × Int)) (k : Nat) (h : k < l.length) : l.getD k (0, 0) ∈ l := by
  rw [List.getD_eq_getElem?_getD, List.getElem?_eq_getElem h]
  exact List.getElem_mem _
theorem allS_bad (p : Int × Int → Bool) (l : List (Int × Int)) (k : Nat) (h : k < l.length) (hp : p (l.getD k (0, 0)) = false) : l.all p = false := by
  rw [List.all_eq_false]
  exact ⟨_, memS l k h, by rw [hp]; decide⟩
set_option maxHeartbeats 800000 in
theorem l8Slot_any (k : Nat) (hk : 1 ≤ k ∧ k ≤ 6) (x : Int × Int) (w : World) : Calls Try.prog 69 #[.int .i64 k, .agg #[.int .i64 x.1, .int .i64 x.2]] w
    fun e w' => e = .returned (.bool (slotB k x)) ∧ Below w.heap.size w w' := by
  obtain ⟨x0, x1⟩ := x
  obtain ⟨h0, h1, h2⟩ := shlS k hk.2
  have h3 : ((2 ^ k - 1 : Nat) : Int) = ((2 ^ k : Nat) : Int) - 1 := by omega
  unfold slotB
  rw [h3]
  simp only
  generalize (2 ^ k : Nat) = m at h0 h1 h2 ⊢
  generalize hq : inB 0 ((m : Int) - 1) x0 = q
  have C1 := Lib.hid (fun W => l1In_any x0 0 ((m : Int) - 1) W)
  have C2 := Lib.hid (fun W => l2Cell_any x1 W)
  rw [hq] at C1
  generalize inB 0 127 x1 = r at C2 ⊢
  clear hq h3
  rcases q with _ | _
  all_goals
    have hA1 := @cellAlloc; have hA2 := @frozenAlloc; have hA3 := @setCellAlloc; go_enter Try.func69, Try.ntmps69
    go_wp2_with fail
    go_quiet (first | (go_at_call 51; exact quietL (C1.out _)) | (go_at_call 88; exact quietL (C2.out _)))
    go_wp2
    go_ret
    exact ⟨rfl, by (repeat (first | assumption | exact Below.refl _ _ | refine belowThen ?_ (Go.Joins.below_alloc1 _ _) | apply Below.drew | refine belowThen ?_ (by assumption) | refine belowThen ?_ (Go.Joins.below_draws _ _ _) | refine Below.setCell ?_ (by first | exact Nat.le_refl _ | (simp; done) | (simp; omega)) _))⟩
set_option maxHeartbeats 800000 in
theorem l8Frame_any (q : Nat) (hq : 1 ≤ q ∧ q ≤ 6) (ao : Option Addr) (n cap : Nat) (l : List (Int × Int)) (w : World) (hr : RdS w ao l) (hn : l.length = n) (hm : n ≤ maxLen) :
    Calls Try.prog 52 #[.int .i64 q, .slice ao n cap] w fun e w' => e = .returned (.bool (frameB q l)) ∧ Below w.heap.size w w' := by
  unfold maxLen at hm
  have HN := Lib.hid hn
  clear hn
  have HQ := Lib.hid hq
  clear hq
  go_enter Try.func52, Try.ntmps52
  go_wp2
  go_loopw [5] (fun i wr => ∃ k : Nat, k ≤ n ∧ k ≤ 13 ∧ i = .int .i64 k ∧ Hid ((l.take k).all (slotB q) = true) ∧ Below w.heap.size w wr) (fun i _ => n - (intOf i).toNat)
  case atStart => exact ⟨0, by omega, by omega, rfl, rfl, Below.refl _ _⟩
  case round =>
    obtain ⟨k, hk, hk7, rfl, hall, hbw⟩ := hrel
    by_cases hlt : k < n
    · by_cases h6 : k ≤ 12
      · have hrr := RdS_below hr hbw
        rcases hrr with h | ⟨b1, o1, rfl, hb1, hc1⟩
        · have := HN.out; rw [h] at this; simp at this; omega
        obtain ⟨hx, hy⟩ := hc1 k (by rw [HN.out]; omega)
        have hsucc := allS_succ (slotB q) l k (by rw [HN.out]; omega)
        have hbad := allS_bad (slotB q) l k (by rw [HN.out]; omega)
        have HC := Lib.hid (fun W => l8Slot_any q HQ.out (l.getD k (0, 0)) W)
        generalize l.getD k (0, 0) = y at hx hy hsucc hbad HC
        generalize slotB q y = r at hsucc hbad HC
        clear hc1
        rcases r with _ | _
        · have hres : frameB q l = false := by unfold frameB; rw [hbad rfl, Bool.and_false]
          have HR := Lib.hid hres
          clear hres hbad hsucc
          go_wp2_with (first | (go_at_call 69; refine (HC.out _).mono ?_; rintro e w1 ⟨rfl, hb2⟩))
          go_ret
          exact ⟨ret_bool HR.out.symm, belowThen hbw hb2⟩
        · have HS := Lib.hid hsucc
          clear hbad hsucc
          go_wp2_with (first | (go_at_call 69; refine (HC.out _).mono ?_; rintro e w1 ⟨rfl, hb2⟩))
          go_roundw
          case rel => exact ⟨k + 1, by omega, by omega, by go_num, (by show _ = _; rw [HS.out, hall.out]; rfl), belowThen hbw hb2⟩
          case measure => simp [intOf]; omega
      · have hres : frameB q l = false := by unfold frameB; rw [decide_eq_false (by rw [HN.out]; omega), Bool.false_and]
        have hd : decide ((n : Int) ≤ 12) = false := by simp; omega
        have HR := Lib.hid hres
        clear hres hall hr
        go_wp2
        go_ret
        exact ⟨ret_bool (by rw [HR.out]; try (first | (simp; done) | (simp; omega))), hbw⟩
    · have hkn : k = n := by omega
      subst hkn
      have hall' := hall.out
      rw [List.take_of_length_le (by rw [HN.out]; omega)] at hall'
      have hres : frameB q l = decide (k ≤ 12) := by unfold frameB; rw [hall', Bool.and_true, HN.out]
      have HR := Lib.hid hres
      clear hres hall hr hall'
      go_wp2
      go_ret
      exact ⟨ret_bool (by rw [HR.out]; try (first | (simp; done) | (simp; omega))), hbw⟩
theorem l8Good_any (q : Int) (ao : Option Addr) (n cap : Nat) (l : List (Int × Int)) (w : World) (hr : RdS w ao l) (hn : l.length = n) (hm : n ≤ maxLen) :
    Calls Try.prog 26 #[.int .i64 q, .slice ao n cap] w fun e w' => e = .returned (.bool (goodS q l)) ∧ Below w.heap.size w w' := by
  unfold goodS
  have hin := fun h => (inB_iff (a := 1) (b := 6) (x := q)).1 h
  generalize hb : inB 1 6 q = b at hin
  have HB := Lib.hid hb
  clear hb
  rcases b with _ | _
  · go_enter Try.func26, Try.ntmps26
    go_wp2_with (first | (go_at_call 51; refine (l1In_any _ _ _ _).mono ?_; rw [HB.out]; rintro e w1 ⟨rfl, rfl⟩))
    go_ret
    exact ⟨rfl, Below.refl _ _⟩
  · obtain ⟨h1, h6⟩ := hin rfl
    obtain ⟨k, rfl⟩ := Int.eq_ofNat_of_zero_le (show 0 ≤ q by omega)
    rw [Int.toNat_natCast]
    have HC := Lib.hid (fun W h => l8Frame_any k (by omega) ao n cap l W h hn hm)
    go_enter Try.func26, Try.ntmps26
    go_wp2_with (first | (go_at_call 51; refine (l1In_any _ _ _ _).mono ?_; rw [HB.out]; rintro e w1 ⟨rfl, rfl⟩) | (go_at_call 52; refine (HC.out _ hr).mono ?_; rintro e w2 ⟨rfl, hb2⟩))
    go_ret
    exact ⟨rfl, hb2⟩
/-- The number K is that of a function of the program's own text. -/
def EntersS (K : Nat) : Prop := ∀ (args : Array Value) (W : World), (callFunc K args).run Try.prog W = .ok (.enter K args) W
/-- The function value tells at each Slot whether p holds. -/
def TellsS (K : Nat) (c0 : Value) (p : Int × Int → Bool) (l : List (Int × Int)) (w0 : World) : Prop :=
  ∀ (x : Int × Int) (W : World), x ∈ l → Below w0.heap.size w0 W → Calls Try.prog K #[.agg #[.int .i64 x.1, .int .i64 x.2], c0] W fun e w' => e = .returned (.bool (p x)) ∧ Below W.heap.size W w'
theorem enters_sfr : EntersS 71 := fun _ _ => by simp [go_sem, Try.func71]
theorem enters_sall : EntersS 90 := fun _ _ => by simp [go_sem, Try.func90]
set_option maxHeartbeats 800000 in
theorem isFrameFn (k : Nat) (hk : 1 ≤ k ∧ k ≤ 6) (x : Int × Int) (b : Nat) (w : World) (hcell : w.cell? ⟨b, 0, none⟩ = some (.int .i64 k)) : Calls Try.prog 71 #[.agg #[.int .i64 x.1, .int .i64 x.2], .pointer (some ⟨b, 0, none⟩)] w
    fun e w' => e = .returned (.bool (slotB k x)) ∧ Below w.heap.size w w' := by
  obtain ⟨x0, x1⟩ := x
  obtain ⟨h0, h1, h2⟩ := shlS k hk.2
  have h3 : ((2 ^ k - 1 : Nat) : Int) = ((2 ^ k : Nat) : Int) - 1 := by omega
  have hlt : b < w.heap.size := World.block_lt_of_cell? w ⟨b, 0, none⟩ hcell
  unfold slotB
  rw [h3]
  simp only
  generalize (2 ^ k : Nat) = m at h0 h1 h2 ⊢
  generalize hq : inB 0 ((m : Int) - 1) x0 = q
  have C1 := Lib.hid (fun W => within_any x0 0 ((m : Int) - 1) W)
  have C2 := Lib.hid (fun W => IsCell_any x1 W)
  rw [hq] at C1
  generalize inB 0 127 x1 = r at C2 ⊢
  clear hq h3
  rcases q with _ | _
  all_goals
    have hA1 := @cellAlloc; have hA2 := @frozenAlloc; have hA3 := @setCellAlloc; go_enter Try.func71, Try.ntmps71
    go_wp2_with fail
    go_quiet (first | (go_at_call 55; exact quietL (C1.out _)) | (go_at_call 72; exact quietL (C2.out _)))
    go_wp2
    go_ret
    exact ⟨rfl, by (repeat (first | assumption | exact Below.refl _ _ | refine belowThen ?_ (Go.Joins.below_alloc1 _ _) | apply Below.drew | refine belowThen ?_ (by assumption) | refine belowThen ?_ (Go.Joins.below_draws _ _ _) | refine Below.setCell ?_ (by first | exact Nat.le_refl _ | (simp; done) | (simp; omega)) _))⟩
set_option maxRecDepth 100000 in
theorem IndexFuncS_any (K : Nat) (c0 : Value) (p : Int × Int → Bool) (ao : Option Addr) (n cap : Nat) (l : List (Int × Int)) (w : World) (hr : RdS w ao l) (hn : l.length = n) (hm : n ≤ maxLen) (hf : TellsS K c0 p l w) (hK : EntersS K) :
    Calls Try.prog 98 #[.slice ao n cap, .func (.func K) #[] #[c0]] w fun e w' => ∃ r : Int, e = .returned (.int .i64 r) ∧ decide (0 ≤ r) = l.any p ∧ Below w.heap.size w w' := by
  unfold maxLen at hm
  have HF := Lib.hid hf
  have HN := Lib.hid hn
  clear hf hn
  unfold EntersS at hK
  go_enter Try.func98, Try.ntmps98
  go_wp2
  go_loopw [8] (fun i wr => ∃ k : Nat, k ≤ n ∧ i = .int .i64 k ∧ Hid ((l.take k).all (fun x => !p x) = true) ∧ Below w.heap.size w wr) (fun i _ => n - (intOf i).toNat)
  case atStart => exact ⟨0, by omega, rfl, rfl, Below.refl _ _⟩
  case round =>
    obtain ⟨k, hle, rfl, hd, hbw⟩ := hrel
    by_cases hlt : k < n
    · have hrr := RdS_below hr hbw
      rcases hrr with h | ⟨b1, o1, rfl, hb1, hc1⟩
      · have := HN.out; rw [h] at this; simp at this; omega
      obtain ⟨hx, hy⟩ := hc1 k (by rw [HN.out]; omega)
      have hsucc := allS_succ (fun x => !p x) l k (by rw [HN.out]; omega)
      have hmem := memS l k (by rw [HN.out]; omega)
      have hcall := HF.out _ wr hmem hbw
      generalize l.getD k (0, 0) = y at hx hy hsucc hmem hcall
      generalize hp : p y = c at hsucc hcall
      have HP := Lib.hid hp
      have HC := Lib.hid hcall
      have HS := Lib.hid hsucc
      clear hp hcall hsucc hc1
      rcases c with _ | _
      · go_wp2_with fail
        refine HC.out.mono ?_
        rintro e w' ⟨rfl, hb'⟩
        go_wp2
        go_roundw
        case rel => exact ⟨k + 1, by omega, by go_num, (by show _ = _; rw [HS.out, hd.out]; rfl), belowThen hbw hb'⟩
        case measure => simp [intOf]; omega
      · have hany : l.any p = true := List.any_eq_true.2 ⟨y, hmem, HP.out⟩
        have HA := Lib.hid hany
        clear hany
        go_wp2_with fail
        refine HC.out.mono ?_
        rintro e w' ⟨rfl, hb'⟩
        go_wp2
        go_ret
        exact ⟨_, rfl, by rw [HA.out, decide_eq_true_eq]; omega, belowThen hbw hb'⟩
    · have hkn : k = n := by omega
      subst hkn
      have hd' := hd.out
      rw [List.take_of_length_le (by rw [HN.out]; omega)] at hd'
      have hany : l.any p = false := by
        rw [Bool.eq_false_iff]; intro h
        obtain ⟨y, hy, hpy⟩ := List.any_eq_true.1 h
        have := List.all_eq_true.1 hd' y hy
        rw [hpy] at this; simp at this
      have HA := Lib.hid hany
      clear hany hd'
      go_wp2
      go_ret
      exact ⟨_, rfl, by rw [HA.out]; decide, hbw⟩
theorem ContainsFuncS_any (K : Nat) (c0 : Value) (p : Int × Int → Bool) (ao : Option Addr) (n cap : Nat) (l : List (Int × Int)) (w : World) (hr : RdS w ao l) (hn : l.length = n) (hm : n ≤ maxLen) (hf : TellsS K c0 p l w) (hK : EntersS K) :
    Calls Try.prog 89 #[.slice ao n cap, .func (.func K) #[] #[c0]] w fun e w' => e = .returned (.bool (l.any p)) ∧ Below w.heap.size w w' := by
  have HC := Lib.hid (IndexFuncS_any K c0 p ao n cap l w hr hn hm hf hK)
  clear hr hf hK
  go_enter Try.func89, Try.ntmps89
  go_wp2_with (go_at_call 98; refine HC.out.mono ?_; rintro e w' ⟨r, rfl, hr, hb⟩)
  go_ret
  exact ⟨rfl, hb⟩
set_option maxRecDepth 100000 in
theorem areAllFnS (K : Nat) (c0 : Value) (q : Bool) (x : Int × Int) (b : Nat) (w : World) (hK : EntersS K) (hcell : w.cell? ⟨b, 0, none⟩ = some (.func (.func K) #[] #[c0]))
    (hc : ∀ W, Below w.heap.size w W → Calls Try.prog K #[.agg #[.int .i64 x.1, .int .i64 x.2], c0] W fun e w' => e = .returned (.bool q) ∧ Below W.heap.size W w') :
    Calls Try.prog 90 #[.agg #[.int .i64 x.1, .int .i64 x.2], .pointer (some ⟨b, 0, none⟩)] w fun e w' => e = .returned (.bool (!q)) ∧ Below w.heap.size w w' := by
  have HC := Lib.hid hc
  have hlt : b < w.heap.size := World.block_lt_of_cell? w ⟨b, 0, none⟩ hcell
  clear hc
  unfold EntersS at hK
  have hA1 := @cellAlloc; have hA2 := @frozenAlloc; have hA3 := @setCellAlloc; go_enter Try.func90, Try.ntmps90
  go_wp2_with fail
  refine (HC.out _ (Go.Joins.below_alloc1 _ _)).mono ?_
  rintro e w1 ⟨rfl, hb1⟩
  go_wp2
  go_ret
  exact ⟨rfl, by (repeat (first | assumption | exact Below.refl _ _ | refine belowThen ?_ (Go.Joins.below_alloc1 _ _) | apply Below.drew | refine belowThen ?_ (by assumption) | refine belowThen ?_ (Go.Joins.below_draws _ _ _) | refine Below.setCell ?_ (by first | exact Nat.le_refl _ | (simp; done) | (simp; omega)) _))⟩
theorem areAllS_any (K : Nat) (c0 : Value) (p : Int × Int → Bool) (ao : Option Addr) (n cap : Nat) (l : List (Int × Int)) (w : World) (hr : RdS w ao l) (hn : l.length = n) (hm : n ≤ maxLen) (hK : EntersS K)
    (hf : TellsS K c0 p l w) :
    Calls Try.prog 70 #[.slice ao n cap, .func (.func K) #[] #[c0]] w fun e w' => e = .returned (.bool (l.all p)) ∧ Below w.heap.size w w' := by
  have hmf : ∀ (fn : Fn) (first cap : Array Value) (w : World), (Instr.makeFunc fn first cap).run Try.prog w = .ok (.func fn first cap) w := fun _ _ _ _ => rfl
  have hT : ∀ t : TypeId, TellsS 90 (.pointer (some ⟨w.heap.size, 0, none⟩)) (fun x => !p x) l (w.alloc (.cells #[.func (.func K) #[] #[c0]] t)) := by
    intro t x W hx hbW
    have hs := hbW.size
    rw [heapAlloc] at hs
    refine areAllFnS K c0 (p x) x w.heap.size W hK ?_ fun W2 h2 => hf x W2 hx (belowThen (belowThen (Go.Joins.below_alloc1 _ _) hbW) h2)
    rw [hbW.cell (p := ⟨w.heap.size, 0, none⟩) (by simp)]
    exact World.cell?_alloc_at _ _ _ _ rfl
  have HT := Lib.hid hT
  have hany : (!l.any fun x => !p x) = l.all p := by rw [List.all_eq_not_any_not]
  have HA := Lib.hid hany
  clear hT hf hany
  have hA1 := @cellAlloc; have hA2 := @frozenAlloc; have hA3 := @setCellAlloc; go_enter Try.func70, Try.ntmps70
  go_wp2_with (go_at_call 89; refine (ContainsFuncS_any _ _ _ _ _ _ l _ (RdS_below hr (Go.Joins.below_alloc1 _ _)) hn hm (HT.out _) enters_sall).mono ?_; rintro e w1 ⟨rfl, hb1⟩)
  go_ret
  exact ⟨ret_bool HA.out, belowThen (Go.Joins.below_alloc1 _ _) hb1⟩
theorem isFrame_any (q : Nat) (hq : 1 ≤ q ∧ q ≤ 6) (ao : Option Addr) (n cap : Nat) (l : List (Int × Int)) (w : World) (hr : RdS w ao l) (hn : l.length = n) (hm : n ≤ maxLen) :
    Calls Try.prog 56 #[.int .i64 q, .slice ao n cap] w fun e w' => e = .returned (.bool (frameB q l)) ∧ Below w.heap.size w w' := by
  have hmf : ∀ (fn : Fn) (first cap : Array Value) (w : World), (Instr.makeFunc fn first cap).run Try.prog w = .ok (.func fn first cap) w := fun _ _ _ _ => rfl
  unfold maxLen at hm
  have hT : ∀ t : TypeId, TellsS 71 (.pointer (some ⟨w.heap.size, 0, none⟩)) (slotB q) l (w.alloc (.cells #[.int .i64 q] t)) := by
    intro t x W hx hbW
    have hs := hbW.size
    rw [heapAlloc] at hs
    refine isFrameFn q hq x w.heap.size W ?_
    rw [hbW.cell (p := ⟨w.heap.size, 0, none⟩) (by simp)]
    exact World.cell?_alloc_at _ _ _ _ rfl
  have HT := Lib.hid hT
  unfold frameB
  have HN := Lib.hid hn
  have hdn : decide ((n : Int) ≤ 12) = decide (l.length ≤ 12) := by rw [hn]; apply decide_eq_decide.2; omega
  generalize decide (l.length ≤ 12) = d at hdn
  clear hT hn
  rcases d with _ | _
  · have hA1 := @cellAlloc; have hA2 := @frozenAlloc; have hA3 := @setCellAlloc; go_enter Try.func56, Try.ntmps56
    go_wp2
    go_ret
    exact ⟨rfl, by (repeat (first | assumption | exact Below.refl _ _ | refine belowThen ?_ (Go.Joins.below_alloc1 _ _) | apply Below.drew | refine belowThen ?_ (by assumption) | refine belowThen ?_ (Go.Joins.below_draws _ _ _) | refine Below.setCell ?_ (by first | exact Nat.le_refl _ | (simp; done) | (simp; omega)) _))⟩
  · have hA1 := @cellAlloc; have hA2 := @frozenAlloc; have hA3 := @setCellAlloc; go_enter Try.func56, Try.ntmps56
    go_wp2_with (go_at_call 70; refine (areAllS_any _ _ _ _ _ _ l _ (RdS_below hr (Go.Joins.below_alloc1 _ _)) HN.out (by unfold maxLen; omega) enters_sfr (HT.out _)).mono ?_; rintro e w1 ⟨rfl, hb1⟩)
    go_ret
    exact ⟨rfl, belowThen (Go.Joins.below_alloc1 _ _) hb1⟩
theorem isDriven_any (q : Int) (ao : Option Addr) (n cap : Nat) (l : List (Int × Int)) (w : World) (hr : RdS w ao l) (hn : l.length = n) (hm : n ≤ maxLen) :
    Calls Try.prog 31 #[.int .i64 q, .slice ao n cap] w fun e w' => e = .returned (.bool (goodS q l)) ∧ Below w.heap.size w w' := by
  unfold goodS
  have hin := fun h => (inB_iff (a := 1) (b := 6) (x := q)).1 h
  generalize hb : inB 1 6 q = b at hin
  have HB := Lib.hid hb
  clear hb
  rcases b with _ | _
  · go_enter Try.func31, Try.ntmps31
    go_wp2_with (first | (go_at_call 55; refine (within_any _ _ _ _).mono ?_; rw [HB.out]; rintro e w1 ⟨rfl, rfl⟩))
    go_ret
    exact ⟨rfl, Below.refl _ _⟩
  · obtain ⟨h1, h6⟩ := hin rfl
    obtain ⟨k, rfl⟩ := Int.eq_ofNat_of_zero_le (show 0 ≤ q by omega)
    rw [Int.toNat_natCast]
    have HC := Lib.hid (fun W h => isFrame_any k (by omega) ao n cap l W h hn hm)
    go_enter Try.func31, Try.ntmps31
    go_wp2_with (first | (go_at_call 55; refine (within_any _ _ _ _).mono ?_; rw [HB.out]; rintro e w1 ⟨rfl, rfl⟩) | (go_at_call 56; refine (HC.out _ hr).mono ?_; rintro e w2 ⟨rfl, hb2⟩))
    go_ret
    exact ⟨rfl, hb2⟩
end Go.Proofs.Ytjcbffkdemadnaa
