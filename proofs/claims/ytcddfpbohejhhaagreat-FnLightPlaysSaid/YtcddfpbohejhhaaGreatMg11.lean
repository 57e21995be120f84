/- Joined texts: Row, Nim, Marks. -/
import Derived.Test.YtcddfpbohejhhaaGreatMg02
import Derived.Lib.Hide
import Derived.Deep.QuietTactic
import Derived.BigQuiet
import Derived.Test.YtcddfpbohejhhaaGreatMg10
import Derived.Test.YtcddfpbohejhhaaGreatMg01
namespace Go.Proofs.YtcddfpbohejhhaaGreat
open Go.RowKit

/-- The list is a row. -/
def rowB (L : List Int) : Bool := decide (L.length ≤ 6) && L.all (inB 0 127)
theorem all_take_succ (p : Int → Bool) (L : List Int) (k : Nat) (h : k < L.length) : (L.take (k + 1)).all p = ((L.take k).all p && p (L.getD k 0)) := by
  rw [List.take_add_one, List.getElem?_eq_getElem h, List.all_append, List.getD_eq_getElem?_getD, List.getElem?_eq_getElem h]
  simp
theorem all_bad (p : Int → Bool) (L : List Int) (k : Nat) (h : k < L.length) (hp : p (L.getD k 0) = false) : L.all p = false := by
  rw [List.all_eq_false]
  refine ⟨L[k], List.getElem_mem _, ?_⟩
  have e : L.getD k 0 = L[k] := by rw [List.getD_eq_getElem?_getD, List.getElem?_eq_getElem h]; rfl
  rw [← e, hp]; decide
theorem rowB_len {L : List Int} (h : rowB L = true) : L.length ≤ 6 := by
  unfold rowB at h; simp only [Bool.and_eq_true, decide_eq_true_eq] at h; exact h.1
theorem rowB_at {L : List Int} (h : rowB L = true) (k : Nat) (hk : k < L.length) : inB 0 127 (L.getD k 0) = true := by
  unfold rowB at h; simp only [Bool.and_eq_true, decide_eq_true_eq] at h
  cases hp : inB 0 127 (L.getD k 0) with
  | true => rfl
  | false => have := all_bad _ L k hk hp; rw [this] at h; exact absurd h.2 (by decide)
set_option maxHeartbeats 400000 in
theorem l2Row_any (ao : Option Addr) (n cap : Nat) (L : List Int) (w : World) (hr : RdI w ao L) (hn : L.length = n) (hm : n ≤ maxLen) :
    Calls Tryz.prog 91 #[.slice ao n cap] w fun e w' => e = .returned (.bool (rowB L)) ∧ w = w' := by
  unfold maxLen at hm
  have HN := Lib.hid hn
  go_enter Tryz.func91, Tryz.ntmps91
  go_wp2
  go_loop [3] (fun i => ∃ k : Nat, k ≤ n ∧ k ≤ 7 ∧ i = .int .i64 k ∧ Hid ((L.take k).all (inB 0 127) = true)) (fun i => n - (intOf i).toNat)
  case atStart => exact ⟨0, by omega, by omega, rfl, rfl⟩
  case round =>
    obtain ⟨k, hk, hk7, rfl, hall⟩ := hrel
    by_cases hlt : k < n
    · by_cases h6 : k ≤ 6
      · rcases hr with h | ⟨b1, o1, rfl, hb1, hc1⟩
        · rw [h] at hn; simp at hn; omega
        have hx := hc1 k (by omega)
        have hsucc := all_take_succ (inB 0 127) L k (by omega)
        have hbad := all_bad (inB 0 127) L k (by omega)
        generalize L.getD k 0 = y at hx hsucc hbad
        generalize hq : inB 0 127 y = q at hsucc hbad
        have HQ := Lib.hid hq
        clear hq hc1 hn
        rcases q with _ | _
        · have hres : rowB L = false := by unfold rowB; rw [hbad rfl, Bool.and_false]
          have HR := Lib.hid hres
          clear hres hbad hsucc
          go_wp2_with (first | (go_at_call 70; refine (l2Cell_any _ _).mono ?_; rw [HQ.out]; rintro e w' ⟨rfl, rfl⟩))
          go_ret
          exact ⟨ret_bool HR.out.symm, rfl⟩
        · have HS := Lib.hid hsucc
          clear hbad hsucc
          go_wp2_with (first | (go_at_call 70; refine (l2Cell_any _ _).mono ?_; rw [HQ.out]; rintro e w' ⟨rfl, rfl⟩))
          go_round
          case rel => exact ⟨k + 1, by omega, by omega, by go_num, (by show _ = _; rw [HS.out, hall.out]; rfl)⟩
          case measure => simp [intOf]; omega
      · have hres : rowB L = false := by unfold rowB; rw [decide_eq_false (by omega), Bool.false_and]
        have hd : decide ((n : Int) ≤ 6) = false := by simp; omega
        have HR := Lib.hid hres
        clear hres hn hall hr
        go_wp2
        go_ret
        exact ⟨ret_bool (by rw [HR.out]; try (first | (simp; done) | (simp; omega))), rfl⟩
    · have hkn : k = n := by omega
      subst hkn
      have hall' := hall.out
      rw [List.take_of_length_le (by omega)] at hall'
      have hres : rowB L = decide (k ≤ 6) := by unfold rowB; rw [hall', Bool.and_true, hn]
      have HR := Lib.hid hres
      clear hres hn hall hr hall'
      go_wp2
      go_ret
      exact ⟨ret_bool (by rw [HR.out]; try (first | (simp; done) | (simp; omega))), rfl⟩
theorem enters_all : Enters 106 := fun _ _ => by simp [go_sem, Tryz.func106]
set_option maxRecDepth 100000 in
theorem areAllFnN (K : Nat) (q : Bool) (x : Int) (b : Nat) (w : World) (hK : Enters K) (hcell : w.cell? ⟨b, 0, none⟩ = some (.func (.func K) #[] #[]))
    (hc : Calls Tryz.prog K #[.int .i64 x] w fun e w' => e = .returned (.bool q) ∧ Below w.heap.size w w') :
    Calls Tryz.prog 106 #[.int .i64 x, .pointer (some ⟨b, 0, none⟩)] w fun e w' => e = .returned (.bool (!q)) ∧ Below w.heap.size w w' := by
  have HC := Lib.hid hc
  clear hc
  unfold Enters at hK
  go_enter Tryz.func106, Tryz.ntmps106
  go_wp2_with fail
  refine HC.out.mono ?_
  rintro e w1 ⟨rfl, hb1⟩
  go_wp2
  go_ret
  exact ⟨rfl, hb1⟩
theorem areAllN_any (K : Nat) (p : Int → Bool) (ao : Option Addr) (n cap : Nat) (L : List Int) (w : World) (hr : RdI w ao L) (hn : L.length = n) (hm : n ≤ maxLen) (hK : Enters K)
    (hf : ∀ (x : Int) (W : World), x ∈ L → Below w.heap.size w W → Calls Tryz.prog K #[.int .i64 x] W fun e w' => e = .returned (.bool (p x)) ∧ Below W.heap.size W w') :
    Calls Tryz.prog 86 #[.slice ao n cap, .func (.func K) #[] #[]] w fun e w' => e = .returned (.bool (L.all p)) ∧ Below w.heap.size w w' := by
  have hmf : ∀ (fn : Fn) (first cap : Array Value) (w : World), (Instr.makeFunc fn first cap).run Tryz.prog w = .ok (.func fn first cap) w := fun _ _ _ _ => rfl
  have hT : ∀ t : TypeId, Tells 106 (.pointer (some ⟨w.heap.size, 0, none⟩)) (fun x => !p x) L (w.alloc (.cells #[.func (.func K) #[] #[]] t)) := by
    intro t x W hx hbW
    have hs := hbW.size
    rw [heapAlloc] at hs
    refine areAllFnN K (p x) x w.heap.size W hK ?_ (hf x W hx (belowThen (Go.Joins.below_alloc1 _ _) hbW))
    rw [hbW.cell (p := ⟨w.heap.size, 0, none⟩) (by simp)]
    exact World.cell?_alloc_at _ _ _ _ rfl
  have HT := Lib.hid hT
  have hany : (!L.any fun x => !p x) = L.all p := by rw [List.all_eq_not_any_not]
  have HA := Lib.hid hany
  clear hT hf hany
  have hA1 := @cellAlloc; have hA2 := @frozenAlloc; have hA3 := @setCellAlloc; go_enter Tryz.func86, Tryz.ntmps86
  go_wp2_with (go_at_call 80; refine (ContainsFunc_any _ _ _ _ _ _ L _ (RdI_below hr (Go.Joins.below_alloc1 _ _)) hn hm (HT.out _) enters_all).mono ?_; rintro e w1 ⟨rfl, hb1⟩)
  go_ret
  exact ⟨ret_bool HA.out, belowThen (Go.Joins.below_alloc1 _ _) hb1⟩
set_option maxRecDepth 100000 in
theorem areAllFnC (K : Nat) (c0 : Value) (q : Bool) (x : Int) (b : Nat) (w : World) (hK : Enters K) (hcell : w.cell? ⟨b, 0, none⟩ = some (.func (.func K) #[] #[c0]))
    (hc : Calls Tryz.prog K #[.int .i64 x, c0] w fun e w' => e = .returned (.bool q) ∧ Below w.heap.size w w') :
    Calls Tryz.prog 106 #[.int .i64 x, .pointer (some ⟨b, 0, none⟩)] w fun e w' => e = .returned (.bool (!q)) ∧ Below w.heap.size w w' := by
  have HC := Lib.hid hc
  clear hc
  unfold Enters at hK
  go_enter Tryz.func106, Tryz.ntmps106
  go_wp2_with fail
  refine HC.out.mono ?_
  rintro e w1 ⟨rfl, hb1⟩
  go_wp2
  go_ret
  exact ⟨rfl, hb1⟩
theorem areAllC_any (K : Nat) (c0 : Value) (p : Int → Bool) (ao : Option Addr) (n cap : Nat) (L : List Int) (w : World) (hr : RdI w ao L) (hn : L.length = n) (hm : n ≤ maxLen) (hK : Enters K)
    (hf : ∀ (x : Int) (W : World), x ∈ L → Below w.heap.size w W → Calls Tryz.prog K #[.int .i64 x, c0] W fun e w' => e = .returned (.bool (p x)) ∧ Below W.heap.size W w') :
    Calls Tryz.prog 86 #[.slice ao n cap, .func (.func K) #[] #[c0]] w fun e w' => e = .returned (.bool (L.all p)) ∧ Below w.heap.size w w' := by
  have hmf : ∀ (fn : Fn) (first cap : Array Value) (w : World), (Instr.makeFunc fn first cap).run Tryz.prog w = .ok (.func fn first cap) w := fun _ _ _ _ => rfl
  have hT : ∀ t : TypeId, Tells 106 (.pointer (some ⟨w.heap.size, 0, none⟩)) (fun x => !p x) L (w.alloc (.cells #[.func (.func K) #[] #[c0]] t)) := by
    intro t x W hx hbW
    have hs := hbW.size
    rw [heapAlloc] at hs
    refine areAllFnC K c0 (p x) x w.heap.size W hK ?_ (hf x W hx (belowThen (Go.Joins.below_alloc1 _ _) hbW))
    rw [hbW.cell (p := ⟨w.heap.size, 0, none⟩) (by simp)]
    exact World.cell?_alloc_at _ _ _ _ rfl
  have HT := Lib.hid hT
  have hany : (!L.any fun x => !p x) = L.all p := by rw [List.all_eq_not_any_not]
  have HA := Lib.hid hany
  clear hT hf hany
  have hA1 := @cellAlloc; have hA2 := @frozenAlloc; have hA3 := @setCellAlloc; go_enter Tryz.func86, Tryz.ntmps86
  go_wp2_with (go_at_call 80; refine (ContainsFunc_any _ _ _ _ _ _ L _ (RdI_below hr (Go.Joins.below_alloc1 _ _)) hn hm (HT.out _) enters_all).mono ?_; rintro e w1 ⟨rfl, hb1⟩)
  go_ret
  exact ⟨ret_bool HA.out, belowThen (Go.Joins.below_alloc1 _ _) hb1⟩
theorem enters_cell : Enters 59 := fun _ _ => by simp [go_sem, Tryz.func59]
theorem IsRow_any (ao : Option Addr) (n cap : Nat) (L : List Int) (w : World) (hr : RdI w ao L) (hn : L.length = n) (hm : n ≤ maxLen) :
    Calls Tryz.prog 85 #[.slice ao n cap] w fun e w' => e = .returned (.bool (rowB L)) ∧ Below w.heap.size w w' := by
  unfold rowB
  have HA := Lib.hid (areAllN_any 59 (inB 0 127) ao n cap L w hr hn hm enters_cell (fun x W _ _ => (IsCell_any x W).mono fun e w' h => ⟨h.1, by rw [← h.2]; exact Below.refl _ _⟩))
  generalize L.all (inB 0 127) = q at HA ⊢
  rw [hn]
  clear hr hn
  by_cases h6 : n ≤ 6
  · have hd : decide ((n : Int) ≤ 6) = true := by simp; omega
    rw [decide_eq_true h6, Bool.true_and]
    go_enter Tryz.func85, Tryz.ntmps85
    go_wp2_with (first | (go_at_call 86; refine HA.out.mono ?_; rintro e w1 ⟨rfl, hb1⟩))
    go_ret
    exact ⟨rfl, hb1⟩
  · have hd : decide ((n : Int) ≤ 6) = false := by simp; omega
    rw [decide_eq_false h6, Bool.false_and]
    go_enter Tryz.func85, Tryz.ntmps85
    go_wp2_with (first | (go_at_call 86; refine HA.out.mono ?_; rintro e w1 ⟨rfl, hb1⟩))
    go_ret
    exact ⟨rfl, Below.refl _ _⟩
end Go.Proofs.YtcddfpbohejhhaaGreat

namespace Go.Proofs.YtcddfpbohejhhaaGreat
open Go.RowKit

/-- The goal and the row are valid, and all cells are on the way. -/
def goodRow (R L : List Int) (m : Nat) : Bool := (orderB L && decide (0 < m)) && rowB R && R.all (fun c => wayB c L)
theorem goodRow_dig {R L : List Int} {m : Nat} (h : goodRow R L m = true) : allDig L := orderB_dig (by unfold goodRow at h; simp only [Bool.and_eq_true] at h; exact h.1.1.1)
theorem goodRow_row {R L : List Int} {m : Nat} (h : goodRow R L m = true) : rowB R = true := by unfold goodRow at h; simp only [Bool.and_eq_true] at h; exact h.1.2
theorem goodRow_mem {R L : List Int} {m : Nat} (h : goodRow R L m = true) : ∀ x ∈ R, inB 0 127 x = true ∧ wayB x L = true := by
  intro x hx
  have h1 := goodRow_row h
  unfold goodRow at h
  unfold rowB at h1
  simp only [Bool.and_eq_true, List.all_eq_true] at h h1
  exact ⟨h1.2 x hx, h.2 x hx⟩
set_option maxHeartbeats 800000 in
theorem l11Row_any (ao : Option Addr) (n cap : Nat) (R : List Int) (bo : Option Addr) (m capL : Nat) (L : List Int) (w : World) (hr : RdI w ao R) (hn : R.length = n) (hm : n ≤ maxLen) (_ : n ≤ cap) (hrL : RdI w bo L) (hnL : L.length = m) (hmL : m ≤ maxLen) (hcapL : m ≤ capL) :
    Calls Tryz.prog 56 #[.slice ao n cap, .slice bo m capL] w fun e w' => e = .returned (.bool (goodRow R L m)) ∧ Below w.heap.size w w' := by
  obtain ⟨res, hres⟩ : ∃ res, goodRow R L m = res := ⟨_, rfl⟩
  rw [hres]
  unfold goodRow at hres
  have HG := Lib.hid (fun W h => l11Goal_any bo m capL L W h hnL hmL hcapL)
  have hD := orderB_dig (L := L)
  have HRow := Lib.hid (fun W h => l2Row_any ao n cap R W h hn hm)
  have hat := rowB_at (L := R)
  have hln := rowB_len (L := R)
  have HN := Lib.hid hn
  have HNL := Lib.hid hnL
  rw [hn] at hat hln
  generalize hg : (orderB L && decide (0 < m)) = g at hres HG
  generalize rowB R = q at hres HRow hat hln
  clear hn hnL
  rcases g with _ | _
  · rw [Bool.false_and, Bool.false_and] at hres
    subst hres
    clear hat hln hD hg
    go_enter Tryz.func56, Tryz.ntmps56
    go_wp2_with (first | (go_at_call 69; refine (HG.out _ hrL).mono ?_; rintro e w1 ⟨rfl, hb1⟩))
    go_ret
    exact ⟨rfl, hb1⟩
  · have hD2 : allDig L := hD (by simp only [Bool.and_eq_true] at hg; exact hg.1)
    have HD := Lib.hid hD2
    clear hD hD2 hg
    rcases q with _ | _
    · rw [Bool.true_and, Bool.false_and] at hres
      subst hres
      clear hat hln
      go_enter Tryz.func56, Tryz.ntmps56
      go_wp2_with (first | (go_at_call 69; refine (HG.out _ hrL).mono ?_; rintro e w1 ⟨rfl, hb1⟩) | (go_at_call 91; refine (HRow.out _ (RdI_below hr hb1)).mono ?_; rintro e w' ⟨rfl, rfl⟩))
      go_ret
      exact ⟨rfl, hb1⟩
    · rw [Bool.true_and, Bool.true_and] at hres
      have HRes := Lib.hid hres
      have HAt := Lib.hid (hat rfl)
      have hn6 := hln rfl
      clear hat hln hres
      go_enter Tryz.func56, Tryz.ntmps56
      go_wp2_with (first | (go_at_call 69; refine (HG.out _ hrL).mono ?_; rintro e w1 ⟨rfl, hb1⟩) | (go_at_call 91; refine (HRow.out _ (RdI_below hr hb1)).mono ?_; rintro e w' ⟨rfl, rfl⟩))
      go_loopw [5] (fun i wr => ∃ k : Nat, k ≤ n ∧ i = .int .i64 k ∧ Hid ((R.take k).all (fun c => wayB c L) = true) ∧ Below w.heap.size w wr) (fun i _ => n - (intOf i).toNat)
      case atStart => exact ⟨0, by omega, rfl, rfl, hb1⟩
      case round =>
        obtain ⟨k, hk, rfl, hall, hbw⟩ := hrel
        by_cases hlt : k < n
        · rcases RdI_below hr hbw with h | ⟨b1, o1, rfl, hb1', hc1⟩
          · have := HN.out; rw [h] at this; simp at this; omega
          have hx := hc1 k (by rw [HN.out]; omega)
          have hsucc := all_take_succ (fun c => wayB c L) R k (by rw [HN.out]; omega)
          have hbad := all_bad (fun c => wayB c L) R k (by rw [HN.out]; omega)
          have hin := HAt.out k hlt
          generalize R.getD k 0 = y at hx hsucc hbad hin
          have HW := Lib.hid (fun W h => l11Way_any y hin bo m capL L W h HNL.out hmL HD.out)
          generalize wayB y L = t at hsucc hbad HW
          clear hc1 hin
          rcases t with _ | _
          · have h2 := HRes.out
            rw [hbad rfl] at h2
            subst h2
            clear hbad hsucc
            go_wp2_with (first | (go_at_call 33; refine (HW.out _ (RdI_below hrL hbw)).mono ?_; rintro e w2 ⟨rfl, hb2⟩))
            go_ret
            exact ⟨rfl, belowThen hbw hb2⟩
          · have HS := Lib.hid hsucc
            clear hbad hsucc
            go_wp2_with (first | (go_at_call 33; refine (HW.out _ (RdI_below hrL hbw)).mono ?_; rintro e w2 ⟨rfl, hb2⟩))
            go_roundw
            case rel => exact ⟨k + 1, by omega, by go_num, (by show _ = _; rw [HS.out, hall.out]; rfl), belowThen hbw hb2⟩
            case measure => simp [intOf]; omega
        · have hkn : k = n := by omega
          subst hkn
          have hall' := hall.out
          rw [List.take_of_length_le (by rw [HN.out]; omega)] at hall'
          have h2 := HRes.out
          rw [hall'] at h2
          subst h2
          clear hall hall'
          go_wp2
          go_ret
          exact ⟨rfl, hbw⟩
theorem enters_rowWay : Enters 87 := fun _ _ => by simp [go_sem, Tryz.func87]
theorem rowWayFn_any (c : Int) (b : Nat) (bo : Option Addr) (m capL : Nat) (L : List Int) (w : World) (hb : b < w.heap.size) (hcell : w.cell? ⟨b, 0, none⟩ = some (.slice bo m capL)) (hrL : RdI w bo L) (hnL : L.length = m) (hmL : m ≤ maxLen) (hD : allDig L) :
    Calls Tryz.prog 87 #[.int .i64 c, .pointer (some ⟨b, 0, none⟩)] w fun e w' => e = .returned (.bool (wayB c L)) ∧ Below w.heap.size w w' := by
  have HW := Lib.hid (isOnWay_any c bo m capL L w hrL hnL hmL hD)
  clear hrL hnL hD
  have hA1 := @cellAlloc; have hA2 := @frozenAlloc; have hA3 := @setCellAlloc; go_enter Tryz.func87, Tryz.ntmps87
  go_wp2_with (first | (go_at_call 79; refine HW.out.mono ?_; rintro e w2 ⟨rfl, hb2⟩))
  go_ret
  exact ⟨rfl, hb2⟩
set_option maxHeartbeats 800000 in
theorem isPlayableRow_any (ao : Option Addr) (n cap : Nat) (R : List Int) (bo : Option Addr) (m capL : Nat) (L : List Int) (w : World) (hr : RdI w ao R) (hn : R.length = n) (hm : n ≤ maxLen) (_ : n ≤ cap) (hrL : RdI w bo L) (hnL : L.length = m) (hmL : m ≤ maxLen) (hcapL : m ≤ capL) :
    Calls Tryz.prog 51 #[.slice ao n cap, .slice bo m capL] w fun e w' => e = .returned (.bool (goodRow R L m)) ∧ Below w.heap.size w w' := by
  have hmf : ∀ (fn : Fn) (first cap : Array Value) (w : World), (Instr.makeFunc fn first cap).run Tryz.prog w = .ok (.func fn first cap) w := fun _ _ _ _ => rfl
  obtain ⟨res, hres⟩ : ∃ res, goodRow R L m = res := ⟨_, rfl⟩
  rw [hres]
  unfold goodRow at hres
  have HG := Lib.hid (fun W h => IsGoalI_any bo m capL L W h hnL hmL hcapL)
  have hD := orderB_dig (L := L)
  have HRow := Lib.hid (fun W h => IsRow_any ao n cap R W h hn hm)
  have HN := Lib.hid hn
  have HNL := Lib.hid hnL
  generalize hg : (orderB L && decide (0 < m)) = g at hres HG
  generalize rowB R = q at hres HRow
  have hr0 : ∀ t, RdI (w.alloc (.cells #[.slice bo m capL] t)) ao R := fun t => RdI_below hr (Go.Joins.below_alloc1 _ _)
  have hrL0 : ∀ t, RdI (w.alloc (.cells #[.slice bo m capL] t)) bo L := fun t => RdI_below hrL (Go.Joins.below_alloc1 _ _)
  clear hn hnL hr hrL
  rcases g with _ | _
  · rw [Bool.false_and, Bool.false_and] at hres
    subst hres
    clear hD hg
    have hA1 := @cellAlloc; have hA2 := @frozenAlloc; have hA3 := @setCellAlloc; go_enter Tryz.func51, Tryz.ntmps51
    go_wp2_with (first | (go_at_call 78; refine (HG.out _ (hrL0 _)).mono ?_; rintro e w' ⟨rfl, rfl⟩))
    go_ret
    exact ⟨rfl, Go.Joins.below_alloc1 _ _⟩
  · have hD2 : allDig L := hD (by simp only [Bool.and_eq_true] at hg; exact hg.1)
    have HD := Lib.hid hD2
    clear hD hD2 hg
    rcases q with _ | _
    · rw [Bool.true_and, Bool.false_and] at hres
      subst hres
      have hA1 := @cellAlloc; have hA2 := @frozenAlloc; have hA3 := @setCellAlloc; go_enter Tryz.func51, Tryz.ntmps51
      go_wp2_with (first | (go_at_call 78; refine (HG.out _ (hrL0 _)).mono ?_; rintro e w' ⟨rfl, rfl⟩) | (go_at_call 85; refine (HRow.out _ (hr0 _)).mono ?_; rintro e w1 ⟨rfl, hb1⟩))
      go_ret
      exact ⟨rfl, belowThen (Go.Joins.below_alloc1 _ _) hb1⟩
    · rw [Bool.true_and, Bool.true_and] at hres
      subst hres
      have hF : ∀ (t : TypeId) (w1 : World), Below (w.alloc (.cells #[.slice bo m capL] t)).heap.size (w.alloc (.cells #[.slice bo m capL] t)) w1 → ∀ (x : Int) (W : World), x ∈ R → Below w1.heap.size w1 W → Calls Tryz.prog 87 #[.int .i64 x, .pointer (some ⟨w.heap.size, 0, none⟩)] W fun e w' => e = .returned (.bool (wayB x L)) ∧ Below W.heap.size W w' := by
        intro t w1 h1 x W _ h2
        have h3 := belowThen h1 h2
        have hs := h3.size
        rw [heapAlloc] at hs
        exact rowWayFn_any x w.heap.size bo m capL L W (by omega) ((h3.cell (p := ⟨w.heap.size, 0, none⟩) (by simp)).trans (World.cell?_alloc_at _ _ _ _ rfl)) (RdI_below (hrL0 t) h3) HNL.out hmL HD.out
      have HF := Lib.hid hF
      clear hF
      have hA1 := @cellAlloc; have hA2 := @frozenAlloc; have hA3 := @setCellAlloc; go_enter Tryz.func51, Tryz.ntmps51
      go_wp2_with (first | (go_at_call 78; refine (HG.out _ (hrL0 _)).mono ?_; rintro e w' ⟨rfl, rfl⟩) | (go_at_call 85; refine (HRow.out _ (hr0 _)).mono ?_; rintro e w1 ⟨rfl, hb1⟩) | (go_at_call 86; refine (areAllC_any 87 (.pointer (some ⟨w.heap.size, 0, none⟩)) (fun c => wayB c L) _ _ _ R _ (RdI_below (hr0 _) hb1) HN.out hm enters_rowWay (HF.out _ w1 hb1)).mono ?_; rintro e w2 ⟨rfl, hb2⟩))
      go_ret
      exact ⟨rfl, belowThen (Go.Joins.below_alloc1 _ _) (belowThen hb1 hb2)⟩
/-- The number of a cell. -/
def numC (L : List Int) (c : Int) : Nat := (valC L knF c.toNat).num
theorem numC_lt (L : List Int) (c : Int) (h : inB 0 127 c = true) : numC L c < 8 := by
  rw [inB_iff] at h
  have := known_num_le L c.toNat (by omega)
  unfold numC; omega
/-- The exclusive or of the numbers of the first k cells. -/
def nimP (L R : List Int) (k : Nat) : Nat := (R.take k).foldl (fun s c => s ^^^ numC L c) 0
def nimN (L R : List Int) : Nat := nimP L R R.length
theorem nimP_succ (L R : List Int) (k : Nat) (h : k < R.length) : nimP L R (k + 1) = nimP L R k ^^^ numC L (R.getD k 0) := by
  unfold nimP
  rw [List.take_add_one, List.getElem?_eq_getElem h, List.foldl_append, List.getD_eq_getElem?_getD, List.getElem?_eq_getElem h]
  rfl
theorem nimP_lt (L R : List Int) (hR : ∀ x ∈ R, inB 0 127 x = true) (k : Nat) : nimP L R k < 8 := by
  unfold nimP
  have : ∀ (l : List Int) (s : Nat), (∀ x ∈ l, inB 0 127 x = true) → s < 8 → l.foldl (fun s c => s ^^^ numC L c) s < 8 := by
    intro l
    induction l with
    | nil => intro s _ hs; exact hs
    | cons a l ih => intro s hl hs; exact ih _ (fun x hx => hl x (List.mem_cons_of_mem _ hx)) (Nat.xor_lt_two_pow (n := 3) hs (numC_lt L a (hl a List.mem_cons_self)))
  exact this _ 0 (fun x hx => hR x (List.mem_of_mem_take hx)) (by decide)
theorem memGetD {R : List Int} {k : Nat} (h : k < R.length) : R.getD k 0 ∈ R := by
  have e : R.getD k 0 = R[k] := by rw [List.getD_eq_getElem?_getD, List.getElem?_eq_getElem h]; rfl
  rw [e]; exact List.getElem_mem _
set_option maxHeartbeats 400000 in
theorem l11Sum_any (ao : Option Addr) (n cap : Nat) (R L : List Int) (g : Nat) (w : World) (hr : RdI w ao R) (hn : R.length = n) (hm : n ≤ maxLen) (hR : ∀ x ∈ R, inB 0 127 x = true) (hall : AllOwn w g L) :
    Calls Tryz.prog 72 #[.slice ao n cap, .slice (some ⟨g, 0, none⟩) 128 128] w fun e w' => e = .returned (.int .i64 (nimN L R)) ∧ w = w' := by
  unfold maxLen at hm
  have HN := Lib.hid hn
  have HR := Lib.hid hR
  clear hR
  go_enter Tryz.func72, Tryz.ntmps72
  go_wp2
  go_loop [5, 6] (fun s i => ∃ k : Nat, k ≤ n ∧ i = .int .i64 k ∧ s = .int .i64 (nimP L R k)) (fun _ i => n - (intOf i).toNat)
  case atStart => exact ⟨0, by omega, rfl, rfl⟩
  case round =>
    obtain ⟨k, hk, rfl, rfl⟩ := hrel
    by_cases hlt : k < n
    · rcases hr with h | ⟨b1, o1, rfl, hb1, hc1⟩
      · rw [h] at hn; simp at hn; omega
      have hx := hc1 k (by omega)
      have hlt8 := nimP_lt L R HR.out k
      have hsucc := nimP_succ L R k (by omega)
      have hin := HR.out _ (memGetD (show k < R.length by omega))
      have hn8 := numC_lt L _ hin
      generalize R.getD k 0 = y at hx hsucc hin hn8
      rw [inB_iff] at hin
      obtain ⟨C, rfl⟩ := Int.eq_ofNat_of_zero_le hin.1
      have hC : C < 128 := by omega
      have hy := (AllOwn_at hall C hC).1
      have e : (valC L knF C).num = numC L (C : Int) := rfl
      rw [e] at hy
      generalize numC L (C : Int) = v at hy hsucc hn8
      generalize nimP L R k = s at hlt8 hsucc ⊢
      have hxx := xor64 s v (by omega) (by omega)
      have HS := Lib.hid hsucc
      clear hsucc hc1 e hn hall
      go_wp2
      go_round
      case rel => exact ⟨k + 1, by omega, by go_num, by rw [HS.out]⟩
      case measure => simp [intOf]; omega
    · have hkn : k = n := by omega
      subst hkn
      have e : nimN L R = nimP L R k := by unfold nimN; rw [hn]
      have HE := Lib.hid e
      clear e hn
      go_wp2
      go_ret
      exact ⟨by rw [HE.out]; rfl, rfl⟩
theorem enters_least : Enters 53 := fun _ _ => by simp [go_sem, Tryz.func53]
/-- What the program's table gives at a key. -/
def tabF (L : List Int) (k : Int) : Value := if 0 ≤ k ∧ k < 128 ∧ wayB k L = true then Value.int .i64 (valC L mexI k.toNat) else (.int .i64 0)
theorem tabF_at {L : List Int} {c : Int} (h1 : inB 0 127 c = true) (h2 : wayB c L = true) : tabF L c = .int .i64 (numC L c) := by
  rw [inB_iff] at h1
  unfold tabF numC
  rw [if_pos ⟨by omega, by omega, h2⟩, known_num L c.toNat (by omega)]
set_option maxRecDepth 100000 in
set_option maxHeartbeats 400000 in
theorem nim_any (ao : Option Addr) (n cap : Nat) (R L : List Int) (b nn : Nat) (w : World) (hr : RdI w ao R) (hn : R.length = n) (hm : n ≤ maxLen) (hR : ∀ x ∈ R, inB 0 127 x = true ∧ wayB x L = true) (hmap : mapV w b nn (.int .i64 0) (tabF L)) :
    Calls Tryz.prog 58 #[.slice ao n cap, .map (some b)] w fun e w' => e = .returned (.int .i64 (nimN L R)) ∧ w = w' := by
  unfold maxLen at hm
  have HN := Lib.hid hn
  have HR := Lib.hid hR
  clear hR
  go_enter Tryz.func58, Tryz.ntmps58
  go_wp2
  go_loop [5, 10] (fun s i => ∃ k : Nat, k ≤ n ∧ i = .int .i64 k ∧ s = .int .i64 (nimP L R k)) (fun _ i => n - (intOf i).toNat)
  case atStart => exact ⟨0, by omega, rfl, rfl⟩
  case round =>
    obtain ⟨k, hk, rfl, rfl⟩ := hrel
    by_cases hlt : k < n
    · rcases hr with h | ⟨b1, o1, rfl, hb1, hc1⟩
      · rw [h] at hn; simp at hn; omega
      have hx := hc1 k (by omega)
      have hlt8 := nimP_lt L R (fun x hx => (HR.out x hx).1) k
      have hsucc := nimP_succ L R k (by omega)
      have hin := HR.out _ (memGetD (show k < R.length by omega))
      generalize R.getD k 0 = y at hx hsucc hin
      have hn8 := numC_lt L y hin.1
      have hf := tabF_at hin.1 hin.2
      have hin1 := hin.1
      rw [inB_iff] at hin1
      obtain ⟨C, rfl⟩ := Int.eq_ofNat_of_zero_le hin1.1
      have hC : C < 128 := by omega
      generalize numC L (C : Int) = v at hf hsucc hn8
      generalize nimP L R k = s at hlt8 hsucc ⊢
      have hxx := xor64 s v (by omega) (by omega)
      have HS := Lib.hid hsucc
      have HFx := Lib.hid hf
      clear hsucc hc1 hn hf hin hin1
      go_wp2_with (at_lookup; refine wpLookVI _ (by rfl) _ _ _ (by rfl) _ (Tryz.underlying61) _ (by rfl) b _ _ (by rfl) hmap (C : Int) (by rfl) (wf128 C hC) (Value.int .i64 v) HFx.out ?_)
      go_round
      case rel => exact ⟨k + 1, by omega, by go_num, by rw [HS.out]⟩
      case measure => simp [intOf]; omega
    · have hkn : k = n := by omega
      subst hkn
      have e : nimN L R = nimP L R k := by unfold nimN; rw [hn]
      have HE := Lib.hid e
      clear e hn
      go_wp2
      go_ret
      exact ⟨by rw [HE.out]; rfl, rfl⟩
end Go.Proofs.YtcddfpbohejhhaaGreat

namespace Go.Proofs.YtcddfpbohejhhaaGreat
open Go.RowKit

/-- The first j numbers are marked: k0, k0 + 1 .. -/
def marksP (k0 : Int) (L : List Int) (j : Nat) : List Int := ((List.range j).map fun (i : Nat) => k0 + (i : Int)) ++ L.drop j
/-- A marked list. -/
def marksL (k0 : Int) (n : Nat) : List Int := (List.range n).map fun (i : Nat) => k0 + (i : Int)
theorem marksP_length (k0 : Int) (L : List Int) (j : Nat) (hj : j ≤ L.length) : (marksP k0 L j).length = L.length := by
  simp [marksP]; omega
theorem marksP_all (k0 : Int) (L : List Int) : marksP k0 L L.length = marksL k0 L.length := by simp [marksP, marksL]
theorem marksP_succ (k0 : Int) (L : List Int) (j : Nat) (hj : j < L.length) : (marksP k0 L j).set j (k0 + (j : Int)) = marksP k0 L (j + 1) := by
  apply List.ext_getElem?
  intro i
  have h1 : ((List.range j).map fun (i : Nat) => k0 + (i : Int)).length = j := by simp
  have h2 : ((List.range (j + 1)).map fun (i : Nat) => k0 + (i : Int)).length = j + 1 := by simp
  simp only [marksP, List.getElem?_set, List.length_append, h1, List.length_drop]
  by_cases hij : j = i
  · subst hij
    rw [if_pos rfl, if_pos (by omega), List.getElem?_append_left (by omega)]
    simp
  · rw [if_neg hij]
    by_cases hlt : i < j
    · rw [List.getElem?_append_left (by omega), List.getElem?_append_left (by omega)]
      simp [hlt, show i < j + 1 by omega]
    · rw [List.getElem?_append_right (by omega), List.getElem?_append_right (by omega), h1, h2]
      simp only [List.getElem?_drop]
      congr 1
      omega
theorem marksL_getD (k0 : Int) (n j : Nat) (hj : j < n) : (marksL k0 n).getD j 0 = k0 + (j : Int) := by
  simp [marksL, hj]
theorem marksL_length (k0 : Int) (n : Nat) : (marksL k0 n).length = n := by simp [marksL]
/-- One number of an owned row is written. -/
theorem ownsInts_set {w : World} {B g n cap : Nat} {L : List Int} (h : ownsInts w B (.slice (some ⟨g, 0, none⟩) n cap) L) (hn : L.length = n) (j : Nat) (z : Int) :
    ownsInts (w.setCell ⟨g, j, none⟩ (.int .i64 z)) B (.slice (some ⟨g, 0, none⟩) n cap) (L.set j z) := by
  subst hn
  rcases h with h | ⟨h0, h1, a, h2⟩
  · have := (World.ownsRow.stored h j (.int .i64 z)).1
    refine .inl ?_
    simpa [List.map_set] using this
  · have : L = [] := List.eq_nil_of_length_eq_zero h0
    subst this
    exact .inr ⟨rfl, rfl, a, h2⟩
end Go.Proofs.YtcddfpbohejhhaaGreat
