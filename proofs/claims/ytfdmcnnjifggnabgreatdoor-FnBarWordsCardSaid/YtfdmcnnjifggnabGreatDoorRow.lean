/- Contracts of the functions that tell whether a list is a row, and of the search for one element that is not as told. -/
import Derived.Test.YtfdmcnnjifggnabGreatDoorFindF
import Derived.Test.YtfdmcnnjifggnabGreatDoorCell
import Derived.Lib.Hide
import Derived.Deep.QuietTactic
import Derived.BigQuiet
namespace Go.Proofs.YtfdmcnnjifggnabGreatDoor
open Go.RowKit

/-- The list is a row. -/
def rowB (L : List Int) : Bool := decide (L.length ≤ 6) && L.all (inB 0 127)
theorem all_take_succ (p : Int → Bool) (L : List Int) (k : Nat) (h : k < L.length) : (L.take (k + 1)).all p = ((L.take k).all p && p (L.getD k 0)) := by
  rw [List.take_add_one, List.getElem?_eq_getElem h, List.all_append, List.getD_eq_getElem?_getD, List.getElem?_eq_getElem h]
  simp
theorem all_bad (p : Int → Bool) (L : List Int) (k : Nat) (h : k < L.length) (hp : p (L.getD k 0) = false) : L.all p = false := by
  rw [List.all_eq_false]
  refine ⟨L[k], List.getElem_mem _, ?_⟩
  have e : L.getD k 0 = L[k] := by rw [List.getD_eq_getElem?_getD, List.getElem?_eq_getElem h]; rfl
  rw [← e, hp]; decide
theorem rowB_len {L : List Int} (h : rowB L = true) : L.length ≤ 6 := by
  unfold rowB at h; simp only [Bool.and_eq_true, decide_eq_true_eq] at h; exact h.1
theorem rowB_at {L : List Int} (h : rowB L = true) (k : Nat) (hk : k < L.length) : inB 0 127 (L.getD k 0) = true := by
  unfold rowB at h; simp only [Bool.and_eq_true, decide_eq_true_eq] at h
  cases hp : inB 0 127 (L.getD k 0) with
  | true => rfl
  | false => have := all_bad _ L k hk hp; rw [this] at h; exact absurd h.2 (by decide)
set_option maxHeartbeats 400000 in
theorem l2Row_any (ao : Option Addr) (n cap : Nat) (L : List Int) (w : World) (hr : RdI w ao L) (hn : L.length = n) (hm : n ≤ maxLen) :
    Calls Tryz.prog 42 #[.slice ao n cap] w fun e w' => e = .returned (.bool (rowB L)) ∧ w = w' := by
  unfold maxLen at hm
  have HN := Lib.hid hn
  go_enter Tryz.func42, Tryz.ntmps42
  go_wp2
  go_loop [3] (fun i => ∃ k : Nat, k ≤ n ∧ k ≤ 7 ∧ i = .int .i64 k ∧ Hid ((L.take k).all (inB 0 127) = true)) (fun i => n - (intOf i).toNat)
  case atStart => exact ⟨0, by omega, by omega, rfl, rfl⟩
  case round =>
    obtain ⟨k, hk, hk7, rfl, hall⟩ := hrel
    by_cases hlt : k < n
    · by_cases h6 : k ≤ 6
      · rcases hr with h | ⟨b1, o1, rfl, hb1, hc1⟩
        · rw [h] at hn; simp at hn; omega
        have hx := hc1 k (by omega)
        have hsucc := all_take_succ (inB 0 127) L k (by omega)
        have hbad := all_bad (inB 0 127) L k (by omega)
        generalize L.getD k 0 = y at hx hsucc hbad
        generalize hq : inB 0 127 y = q at hsucc hbad
        have HQ := Lib.hid hq
        clear hq hc1 hn
        rcases q with _ | _
        · have hres : rowB L = false := by unfold rowB; rw [hbad rfl, Bool.and_false]
          have HR := Lib.hid hres
          clear hres hbad hsucc
          go_wp2_with (first | (go_at_call 77; refine (l2Cell_any _ _).mono ?_; rw [HQ.out]; rintro e w' ⟨rfl, rfl⟩))
          go_ret
          exact ⟨ret_bool HR.out.symm, rfl⟩
        · have HS := Lib.hid hsucc
          clear hbad hsucc
          go_wp2_with (first | (go_at_call 77; refine (l2Cell_any _ _).mono ?_; rw [HQ.out]; rintro e w' ⟨rfl, rfl⟩))
          go_round
          case rel => exact ⟨k + 1, by omega, by omega, by go_num, (by show _ = _; rw [HS.out, hall.out]; rfl)⟩
          case measure => simp [intOf]; omega
      · have hres : rowB L = false := by unfold rowB; rw [decide_eq_false (by omega), Bool.false_and]
        have hd : decide ((n : Int) ≤ 6) = false := by simp; omega
        have HR := Lib.hid hres
        clear hres hn hall hr
        go_wp2
        go_ret
        exact ⟨ret_bool (by rw [HR.out]; try (first | (simp; done) | (simp; omega))), rfl⟩
    · have hkn : k = n := by omega
      subst hkn
      have hall' := hall.out
      rw [List.take_of_length_le (by omega)] at hall'
      have hres : rowB L = decide (k ≤ 6) := by unfold rowB; rw [hall', Bool.and_true, hn]
      have HR := Lib.hid hres
      clear hres hn hall hr hall'
      go_wp2
      go_ret
      exact ⟨ret_bool (by rw [HR.out]; try (first | (simp; done) | (simp; omega))), rfl⟩
theorem enters_all : Enters 102 := fun _ _ => by simp [go_sem, Tryz.func102]
set_option maxRecDepth 100000 in
theorem areAllFnN (K : Nat) (q : Bool) (x : Int) (b : Nat) (w : World) (hK : Enters K) (hcell : w.cell? ⟨b, 0, none⟩ = some (.func (.func K) #[] #[]))
    (hc : Calls Tryz.prog K #[.int .i64 x] w fun e w' => e = .returned (.bool q) ∧ Below w.heap.size w w') :
    Calls Tryz.prog 102 #[.int .i64 x, .pointer (some ⟨b, 0, none⟩)] w fun e w' => e = .returned (.bool (!q)) ∧ Below w.heap.size w w' := by
  have HC := Lib.hid hc
  clear hc
  unfold Enters at hK
  go_enter Tryz.func102, Tryz.ntmps102
  go_wp2_with fail
  refine HC.out.mono ?_
  rintro e w1 ⟨rfl, hb1⟩
  go_wp2
  go_ret
  exact ⟨rfl, hb1⟩
theorem areAllN_any (K : Nat) (p : Int → Bool) (ao : Option Addr) (n cap : Nat) (L : List Int) (w : World) (hr : RdI w ao L) (hn : L.length = n) (hm : n ≤ maxLen) (hK : Enters K)
    (hf : ∀ (x : Int) (W : World), x ∈ L → Below w.heap.size w W → Calls Tryz.prog K #[.int .i64 x] W fun e w' => e = .returned (.bool (p x)) ∧ Below W.heap.size W w') :
    Calls Tryz.prog 75 #[.slice ao n cap, .func (.func K) #[] #[]] w fun e w' => e = .returned (.bool (L.all p)) ∧ Below w.heap.size w w' := by
  have hmf : ∀ (fn : Fn) (first cap : Array Value) (w : World), (Instr.makeFunc fn first cap).run Tryz.prog w = .ok (.func fn first cap) w := fun _ _ _ _ => rfl
  have hT : ∀ t : TypeId, Tells 102 (.pointer (some ⟨w.heap.size, 0, none⟩)) (fun x => !p x) L (w.alloc (.cells #[.func (.func K) #[] #[]] t)) := by
    intro t x W hx hbW
    have hs := hbW.size
    rw [heapAlloc] at hs
    refine areAllFnN K (p x) x w.heap.size W hK ?_ (hf x W hx (belowThen (Go.Joins.below_alloc1 _ _) hbW))
    rw [hbW.cell (p := ⟨w.heap.size, 0, none⟩) (by simp)]
    exact World.cell?_alloc_at _ _ _ _ rfl
  have HT := Lib.hid hT
  have hany : (!L.any fun x => !p x) = L.all p := by rw [List.all_eq_not_any_not]
  have HA := Lib.hid hany
  clear hT hf hany
  have hA1 := @cellAlloc; have hA2 := @frozenAlloc; have hA3 := @setCellAlloc; go_enter Tryz.func75, Tryz.ntmps75
  go_wp2_with (go_at_call 101; refine (ContainsFunc_any _ _ _ _ _ _ L _ (RdI_below hr (Go.Joins.below_alloc1 _ _)) hn hm (HT.out _) enters_all).mono ?_; rintro e w1 ⟨rfl, hb1⟩)
  go_ret
  exact ⟨ret_bool HA.out, belowThen (Go.Joins.below_alloc1 _ _) hb1⟩
set_option maxRecDepth 100000 in
theorem areAllFnC (K : Nat) (c0 : Value) (q : Bool) (x : Int) (b : Nat) (w : World) (hK : Enters K) (hcell : w.cell? ⟨b, 0, none⟩ = some (.func (.func K) #[] #[c0]))
    (hc : Calls Tryz.prog K #[.int .i64 x, c0] w fun e w' => e = .returned (.bool q) ∧ Below w.heap.size w w') :
    Calls Tryz.prog 102 #[.int .i64 x, .pointer (some ⟨b, 0, none⟩)] w fun e w' => e = .returned (.bool (!q)) ∧ Below w.heap.size w w' := by
  have HC := Lib.hid hc
  clear hc
  unfold Enters at hK
  go_enter Tryz.func102, Tryz.ntmps102
  go_wp2_with fail
  refine HC.out.mono ?_
  rintro e w1 ⟨rfl, hb1⟩
  go_wp2
  go_ret
  exact ⟨rfl, hb1⟩
theorem areAllC_any (K : Nat) (c0 : Value) (p : Int → Bool) (ao : Option Addr) (n cap : Nat) (L : List Int) (w : World) (hr : RdI w ao L) (hn : L.length = n) (hm : n ≤ maxLen) (hK : Enters K)
    (hf : ∀ (x : Int) (W : World), x ∈ L → Below w.heap.size w W → Calls Tryz.prog K #[.int .i64 x, c0] W fun e w' => e = .returned (.bool (p x)) ∧ Below W.heap.size W w') :
    Calls Tryz.prog 75 #[.slice ao n cap, .func (.func K) #[] #[c0]] w fun e w' => e = .returned (.bool (L.all p)) ∧ Below w.heap.size w w' := by
  have hmf : ∀ (fn : Fn) (first cap : Array Value) (w : World), (Instr.makeFunc fn first cap).run Tryz.prog w = .ok (.func fn first cap) w := fun _ _ _ _ => rfl
  have hT : ∀ t : TypeId, Tells 102 (.pointer (some ⟨w.heap.size, 0, none⟩)) (fun x => !p x) L (w.alloc (.cells #[.func (.func K) #[] #[c0]] t)) := by
    intro t x W hx hbW
    have hs := hbW.size
    rw [heapAlloc] at hs
    refine areAllFnC K c0 (p x) x w.heap.size W hK ?_ (hf x W hx (belowThen (Go.Joins.below_alloc1 _ _) hbW))
    rw [hbW.cell (p := ⟨w.heap.size, 0, none⟩) (by simp)]
    exact World.cell?_alloc_at _ _ _ _ rfl
  have HT := Lib.hid hT
  have hany : (!L.any fun x => !p x) = L.all p := by rw [List.all_eq_not_any_not]
  have HA := Lib.hid hany
  clear hT hf hany
  have hA1 := @cellAlloc; have hA2 := @frozenAlloc; have hA3 := @setCellAlloc; go_enter Tryz.func75, Tryz.ntmps75
  go_wp2_with (go_at_call 101; refine (ContainsFunc_any _ _ _ _ _ _ L _ (RdI_below hr (Go.Joins.below_alloc1 _ _)) hn hm (HT.out _) enters_all).mono ?_; rintro e w1 ⟨rfl, hb1⟩)
  go_ret
  exact ⟨ret_bool HA.out, belowThen (Go.Joins.below_alloc1 _ _) hb1⟩
theorem enters_cell : Enters 76 := fun _ _ => by simp [go_sem, Tryz.func76]
theorem IsRow_any (ao : Option Addr) (n cap : Nat) (L : List Int) (w : World) (hr : RdI w ao L) (hn : L.length = n) (hm : n ≤ maxLen) :
    Calls Tryz.prog 41 #[.slice ao n cap] w fun e w' => e = .returned (.bool (rowB L)) ∧ Below w.heap.size w w' := by
  unfold rowB
  have HA := Lib.hid (areAllN_any 76 (inB 0 127) ao n cap L w hr hn hm enters_cell (fun x W _ _ => (IsCell_any x W).mono fun e w' h => ⟨h.1, by rw [← h.2]; exact Below.refl _ _⟩))
  generalize L.all (inB 0 127) = q at HA ⊢
  rw [hn]
  clear hr hn
  by_cases h6 : n ≤ 6
  · have hd : decide ((n : Int) ≤ 6) = true := by simp; omega
    rw [decide_eq_true h6, Bool.true_and]
    go_enter Tryz.func41, Tryz.ntmps41
    go_wp2_with (first | (go_at_call 75; refine HA.out.mono ?_; rintro e w1 ⟨rfl, hb1⟩))
    go_ret
    exact ⟨rfl, hb1⟩
  · have hd : decide ((n : Int) ≤ 6) = false := by simp; omega
    rw [decide_eq_false h6, Bool.false_and]
    go_enter Tryz.func41, Tryz.ntmps41
    go_wp2_with (first | (go_at_call 75; refine HA.out.mono ?_; rintro e w1 ⟨rfl, hb1⟩))
    go_ret
    exact ⟨rfl, Below.refl _ _⟩
end Go.Proofs.YtfdmcnnjifggnabGreatDoor
