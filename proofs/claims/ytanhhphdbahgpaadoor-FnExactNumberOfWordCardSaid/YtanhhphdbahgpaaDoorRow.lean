/- Contracts of the functions that tell whether a list is a row, and of the search for one element that is not as told. -/
import Derived.Test.YtanhhphdbahgpaaDoorFindF
import Derived.Test.YtanhhphdbahgpaaDoorCell
import Derived.Lib.Hide
import Derived.Deep.QuietTactic
import Derived.BigQuiet
namespace Go.Proofs.YtanhhphdbahgpaaDoor
open Go.RowKit

/-- The list is a row. -/
def rowB (L : List Int) : Bool := decide (L.length ≤ 6) && L.all (inB 0 127)
theorem all_take_succ (p : Int → Bool) (L : List Int) (k : Nat) (h : k < L.length) : (L.take (k + 1)).all p = ((L.take k).all p && p (L.getD k 0)) := by
  rw [List.take_add_one, List.getElem?_eq_getElem h, List.all_append, List.getD_eq_getElem?_getD, List.getElem?_eq_getElem h]
  simp
theorem all_bad (p : Int → Bool) (L : List Int) (k : Nat) (h : k < L.length) (hp : p (L.getD k 0) = false) : L.all p = false := by
  rw [List.all_eq_false]
  refine ⟨L[k], List.getElem_mem _, ?_⟩
  have e : L.getD k 0 = L[k] := by rw [List.getD_eq_getElem?_getD, List.getElem?_eq_getElem h]; rfl
  rw [← e, hp]; decide
theorem rowB_len {L : List Int} (h : rowB L = true) : L.length ≤ 6 := by
  unfold rowB at h; simp only [Bool.and_eq_true, decide_eq_true_eq] at h; exact h.1
theorem rowB_at {L : List Int} (h : rowB L = true) (k : Nat) (hk : k < L.length) : inB 0 127 (L.getD k 0) = true := by
  unfold rowB at h; simp only [Bool.and_eq_true, decide_eq_true_eq] at h
  cases hp : inB 0 127 (L.getD k 0) with
  | true => rfl
  | false => have := all_bad _ L k hk hp; rw [this] at h; exact absurd h.2 (by decide)
theorem enters_all : Enters 55 := fun _ _ => by simp [go_sem, Tryd.func55]
set_option maxRecDepth 100000 in
theorem areAllFnN (K : Nat) (q : Bool) (x : Int) (b : Nat) (w : World) (hK : Enters K) (hcell : w.cell? ⟨b, 0, none⟩ = some (.func (.func K) #[] #[]))
    (hc : Calls Tryd.prog K #[.int .i64 x] w fun e w' => e = .returned (.bool q) ∧ Below w.heap.size w w') :
    Calls Tryd.prog 55 #[.int .i64 x, .pointer (some ⟨b, 0, none⟩)] w fun e w' => e = .returned (.bool (!q)) ∧ Below w.heap.size w w' := by
  have HC := Lib.hid hc
  clear hc
  unfold Enters at hK
  go_enter Tryd.func55, Tryd.ntmps55
  go_wp2_with fail
  refine HC.out.mono ?_
  rintro e w1 ⟨rfl, hb1⟩
  go_wp2
  go_ret
  exact ⟨rfl, hb1⟩
theorem areAllN_any (K : Nat) (p : Int → Bool) (ao : Option Addr) (n cap : Nat) (L : List Int) (w : World) (hr : RdI w ao L) (hn : L.length = n) (hm : n ≤ maxLen) (hK : Enters K)
    (hf : ∀ (x : Int) (W : World), x ∈ L → Below w.heap.size w W → Calls Tryd.prog K #[.int .i64 x] W fun e w' => e = .returned (.bool (p x)) ∧ Below W.heap.size W w') :
    Calls Tryd.prog 45 #[.slice ao n cap, .func (.func K) #[] #[]] w fun e w' => e = .returned (.bool (L.all p)) ∧ Below w.heap.size w w' := by
  have hmf : ∀ (fn : Fn) (first cap : Array Value) (w : World), (Instr.makeFunc fn first cap).run Tryd.prog w = .ok (.func fn first cap) w := fun _ _ _ _ => rfl
  have hT : ∀ t : TypeId, Tells 55 (.pointer (some ⟨w.heap.size, 0, none⟩)) (fun x => !p x) L (w.alloc (.cells #[.func (.func K) #[] #[]] t)) := by
    intro t x W hx hbW
    have hs := hbW.size
    rw [heapAlloc] at hs
    refine areAllFnN K (p x) x w.heap.size W hK ?_ (hf x W hx (belowThen (Go.Joins.below_alloc1 _ _) hbW))
    rw [hbW.cell (p := ⟨w.heap.size, 0, none⟩) (by simp)]
    exact World.cell?_alloc_at _ _ _ _ rfl
  have HT := Lib.hid hT
  have hany : (!L.any fun x => !p x) = L.all p := by rw [List.all_eq_not_any_not]
  have HA := Lib.hid hany
  clear hT hf hany
  have hA1 := @cellAlloc; have hA2 := @frozenAlloc; have hA3 := @setCellAlloc; go_enter Tryd.func45, Tryd.ntmps45
  go_wp2_with (go_at_call 54; refine (ContainsFunc_any _ _ _ _ _ _ L _ (RdI_below hr (Go.Joins.below_alloc1 _ _)) hn hm (HT.out _) enters_all).mono ?_; rintro e w1 ⟨rfl, hb1⟩)
  go_ret
  exact ⟨ret_bool HA.out, belowThen (Go.Joins.below_alloc1 _ _) hb1⟩
set_option maxRecDepth 100000 in
theorem areAllFnC (K : Nat) (c0 : Value) (q : Bool) (x : Int) (b : Nat) (w : World) (hK : Enters K) (hcell : w.cell? ⟨b, 0, none⟩ = some (.func (.func K) #[] #[c0]))
    (hc : Calls Tryd.prog K #[.int .i64 x, c0] w fun e w' => e = .returned (.bool q) ∧ Below w.heap.size w w') :
    Calls Tryd.prog 55 #[.int .i64 x, .pointer (some ⟨b, 0, none⟩)] w fun e w' => e = .returned (.bool (!q)) ∧ Below w.heap.size w w' := by
  have HC := Lib.hid hc
  clear hc
  unfold Enters at hK
  go_enter Tryd.func55, Tryd.ntmps55
  go_wp2_with fail
  refine HC.out.mono ?_
  rintro e w1 ⟨rfl, hb1⟩
  go_wp2
  go_ret
  exact ⟨rfl, hb1⟩
theorem areAllC_any (K : Nat) (c0 : Value) (p : Int → Bool) (ao : Option Addr) (n cap : Nat) (L : List Int) (w : World) (hr : RdI w ao L) (hn : L.length = n) (hm : n ≤ maxLen) (hK : Enters K)
    (hf : ∀ (x : Int) (W : World), x ∈ L → Below w.heap.size w W → Calls Tryd.prog K #[.int .i64 x, c0] W fun e w' => e = .returned (.bool (p x)) ∧ Below W.heap.size W w') :
    Calls Tryd.prog 45 #[.slice ao n cap, .func (.func K) #[] #[c0]] w fun e w' => e = .returned (.bool (L.all p)) ∧ Below w.heap.size w w' := by
  have hmf : ∀ (fn : Fn) (first cap : Array Value) (w : World), (Instr.makeFunc fn first cap).run Tryd.prog w = .ok (.func fn first cap) w := fun _ _ _ _ => rfl
  have hT : ∀ t : TypeId, Tells 55 (.pointer (some ⟨w.heap.size, 0, none⟩)) (fun x => !p x) L (w.alloc (.cells #[.func (.func K) #[] #[c0]] t)) := by
    intro t x W hx hbW
    have hs := hbW.size
    rw [heapAlloc] at hs
    refine areAllFnC K c0 (p x) x w.heap.size W hK ?_ (hf x W hx (belowThen (Go.Joins.below_alloc1 _ _) hbW))
    rw [hbW.cell (p := ⟨w.heap.size, 0, none⟩) (by simp)]
    exact World.cell?_alloc_at _ _ _ _ rfl
  have HT := Lib.hid hT
  have hany : (!L.any fun x => !p x) = L.all p := by rw [List.all_eq_not_any_not]
  have HA := Lib.hid hany
  clear hT hf hany
  have hA1 := @cellAlloc; have hA2 := @frozenAlloc; have hA3 := @setCellAlloc; go_enter Tryd.func45, Tryd.ntmps45
  go_wp2_with (go_at_call 54; refine (ContainsFunc_any _ _ _ _ _ _ L _ (RdI_below hr (Go.Joins.below_alloc1 _ _)) hn hm (HT.out _) enters_all).mono ?_; rintro e w1 ⟨rfl, hb1⟩)
  go_ret
  exact ⟨ret_bool HA.out, belowThen (Go.Joins.below_alloc1 _ _) hb1⟩
theorem enters_cell : Enters 46 := fun _ _ => by simp [go_sem, Tryd.func46]
theorem IsRow_any (ao : Option Addr) (n cap : Nat) (L : List Int) (w : World) (hr : RdI w ao L) (hn : L.length = n) (hm : n ≤ maxLen) :
    Calls Tryd.prog 31 #[.slice ao n cap] w fun e w' => e = .returned (.bool (rowB L)) ∧ Below w.heap.size w w' := by
  unfold rowB
  have HA := Lib.hid (areAllN_any 46 (inB 0 127) ao n cap L w hr hn hm enters_cell (fun x W _ _ => (IsCell_any x W).mono fun e w' h => ⟨h.1, by rw [← h.2]; exact Below.refl _ _⟩))
  generalize L.all (inB 0 127) = q at HA ⊢
  rw [hn]
  clear hr hn
  by_cases h6 : n ≤ 6
  · have hd : decide ((n : Int) ≤ 6) = true := by simp; omega
    rw [decide_eq_true h6, Bool.true_and]
    go_enter Tryd.func31, Tryd.ntmps31
    go_wp2_with (first | (go_at_call 45; refine HA.out.mono ?_; rintro e w1 ⟨rfl, hb1⟩))
    go_ret
    exact ⟨rfl, hb1⟩
  · have hd : decide ((n : Int) ≤ 6) = false := by simp; omega
    rw [decide_eq_false h6, Bool.false_and]
    go_enter Tryd.func31, Tryd.ntmps31
    go_wp2_with (first | (go_at_call 45; refine HA.out.mono ?_; rintro e w1 ⟨rfl, hb1⟩))
    go_ret
    exact ⟨rfl, Below.refl _ _⟩
end Go.Proofs.YtanhhphdbahgpaaDoor
