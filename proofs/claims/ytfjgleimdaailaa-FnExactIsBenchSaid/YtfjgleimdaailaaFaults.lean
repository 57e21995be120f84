/- Contracts of the program's search in a slice of Faults. -/
import Derived.Test.YtfjgleimdaailaaFault
import Derived.Test.YtfjgleimdaailaaFindF
import Derived.Test.YtfjgleimdaailaaRow
import Derived.Test.YtfjgleimdaailaaOwn
import Derived.Lib.Hide
namespace Go.Proofs.Ytfjgleimdaailaa
open Go.RowKit

/-- The first n Faults (their numbers F lie one behind the other) are Faults indeed. -/
def allF (F : List Int) (n : Nat) : Bool := (List.range n).all fun j => faultB (F.getD (j * 2) 0) (F.getD (j * 2 + 1) 0)
theorem allF_succ (F : List Int) (k : Nat) : allF F (k + 1) = (allF F k && faultB (F.getD (k * 2) 0) (F.getD (k * 2 + 1) 0)) := by simp [allF, List.range_succ]
theorem allF_bad (F : List Int) (k n : Nat) (h : k < n) (hb : faultB (F.getD (k * 2) 0) (F.getD (k * 2 + 1) 0) = false) : allF F n = false := by
  unfold allF
  rw [List.all_eq_false]
  exact ⟨k, List.mem_range.2 h, by rw [hb]; simp⟩
theorem enters_fault : Enters 46 := fun _ _ => by simp [go_sem, Try.func46]
theorem enters_allF : Enters 75 := fun _ _ => by simp [go_sem, Try.func75]
set_option maxRecDepth 100000 in
theorem areAllFn_F (d l : Int) (b : Nat) (w : World) (hcell : w.cell? ⟨b, 0, none⟩ = some (.func (.func 46) #[] #[])) :
    Calls Try.prog 75 #[.agg #[.int .i64 d, .int .i64 l], .pointer (some ⟨b, 0, none⟩)] w fun e w' => e = .returned (.bool (!faultB d l)) ∧ Below w.heap.size w w' := by
  have HC := Lib.hid (fun W => IsFault_any d l W)
  have hlt : b < w.heap.size := World.block_lt_of_cell? w ⟨b, 0, none⟩ hcell
  have hK := enters_fault
  unfold Enters at hK
  have hA1 := @cellAlloc; have hA2 := @frozenAlloc; have hA3 := @setCellAlloc; go_enter Try.func75, Try.ntmps75
  go_wp2_with fail
  refine (HC.out _).mono ?_
  rintro e w1 ⟨rfl, hb1⟩
  go_wp2
  go_ret
  exact ⟨rfl, by (repeat (first | assumption | exact Below.refl _ _ | refine belowThen ?_ (Go.Joins.below_alloc1 _ _) | apply Below.drew | refine belowThen ?_ (by assumption) | refine belowThen ?_ (Go.Joins.below_draws _ _ _) | refine Below.setCell ?_ (by first | exact Nat.le_refl _ | (simp; done) | (simp; omega)) _))⟩
/-- The function value tells at each Fault whether it is none. -/
def TellsF (c0 : Value) (w0 : World) : Prop :=
  ∀ (d l : Int) (W : World), Below w0.heap.size w0 W → Calls Try.prog 75 #[.agg #[.int .i64 d, .int .i64 l], c0] W fun e w' => e = .returned (.bool (!faultB d l)) ∧ Below W.heap.size W w'
set_option maxRecDepth 100000 in
theorem IndexFuncF_any (c0 : Value) (ao : Option Addr) (n cap : Nat) (F : List Int) (w : World) (hr : RdI w ao F) (hn : F.length = n * 2) (hm : n ≤ 1000) (hf : TellsF c0 w) :
    Calls Try.prog 83 #[.slice ao n cap, .func (.func 75) #[] #[c0]] w fun e w' => ∃ r : Int, e = .returned (.int .i64 r) ∧ decide (0 ≤ r) = !allF F n ∧ Below w.heap.size w w' := by
  have HF := Lib.hid hf
  have HN := Lib.hid hn
  clear hf hn
  have hK := enters_allF
  unfold Enters at hK
  have h0 : allF F 0 = true := rfl
  go_enter Try.func83, Try.ntmps83
  go_wp2
  go_loopw [8] (fun i wr => ∃ k : Nat, k ≤ n ∧ i = .int .i64 k ∧ allF F k = true ∧ Below w.heap.size w wr) (fun i _ => n - (intOf i).toNat)
  case atStart => exact ⟨0, by omega, rfl, h0, Below.refl _ _⟩
  case round =>
    obtain ⟨k, hle, rfl, hd, hbw⟩ := hrel
    have HD := Lib.hid hd
    clear hd h0
    by_cases hlt : k < n
    · have hrr := RdI_below hr hbw
      rcases hrr with h | ⟨b1, o1, rfl, hb1, hc1⟩
      · have := HN.out; rw [h] at this; simp at this; omega
      have hx0 := hc1 (k * 2) (by rw [HN.out]; omega)
      have hx1 := hc1 (k * 2 + 1) (by rw [HN.out]; omega)
      rw [← Nat.add_assoc] at hx1
      have hs := allF_succ F k
      have hbad := allF_bad F k n hlt
      generalize F.getD (k * 2) 0 = d at hx0 hs hbad
      generalize F.getD (k * 2 + 1) 0 = l at hx1 hs hbad
      have HC := Lib.hid (HF.out d l wr hbw)
      rw [HD.out, Bool.true_and] at hs
      have HS := Lib.hid hs
      have HB := Lib.hid hbad
      clear hc1 hs hbad hr
      generalize faultB d l = c at HC HS HB
      rcases c with _ | _
      · have hall := Lib.hid (HB.out rfl)
        clear HS HB
        go_wp2_with fail
        refine HC.out.mono ?_
        rintro e w' ⟨rfl, hb'⟩
        go_wp2
        go_ret
        exact ⟨k, rfl, by rw [hall.out]; simp, belowThen hbw hb'⟩
      · go_wp2_with fail
        refine HC.out.mono ?_
        rintro e w' ⟨rfl, hb'⟩
        go_wp2
        go_roundw
        case rel => exact ⟨k + 1, by omega, by go_num, HS.out, belowThen hbw hb'⟩
        case measure => simp [intOf]; omega
    · have hkn : k = n := by omega
      subst hkn
      go_wp2
      go_ret
      exact ⟨-1, rfl, by rw [HD.out]; rfl, hbw⟩
theorem areAllF_any (ao : Option Addr) (n cap : Nat) (F : List Int) (w : World) (hr : RdI w ao F) (hn : F.length = n * 2) (hm : n ≤ 1000) :
    Calls Try.prog 56 #[.slice ao n cap, .func (.func 46) #[] #[]] w fun e w' => e = .returned (.bool (allF F n)) ∧ Below w.heap.size w w' := by
  have hmf : ∀ (fn : Fn) (first cap : Array Value) (w : World), (Instr.makeFunc fn first cap).run Try.prog w = .ok (.func fn first cap) w := fun _ _ _ _ => rfl
  have hT : ∀ t : TypeId, TellsF (.pointer (some ⟨w.heap.size, 0, none⟩)) (w.alloc (.cells #[.func (.func 46) #[] #[]] t)) := by
    intro t d l W hbW
    have hs := hbW.size
    rw [heapAlloc] at hs
    refine areAllFn_F d l w.heap.size W ?_
    rw [hbW.cell (p := ⟨w.heap.size, 0, none⟩) (by simp)]
    exact World.cell?_alloc_at _ _ _ _ rfl
  have HT := Lib.hid hT
  have HI := Lib.hid (fun (c0 : Value) (W : World) h hf => IndexFuncF_any c0 ao n cap F W h hn hm hf)
  clear hT hn
  generalize allF F n = q at HI ⊢
  have HC : Hid (∀ (c0 : Value) (W : World), RdI W ao F → TellsF c0 W → Calls Try.prog 74 #[.slice ao n cap, .func (.func 75) #[] #[c0]] W fun e w' => e = .returned (.bool (!q)) ∧ Below W.heap.size W w') := by
    refine Lib.hid fun c0 W h hf => ?_
    have H1 := Lib.hid (HI.out c0 W h hf)
    clear HI hmf HT hr h hf
    go_enter Try.func74, Try.ntmps74
    go_wp2_with (go_at_call 83; refine H1.out.mono ?_; rintro e w' ⟨r, rfl, hq, hb⟩; have HQ := Lib.hid hq; clear hq)
    go_ret
    exact ⟨ret_bool HQ.out, hb⟩
  clear HI
  have hA1 := @cellAlloc; have hA2 := @frozenAlloc; have hA3 := @setCellAlloc; go_enter Try.func56, Try.ntmps56
  go_wp2_with (go_at_call 74; refine (HC.out _ _ (RdI_below hr (Go.Joins.below_alloc1 _ _)) (HT.out _)).mono ?_; rintro e w1 ⟨rfl, hb1⟩)
  go_ret
  exact ⟨ret_bool (by simp), belowThen (Go.Joins.below_alloc1 _ _) hb1⟩
end Go.Proofs.Ytfjgleimdaailaa
