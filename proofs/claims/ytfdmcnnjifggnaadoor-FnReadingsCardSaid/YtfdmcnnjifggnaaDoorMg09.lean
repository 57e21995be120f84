/- Joined texts: LetterOf, Row, Can, ReadP. -/
import Derived.Test.YtfdmcnnjifggnaaDoorMg05
import Derived.Lib.Hide
import Derived.Test.YtfdmcnnjifggnaaDoorMg03
import Derived.Test.YtfdmcnnjifggnaaDoorMg02
import Derived.Deep.QuietTactic
import Derived.BigQuiet
import Derived.IntWalk
import Derived.Deep.RegionHeld3
import Derived.Deep.RegionWith
namespace Go.Proofs.YtfdmcnnjifggnaaDoor
open Go.RowKit

theorem idxFrom_cases (L : List Int) (x : Int) : ∀ n : Nat, idxFrom L x n = -1 ∨ ∃ k : Nat, n ≤ k ∧ k < n + L.length ∧ idxFrom L x n = k := by
  induction L with
  | nil => intro n; exact .inl rfl
  | cons y ys ih =>
    intro n
    unfold idxFrom
    by_cases h : y = x
    · rw [if_pos h]; exact .inr ⟨n, Nat.le_refl _, by simp, rfl⟩
    · rw [if_neg h]
      rcases ih (n + 1) with h1 | ⟨k, h1, h2, h3⟩
      · exact .inl h1
      · exact .inr ⟨k, by omega, by simp; omega, h3⟩
/-- All letters that can be shown. -/
def alphaB : ByteArray := ⟨#[97, 98, 99, 100, 101, 102, 104, 106, 108, 110, 111, 112, 114, 116, 117, 121]⟩
/-- The place of the letter of a cell, or -1. -/
def letP (c : Int) : Int := idxFrom letL c 0
theorem letP_cases (c : Int) : letP c = -1 ∨ ∃ k : Nat, k < 16 ∧ letP c = k := by
  rcases idxFrom_cases letL c 0 with h | ⟨k, _, h2, h3⟩
  · exact .inl h
  · exact .inr ⟨k, by rw [letL_length] at h2; omega, h3⟩
def letOk (c : Int) : Bool := decide (0 ≤ letP c)
def letS (c : Int) : ByteArray := if 0 ≤ letP c then alphaB.extract (letP c).toNat ((letP c).toNat + 1) else ⟨#[]⟩
theorem LetterOfI_any (c : Int) (w : World) : Calls Tryd.prog 21 #[.int .i64 c] w fun e w' => e = .returned (.tuple #[.string (letS c), .bool (letOk c)]) ∧ Below w.heap.size w w' := by
  have HC := Lib.hid (fun ao cap W hr => sliceIndex_any ao 16 cap letL c W hr letL_length (by unfold maxLen; omega))
  unfold letS letOk
  have h0 : idxFrom letL c 0 = letP c := rfl
  rw [h0] at HC
  clear h0
  rcases letP_cases c with h | ⟨k, hk, h⟩
  · rw [h] at HC ⊢
    clear h
    go_enter Tryd.func21, Tryd.ntmps21
    go_wp2_with (first | (go_at_call 45; refine (letterCells_any _).mono ?_; rintro e w1 ⟨ao, cap, rfl, hown, hb1⟩) | (go_at_call 51; refine (HC.out _ _ _ (RdI_owns hown)).mono ?_; rintro e w' ⟨rfl, rfl⟩))
    go_ret2
    exact ⟨rfl, hb1⟩
  · rw [h] at HC ⊢
    rw [if_pos (by omega), Int.toNat_natCast, decide_eq_true (by omega)]
    clear h
    go_enter Tryd.func21, Tryd.ntmps21
    go_wp2_with (first | (go_at_call 45; refine (letterCells_any _).mono ?_; rintro e w1 ⟨ao, cap, rfl, hown, hb1⟩) | (go_at_call 51; refine (HC.out _ _ _ (RdI_owns hown)).mono ?_; rintro e w' ⟨rfl, rfl⟩))
    go_ret2
    exact ⟨rfl, hb1⟩
end Go.Proofs.YtfdmcnnjifggnaaDoor

namespace Go.Proofs.YtfdmcnnjifggnaaDoor
open Go.RowKit

/-- The list is a row. -/
def rowB (L : List Int) : Bool := decide (L.length ≤ 6) && L.all (inB 0 127)
theorem all_take_succ (p : Int → Bool) (L : List Int) (k : Nat) (h : k < L.length) : (L.take (k + 1)).all p = ((L.take k).all p && p (L.getD k 0)) := by
  rw [List.take_add_one, List.getElem?_eq_getElem h, List.all_append, List.getD_eq_getElem?_getD, List.getElem?_eq_getElem h]
  simp
theorem all_bad (p : Int → Bool) (L : List Int) (k : Nat) (h : k < L.length) (hp : p (L.getD k 0) = false) : L.all p = false := by
  rw [List.all_eq_false]
  refine ⟨L[k], List.getElem_mem _, ?_⟩
  have e : L.getD k 0 = L[k] := by rw [List.getD_eq_getElem?_getD, List.getElem?_eq_getElem h]; rfl
  rw [← e, hp]; decide
theorem rowB_len {L : List Int} (h : rowB L = true) : L.length ≤ 6 := by
  unfold rowB at h; simp only [Bool.and_eq_true, decide_eq_true_eq] at h; exact h.1
theorem rowB_at {L : List Int} (h : rowB L = true) (k : Nat) (hk : k < L.length) : inB 0 127 (L.getD k 0) = true := by
  unfold rowB at h; simp only [Bool.and_eq_true, decide_eq_true_eq] at h
  cases hp : inB 0 127 (L.getD k 0) with
  | true => rfl
  | false => have := all_bad _ L k hk hp; rw [this] at h; exact absurd h.2 (by decide)
set_option maxHeartbeats 400000 in
theorem l2Row_any (ao : Option Addr) (n cap : Nat) (L : List Int) (w : World) (hr : RdI w ao L) (hn : L.length = n) (hm : n ≤ maxLen) :
    Calls Tryd.prog 29 #[.slice ao n cap] w fun e w' => e = .returned (.bool (rowB L)) ∧ w = w' := by
  unfold maxLen at hm
  have HN := Lib.hid hn
  go_enter Tryd.func29, Tryd.ntmps29
  go_wp2
  go_loop [3] (fun i => ∃ k : Nat, k ≤ n ∧ k ≤ 7 ∧ i = .int .i64 k ∧ Hid ((L.take k).all (inB 0 127) = true)) (fun i => n - (intOf i).toNat)
  case atStart => exact ⟨0, by omega, by omega, rfl, rfl⟩
  case round =>
    obtain ⟨k, hk, hk7, rfl, hall⟩ := hrel
    by_cases hlt : k < n
    · by_cases h6 : k ≤ 6
      · rcases hr with h | ⟨b1, o1, rfl, hb1, hc1⟩
        · rw [h] at hn; simp at hn; omega
        have hx := hc1 k (by omega)
        have hsucc := all_take_succ (inB 0 127) L k (by omega)
        have hbad := all_bad (inB 0 127) L k (by omega)
        generalize L.getD k 0 = y at hx hsucc hbad
        generalize hq : inB 0 127 y = q at hsucc hbad
        have HQ := Lib.hid hq
        clear hq hc1 hn
        rcases q with _ | _
        · have hres : rowB L = false := by unfold rowB; rw [hbad rfl, Bool.and_false]
          have HR := Lib.hid hres
          clear hres hbad hsucc
          go_wp2_with (first | (go_at_call 26; refine (l2Cell_any _ _).mono ?_; rw [HQ.out]; rintro e w' ⟨rfl, rfl⟩))
          go_ret
          exact ⟨ret_bool HR.out.symm, rfl⟩
        · have HS := Lib.hid hsucc
          clear hbad hsucc
          go_wp2_with (first | (go_at_call 26; refine (l2Cell_any _ _).mono ?_; rw [HQ.out]; rintro e w' ⟨rfl, rfl⟩))
          go_round
          case rel => exact ⟨k + 1, by omega, by omega, by go_num, (by show _ = _; rw [HS.out, hall.out]; rfl)⟩
          case measure => simp [intOf]; omega
      · have hres : rowB L = false := by unfold rowB; rw [decide_eq_false (by omega), Bool.false_and]
        have hd : decide ((n : Int) ≤ 6) = false := by simp; omega
        have HR := Lib.hid hres
        clear hres hn hall hr
        go_wp2
        go_ret
        exact ⟨ret_bool (by rw [HR.out]; try (first | (simp; done) | (simp; omega))), rfl⟩
    · have hkn : k = n := by omega
      subst hkn
      have hall' := hall.out
      rw [List.take_of_length_le (by omega)] at hall'
      have hres : rowB L = decide (k ≤ 6) := by unfold rowB; rw [hall', Bool.and_true, hn]
      have HR := Lib.hid hres
      clear hres hn hall hr hall'
      go_wp2
      go_ret
      exact ⟨ret_bool (by rw [HR.out]; try (first | (simp; done) | (simp; omega))), rfl⟩
theorem enters_all : Enters 57 := fun _ _ => by simp [go_sem, Tryd.func57]
set_option maxRecDepth 100000 in
theorem areAllFnN (K : Nat) (q : Bool) (x : Int) (b : Nat) (w : World) (hK : Enters K) (hcell : w.cell? ⟨b, 0, none⟩ = some (.func (.func K) #[] #[]))
    (hc : Calls Tryd.prog K #[.int .i64 x] w fun e w' => e = .returned (.bool q) ∧ Below w.heap.size w w') :
    Calls Tryd.prog 57 #[.int .i64 x, .pointer (some ⟨b, 0, none⟩)] w fun e w' => e = .returned (.bool (!q)) ∧ Below w.heap.size w w' := by
  have HC := Lib.hid hc
  clear hc
  unfold Enters at hK
  go_enter Tryd.func57, Tryd.ntmps57
  go_wp2_with fail
  refine HC.out.mono ?_
  rintro e w1 ⟨rfl, hb1⟩
  go_wp2
  go_ret
  exact ⟨rfl, hb1⟩
theorem areAllN_any (K : Nat) (p : Int → Bool) (ao : Option Addr) (n cap : Nat) (L : List Int) (w : World) (hr : RdI w ao L) (hn : L.length = n) (hm : n ≤ maxLen) (hK : Enters K)
    (hf : ∀ (x : Int) (W : World), x ∈ L → Below w.heap.size w W → Calls Tryd.prog K #[.int .i64 x] W fun e w' => e = .returned (.bool (p x)) ∧ Below W.heap.size W w') :
    Calls Tryd.prog 31 #[.slice ao n cap, .func (.func K) #[] #[]] w fun e w' => e = .returned (.bool (L.all p)) ∧ Below w.heap.size w w' := by
  have hmf : ∀ (fn : Fn) (first cap : Array Value) (w : World), (Instr.makeFunc fn first cap).run Tryd.prog w = .ok (.func fn first cap) w := fun _ _ _ _ => rfl
  have hT : ∀ t : TypeId, Tells 57 (.pointer (some ⟨w.heap.size, 0, none⟩)) (fun x => !p x) L (w.alloc (.cells #[.func (.func K) #[] #[]] t)) := by
    intro t x W hx hbW
    have hs := hbW.size
    rw [heapAlloc] at hs
    refine areAllFnN K (p x) x w.heap.size W hK ?_ (hf x W hx (belowThen (Go.Joins.below_alloc1 _ _) hbW))
    rw [hbW.cell (p := ⟨w.heap.size, 0, none⟩) (by simp)]
    exact World.cell?_alloc_at _ _ _ _ rfl
  have HT := Lib.hid hT
  have hany : (!L.any fun x => !p x) = L.all p := by rw [List.all_eq_not_any_not]
  have HA := Lib.hid hany
  clear hT hf hany
  have hA1 := @cellAlloc; have hA2 := @frozenAlloc; have hA3 := @setCellAlloc; go_enter Tryd.func31, Tryd.ntmps31
  go_wp2_with (go_at_call 56; refine (ContainsFunc_any _ _ _ _ _ _ L _ (RdI_below hr (Go.Joins.below_alloc1 _ _)) hn hm (HT.out _) enters_all).mono ?_; rintro e w1 ⟨rfl, hb1⟩)
  go_ret
  exact ⟨ret_bool HA.out, belowThen (Go.Joins.below_alloc1 _ _) hb1⟩
set_option maxRecDepth 100000 in
theorem areAllFnC (K : Nat) (c0 : Value) (q : Bool) (x : Int) (b : Nat) (w : World) (hK : Enters K) (hcell : w.cell? ⟨b, 0, none⟩ = some (.func (.func K) #[] #[c0]))
    (hc : Calls Tryd.prog K #[.int .i64 x, c0] w fun e w' => e = .returned (.bool q) ∧ Below w.heap.size w w') :
    Calls Tryd.prog 57 #[.int .i64 x, .pointer (some ⟨b, 0, none⟩)] w fun e w' => e = .returned (.bool (!q)) ∧ Below w.heap.size w w' := by
  have HC := Lib.hid hc
  clear hc
  unfold Enters at hK
  go_enter Tryd.func57, Tryd.ntmps57
  go_wp2_with fail
  refine HC.out.mono ?_
  rintro e w1 ⟨rfl, hb1⟩
  go_wp2
  go_ret
  exact ⟨rfl, hb1⟩
theorem areAllC_any (K : Nat) (c0 : Value) (p : Int → Bool) (ao : Option Addr) (n cap : Nat) (L : List Int) (w : World) (hr : RdI w ao L) (hn : L.length = n) (hm : n ≤ maxLen) (hK : Enters K)
    (hf : ∀ (x : Int) (W : World), x ∈ L → Below w.heap.size w W → Calls Tryd.prog K #[.int .i64 x, c0] W fun e w' => e = .returned (.bool (p x)) ∧ Below W.heap.size W w') :
    Calls Tryd.prog 31 #[.slice ao n cap, .func (.func K) #[] #[c0]] w fun e w' => e = .returned (.bool (L.all p)) ∧ Below w.heap.size w w' := by
  have hmf : ∀ (fn : Fn) (first cap : Array Value) (w : World), (Instr.makeFunc fn first cap).run Tryd.prog w = .ok (.func fn first cap) w := fun _ _ _ _ => rfl
  have hT : ∀ t : TypeId, Tells 57 (.pointer (some ⟨w.heap.size, 0, none⟩)) (fun x => !p x) L (w.alloc (.cells #[.func (.func K) #[] #[c0]] t)) := by
    intro t x W hx hbW
    have hs := hbW.size
    rw [heapAlloc] at hs
    refine areAllFnC K c0 (p x) x w.heap.size W hK ?_ (hf x W hx (belowThen (Go.Joins.below_alloc1 _ _) hbW))
    rw [hbW.cell (p := ⟨w.heap.size, 0, none⟩) (by simp)]
    exact World.cell?_alloc_at _ _ _ _ rfl
  have HT := Lib.hid hT
  have hany : (!L.any fun x => !p x) = L.all p := by rw [List.all_eq_not_any_not]
  have HA := Lib.hid hany
  clear hT hf hany
  have hA1 := @cellAlloc; have hA2 := @frozenAlloc; have hA3 := @setCellAlloc; go_enter Tryd.func31, Tryd.ntmps31
  go_wp2_with (go_at_call 56; refine (ContainsFunc_any _ _ _ _ _ _ L _ (RdI_below hr (Go.Joins.below_alloc1 _ _)) hn hm (HT.out _) enters_all).mono ?_; rintro e w1 ⟨rfl, hb1⟩)
  go_ret
  exact ⟨ret_bool HA.out, belowThen (Go.Joins.below_alloc1 _ _) hb1⟩
theorem enters_cell : Enters 32 := fun _ _ => by simp [go_sem, Tryd.func32]
theorem IsRow_any (ao : Option Addr) (n cap : Nat) (L : List Int) (w : World) (hr : RdI w ao L) (hn : L.length = n) (hm : n ≤ maxLen) :
    Calls Tryd.prog 8 #[.slice ao n cap] w fun e w' => e = .returned (.bool (rowB L)) ∧ Below w.heap.size w w' := by
  unfold rowB
  have HA := Lib.hid (areAllN_any 32 (inB 0 127) ao n cap L w hr hn hm enters_cell (fun x W _ _ => (IsCell_any x W).mono fun e w' h => ⟨h.1, by rw [← h.2]; exact Below.refl _ _⟩))
  generalize L.all (inB 0 127) = q at HA ⊢
  rw [hn]
  clear hr hn
  by_cases h6 : n ≤ 6
  · have hd : decide ((n : Int) ≤ 6) = true := by simp; omega
    rw [decide_eq_true h6, Bool.true_and]
    go_enter Tryd.func8, Tryd.ntmps8
    go_wp2_with (first | (go_at_call 31; refine HA.out.mono ?_; rintro e w1 ⟨rfl, hb1⟩))
    go_ret
    exact ⟨rfl, hb1⟩
  · have hd : decide ((n : Int) ≤ 6) = false := by simp; omega
    rw [decide_eq_false h6, Bool.false_and]
    go_enter Tryd.func8, Tryd.ntmps8
    go_wp2_with (first | (go_at_call 31; refine HA.out.mono ?_; rintro e w1 ⟨rfl, hb1⟩))
    go_ret
    exact ⟨rfl, Below.refl _ _⟩
end Go.Proofs.YtfdmcnnjifggnaaDoor

namespace Go.Proofs.YtfdmcnnjifggnaaDoor
open Go.RowKit

/-- A letter has all bars of a cell. -/
def canB (c : Int) (k : Nat) : Bool := (bits .andNot .i64 c (letC k) == 0)
/-- The places of the first k letters that have all bars of a cell. -/
def canP (c : Int) (k : Nat) : List Nat := (List.range k).filter (canB c)
def canN (c : Int) : Nat := (canP c 16).length
def ints (l : List Nat) : List Int := l.map fun (n : Nat) => (n : Int)
theorem ints_length (l : List Nat) : (ints l).length = l.length := by simp [ints]
theorem ints_append (l m : List Nat) : ints (l ++ m) = ints l ++ ints m := by simp [ints]
theorem ints_getD (l : List Nat) (j : Nat) : (ints l).getD j 0 = ((l.getD j 0 : Nat) : Int) := by
  simp only [ints, List.getD_eq_getElem?_getD, List.getElem?_map]
  cases l[j]? <;> rfl
theorem canP_succ (c : Int) (k : Nat) : canP c (k + 1) = if canB c k = true then canP c k ++ [k] else canP c k := by
  simp only [canP, List.range_succ, List.filter_append]
  split <;> simp_all [List.filter_cons]
theorem canP_le (c : Int) (k : Nat) : (canP c k).length ≤ k := Nat.le_trans (List.length_filter_le _ _) (by simp)
theorem canN_le (c : Int) : canN c ≤ 16 := canP_le c 16
theorem canP_mem (c : Int) (k x : Nat) (h : x ∈ canP c k) : x < k := by
  simp only [canP, List.mem_filter, List.mem_range] at h; exact h.1
theorem and_full2 : ∀ a : Fin 128, ∀ b : Fin 128, ((b.val &&& a.val) == a.val) = ((a.val &&& (18446744073709551615 - b.val)) == 0) := by decide +kernel
theorem can_eq {c : Int} (hc : inB 0 127 c = true) (k : Nat) : (bits .and .i64 (letC k) c == c) = canB c k := by
  rw [inB_iff] at hc
  obtain ⟨C, rfl⟩ := Int.eq_ofNat_of_zero_le hc.1
  have hd := letC_lt k
  have := and_full2 ⟨C, by omega⟩ ⟨letC k, hd⟩
  simp only at this
  unfold canB
  rw [and64 _ _ (by omega) (by omega), andNot64 _ _ (by omega) (by omega)]
  rw [Bool.eq_iff_iff] at this ⊢
  simp only [beq_iff_eq] at this ⊢
  omega
/-- The letters at the first k places that have all bars of a cell. -/
def readP (c : Int) : Nat → ByteArray
  | 0 => ⟨#[]⟩
  | k + 1 => if canB c k = true then readP c k ++ alphaB.extract k (k + 1) else readP c k
theorem readP_size (c : Int) (k : Nat) (hk : k ≤ 16) : (readP c k).size = (canP c k).length := by
  induction k with
  | zero => rfl
  | succ k ih =>
    have ih := ih (by omega)
    rw [canP_succ]
    unfold readP
    have h16 : alphaB.size = 16 := rfl
    split
    · rw [ByteArray.size_append, ByteArray.size_extract, ih, List.length_append, h16]
      simp; omega
    · exact ih
/-- A slice of the call's own is returned that holds the numbers. -/
def RetNats (l : List Nat) (w : World) (e : Ending) (w' : World) : Prop := ∃ ao cap, e = .returned (.slice ao l.length cap) ∧ ownsInts w' w.heap.size (.slice ao l.length cap) (ints l) ∧ Below w.heap.size w w'
set_option maxHeartbeats 400000 in
theorem l10Can_any (c : Int) (hc : inB 0 127 c = true) (w : World) : Calls Tryd.prog 37 #[.int .i64 c] w (RetNats (canP c 16) w) := by
  have hA1 := @cellAlloc; have hA2 := @frozenAlloc; have hA3 := @setCellAlloc; go_enter Tryd.func37, Tryd.ntmps37
  go_wp2
  go_loopw [3, 4] (fun v i wr => ∃ k : Nat, k ≤ 16 ∧ i = .int .i64 k ∧ ownsInts wr w.heap.size v (ints (canP c k)) ∧ Below w.heap.size w wr) (fun _ i _ => 16 - (intOf i).toNat)
  case atStart => exact ⟨0, by omega, rfl, ownsInts_zero _ _ _, Go.Joins.below_alloc1 _ _⟩
  case round =>
    obtain ⟨k, hle, rfl, hown, hbw⟩ := hrel
    by_cases hlt : k < 16
    · have hlen := canP_le c k
      rw [← ints_length] at hlen
      have hq := can_eq hc k
      have hsucc := canP_succ c k
      have HC := Lib.hid (fun W => l10Of_any k hlt W)
      generalize letC k = y at hq HC
      generalize canB c k = q at hq hsucc
      have HS := Lib.hid hsucc
      clear hsucc
      generalize canP c k = l at hown hlen HS
      rcases q with _ | _
      · go_wp2_with (go_at_call 50; refine (HC.out _).mono ?_; rintro e w1 ⟨rfl, hb1⟩)
        go_roundw
        case rel => exact ⟨k + 1, by omega, by go_num, by rw [HS.out]; exact ownsInts_below hown hb1 (Nat.le_refl _), belowThen hbw hb1⟩
        case measure => simp [intOf]; omega
      · go_wp2_with (first | (go_at_call 50; refine (HC.out _).mono ?_; rintro e w1 ⟨rfl, hb1⟩; have hown1 := ownsInts_below hown hb1 (Nat.le_refl _); have hs1 := hb1.size; have hsw := hbw.size) | (at_builtin; refine wpAppendInt w1 (by rfl) _ _ (by rfl) w.heap.size _ _ (by rfl) hown1 (k : Int) (by rfl) (by omega) (by omega) ?_; intro co cc w4 hv4 hb4))
        go_roundw
        case rel => exact ⟨k + 1, by omega, by go_num, by rw [HS.out, if_pos trivial, ints_append]; exact hv4, (belowThen hbw hb1).trans hb4⟩
        case measure => simp [intOf]; omega
    · have hk : k = 16 := by omega
      subst hk
      obtain ⟨co, cc, rfl, -⟩ := ownsInts_shape hown
      rw [ints_length] at hown
      go_wp2
      go_ret
      exact ⟨co, cc, by rw [ints_length]; rfl, hown, hbw⟩
set_option maxHeartbeats 400000 in
theorem readings_any (c : Int) (w : World) : Calls Tryd.prog 35 #[.int .i64 c] w fun e w' => e = .returned (.string (readP c 16)) ∧ Below w.heap.size w w' := by
  go_enter Tryd.func35, Tryd.ntmps35
  go_wp2_with (first | (go_at_call 45; refine (letterCells_any _).mono ?_; rintro e w1 ⟨ao, cap, rfl, hown, hb1⟩))
  have hr := RdI_owns hown
  rw [letL_length] at *
  go_loopw [3, 8] (fun s i wr => ∃ k : Nat, k ≤ 16 ∧ i = .int .i64 k ∧ s = .string (readP c k) ∧ Below w1.heap.size w1 wr) (fun _ i _ => 16 - (intOf i).toNat)
  case atStart => exact ⟨0, by omega, rfl, rfl, Below.refl _ _⟩
  case round =>
    obtain ⟨k, hle, rfl, rfl, hbw⟩ := hrel
    have hsz := readP_size c k hle
    have hln := canP_le c k
    by_cases hlt : k < 16
    · rcases RdI_below hr hbw with h | ⟨b1, o1, rfl, hb1', hc1⟩
      · exact absurd h (by decide)
      have hx := hc1 k (by rw [letL_length]; omega)
      rw [letL_getD] at hx
      have hsucc : readP c (k + 1) = if canB c k = true then readP c k ++ (⟨#[97, 98, 99, 100, 101, 102, 104, 106, 108, 110, 111, 112, 114, 116, 117, 121]⟩ : ByteArray).extract k (k + 1) else readP c k := rfl
      have hq : (bits .andNot .i64 c (letC k) == 0) = canB c k := rfl
      generalize letC k = y at hx hq
      generalize canB c k = q at hq hsucc
      generalize readP c k = S at hsz hsucc ⊢
      have HZ : S.size ≤ 16 := by omega
      have HS := Lib.hid hsucc
      clear hsucc hc1 hown hr hsz hln
      rcases q with _ | _
      · go_wp2
        go_roundw
        case rel => exact ⟨k + 1, by omega, by go_num, by rw [HS.out]; rfl, hbw⟩
        case measure => simp [intOf]; omega
      · go_wp2
        go_roundw
        case rel => exact ⟨k + 1, by omega, by go_num, by rw [HS.out]; rfl, hbw⟩
        case measure => simp [intOf]; omega
    · have hk : k = 16 := by omega
      subst hk
      go_wp2
      go_ret
      exact ⟨rfl, belowThen hb1 hbw⟩
/-- How many readings there are. -/
def prodL : List Int → Nat
  | [] => 1
  | c :: cs => canN c * prodL cs
theorem prodL_drop (L : List Int) (k : Nat) (h : k < L.length) : prodL (L.drop k) = canN (L.getD k 0) * prodL (L.drop (k + 1)) := by
  rw [drop_cons L k h]; rfl
theorem prodL_le (L : List Int) : prodL L ≤ 16 ^ L.length := by
  induction L with
  | nil => exact Nat.le_refl _
  | cons c cs ih =>
    show canN c * prodL cs ≤ 16 ^ (cs.length + 1)
    rw [Nat.pow_succ, Nat.mul_comm (16 ^ _)]
    exact Nat.mul_le_mul (canN_le c) ih
theorem pow16 (k : Nat) (h : k ≤ 6) : 16 ^ k ≤ 16777216 := Nat.pow_le_pow_right (n := 16) (by decide) h
theorem mulStep {m l P R : Nat} (h : m * (l * P) = R) : m * l * P = R := by rw [Nat.mul_assoc]; exact h
theorem mulBound {m l k : Nat} (h : m ≤ 16 ^ k) (hl : l ≤ 16) : m * l ≤ 16 ^ (k + 1) := by rw [Nat.pow_succ]; exact Nat.mul_le_mul h hl
theorem mulWrap {m l k : Nat} (h : m ≤ 16 ^ k) (hl : l ≤ 16) (hk : k < 6) : wrap64 ((m : Int) * (l : Int)) = ((m * l : Nat) : Int) := by
  have h1 := mulBound h hl
  have h2 := pow16 (k + 1) (by omega)
  rw [← Int.natCast_mul]
  unfold wrap64
  generalize m * l = x at *
  omega
set_option maxHeartbeats 400000 in
theorem l10Count_any (ao : Option Addr) (n cap : Nat) (L : List Int) (w : World) (hr : RdI w ao L) (hn : L.length = n) (hm : n ≤ 6) (hD : ∀ k, k < n → inB 0 127 (L.getD k 0) = true) :
    Calls Tryd.prog 30 #[.slice ao n cap] w fun e w' => e = .returned (.int .i64 (prodL L)) ∧ Below w.heap.size w w' := by
  have HN := Lib.hid hn
  have HD := Lib.hid hD
  clear hn hD
  go_enter Tryd.func30, Tryd.ntmps30
  go_wp2
  go_loopw [3, 4] (fun s i wr => ∃ k m : Nat, k ≤ n ∧ i = .int .i64 k ∧ s = .int .i64 m ∧ Hid (m * prodL (L.drop k) = prodL L) ∧ Hid (m ≤ 16 ^ k) ∧ Below w.heap.size w wr) (fun _ i _ => n - (intOf i).toNat)
  case atStart => exact ⟨0, 1, by omega, rfl, rfl, by show 1 * _ = _; rw [Nat.one_mul]; rfl, Nat.le_refl _, Below.refl _ _⟩
  case round =>
    obtain ⟨k, m, hk, rfl, rfl, hp, hmb, hbw⟩ := hrel
    by_cases hlt : k < n
    · rcases RdI_below hr hbw with h | ⟨b1, o1, rfl, hb1, hc1⟩
      · have := HN.out; rw [h] at this; simp at this; omega
      have hx := hc1 k (by rw [HN.out]; omega)
      have hy := HD.out k hlt
      have hd := prodL_drop L k (by rw [HN.out]; omega)
      have hl := canN_le (L.getD k 0)
      have HC := Lib.hid (fun W => l10Can_any (L.getD k 0) hy W)
      have hp' := hp.out
      rw [hd] at hp'
      have h3 := mulStep hp'
      have h4 := mulBound hmb.out hl
      have hwr := mulWrap hmb.out hl (by omega)
      unfold canN at *
      generalize L.getD k 0 = y at *
      generalize canP y 16 = ps at *
      clear hp' hd hc1 hp hmb
      generalize hml : m * ps.length = m2 at *
      have h3 := Lib.hid h3
      have h4 := Lib.hid h4
      clear hml
      go_wp2_with (first | (go_at_call 37; refine (HC.out _).mono ?_; rintro e w1 ⟨ao', cap', rfl, hown, hb1⟩))
      go_roundw
      case rel => exact ⟨k + 1, m2, by omega, by go_num, by first | rfl | rw [hwr], h3.out, h4.out, belowThen hbw hb1⟩
      case measure => simp [intOf]; omega
    · have hkn : k = n := by omega
      subst hkn
      have hp' := hp.out
      rw [List.drop_eq_nil_of_le (by rw [HN.out]; omega)] at hp'
      have hp'' : m = prodL L := by rw [← hp']; exact (Nat.mul_one m).symm
      have HP := Lib.hid hp''
      clear hp hp' hp'' hmb
      go_wp2
      go_ret
      exact ⟨by rw [← HP.out]; rfl, hbw⟩
set_option maxHeartbeats 400000 in
theorem countReadings_any (ao : Option Addr) (n cap : Nat) (L : List Int) (w : World) (hr : RdI w ao L) (hn : L.length = n) (hm : n ≤ 6) :
    Calls Tryd.prog 28 #[.slice ao n cap] w fun e w' => e = .returned (.int .i64 (prodL L)) ∧ Below w.heap.size w w' := by
  have HN := Lib.hid hn
  clear hn
  go_enter Tryd.func28, Tryd.ntmps28
  go_wp2
  go_loopw [3, 8] (fun s i wr => ∃ k m : Nat, k ≤ n ∧ i = .int .i64 k ∧ s = .int .i64 m ∧ Hid (m * prodL (L.drop k) = prodL L) ∧ Hid (m ≤ 16 ^ k) ∧ Below w.heap.size w wr) (fun _ i _ => n - (intOf i).toNat)
  case atStart => exact ⟨0, 1, by omega, rfl, rfl, by show 1 * _ = _; rw [Nat.one_mul]; rfl, Nat.le_refl _, Below.refl _ _⟩
  case round =>
    obtain ⟨k, m, hk, rfl, rfl, hp, hmb, hbw⟩ := hrel
    by_cases hlt : k < n
    · rcases RdI_below hr hbw with h | ⟨b1, o1, rfl, hb1, hc1⟩
      · have := HN.out; rw [h] at this; simp at this; omega
      have hx := hc1 k (by rw [HN.out]; omega)
      have hd := prodL_drop L k (by rw [HN.out]; omega)
      have hl := canN_le (L.getD k 0)
      have HC := Lib.hid (fun W => readings_any (L.getD k 0) W)
      have hsz := readP_size (L.getD k 0) 16 (Nat.le_refl _)
      have hp' := hp.out
      rw [hd] at hp'
      have h3 := mulStep hp'
      have h4 := mulBound hmb.out hl
      have hwr := mulWrap hmb.out hl (by omega)
      unfold canN at *
      rw [← hsz] at hl h3 h4 hwr
      generalize L.getD k 0 = y at *
      generalize readP y 16 = S at *
      clear hp' hd hc1 hp hmb hsz
      generalize hml : m * S.size = m2 at *
      have h3 := Lib.hid h3
      have h4 := Lib.hid h4
      clear hml
      go_wp2_with (first | (go_at_call 35; refine (HC.out _).mono ?_; rintro e w1 ⟨rfl, hb1⟩))
      go_roundw
      case rel => exact ⟨k + 1, m2, by omega, by go_num, by first | rfl | rw [hwr], h3.out, h4.out, belowThen hbw hb1⟩
      case measure => simp [intOf]; omega
    · have hkn : k = n := by omega
      subst hkn
      have hp' := hp.out
      rw [List.drop_eq_nil_of_le (by rw [HN.out]; omega)] at hp'
      have hp'' : m = prodL L := by rw [← hp']; exact (Nat.mul_one m).symm
      have HP := Lib.hid hp''
      clear hp hp' hp'' hmb
      go_wp2
      go_ret
      exact ⟨by rw [← HP.out]; rfl, hbw⟩
/-- What CountReadings gives. -/
def crN (L : List Int) : Int := if rowB L = true then ((prodL L : Nat) : Int) else 0
theorem CountReadingsS_any (ao : Option Addr) (n cap : Nat) (L : List Int) (w : World) (hr : RdI w ao L) (hn : L.length = n) (hm : n ≤ maxLen) (_ : n ≤ cap) :
    Calls Tryd.prog 7 #[.slice ao n cap] w fun e w' => e = .returned (.tuple #[.int .i64 (crN L), .bool (rowB L)]) ∧ Below w.heap.size w w' := by
  unfold crN
  have HR := Lib.hid (l2Row_any ao n cap L w hr hn hm)
  have hlen := rowB_len (L := L)
  have hat := rowB_at (L := L)
  rw [hn] at hlen hat
  have HC := fun h6 hD => Lib.hid (l10Count_any ao n cap L w hr hn h6 hD)
  generalize rowB L = q at HR hlen hat ⊢
  generalize prodL L = s at HC ⊢
  rcases q with _ | _
  · clear HC hlen hat hr hn
    go_enter Tryd.func7, Tryd.ntmps7
    go_wp2_with (first | (go_at_call 29; refine HR.out.mono ?_; rintro e w1 ⟨rfl, rfl⟩))
    go_ret2
    exact ⟨rfl, Below.refl _ _⟩
  · have HC := HC (hlen rfl) (hat rfl)
    clear hlen hat hr hn
    go_enter Tryd.func7, Tryd.ntmps7
    go_wp2_with (first | (go_at_call 29; refine HR.out.mono ?_; rintro e w1 ⟨rfl, rfl⟩) | (go_at_call 30; refine HC.out.mono ?_; rintro e w1 ⟨rfl, hb1⟩))
    go_ret2
    exact ⟨rfl, hb1⟩
theorem CountReadingsI_any (ao : Option Addr) (n cap : Nat) (L : List Int) (w : World) (hr : RdI w ao L) (hn : L.length = n) (hm : n ≤ maxLen) (_ : n ≤ cap) :
    Calls Tryd.prog 6 #[.slice ao n cap] w fun e w' => e = .returned (.tuple #[.int .i64 (crN L), .bool (rowB L)]) ∧ Below w.heap.size w w' := by
  unfold crN
  have HR := Lib.hid (IsRow_any ao n cap L w hr hn hm)
  have hlen := rowB_len (L := L)
  rw [hn] at hlen
  have HC := fun h6 W hrW => Lib.hid (countReadings_any ao n cap L W hrW hn h6)
  generalize rowB L = q at HR hlen ⊢
  generalize prodL L = s at HC ⊢
  rcases q with _ | _
  · clear HC hlen hr hn
    go_enter Tryd.func6, Tryd.ntmps6
    go_wp2_with (first | (go_at_call 8; refine HR.out.mono ?_; rintro e w1 ⟨rfl, hb1⟩))
    go_ret2
    exact ⟨rfl, hb1⟩
  · have HC := HC (hlen rfl)
    clear hlen hn
    go_enter Tryd.func6, Tryd.ntmps6
    go_wp2_with (first | (go_at_call 8; refine HR.out.mono ?_; rintro e w1 ⟨rfl, hb1⟩) | (go_at_call 28; refine (HC _ (RdI_below hr hb1)).out.mono ?_; rintro e w2 ⟨rfl, hb2⟩))
    go_ret2
    exact ⟨rfl, belowThen hb1 hb2⟩
end Go.Proofs.YtfdmcnnjifggnaaDoor

namespace Go.Proofs.YtfdmcnnjifggnaaDoor
open Go.RowKit

theorem toList_inj {a b : ByteArray} (h : a.data.toList = b.data.toList) : a = b := by
  cases a; cases b; simp only at h; congr 1; exact Array.toList_inj.1 h
theorem appB (a b : ByteArray) : (a ++ b).data.toList = a.data.toList ++ b.data.toList := by simp
theorem extB (a : ByteArray) (i j : Nat) : (a.extract i j).data.toList = (a.data.toList.drop i).take (j - i) := by
  simp [ByteArray.data_extract]
theorem one_at (l : List UInt8) (i : Nat) (h : i < l.length) : (l.drop i).take (i + 1 - i) = [l.getD i 0] := by
  rw [List.drop_eq_getElem_cons h, show i + 1 - i = 1 by omega, List.take_succ_cons, List.take_zero, List.getD_eq_getElem?_getD, List.getElem?_eq_getElem h]
  rfl
def alphaL : List UInt8 := [97, 98, 99, 100, 101, 102, 104, 106, 108, 110, 111, 112, 114, 116, 117, 121]
theorem readP_list (c : Int) (k : Nat) (hk : k ≤ 16) : (readP c k).data.toList = (canP c k).map fun p => alphaL.getD p 0 := by
  induction k with
  | zero => rfl
  | succ k ih =>
    have ih := ih (by omega)
    rw [canP_succ]
    unfold readP
    split
    · rw [appB, ih, extB, one_at _ _ (by show k < alphaL.length; show k < 16; omega), List.map_append]
      rfl
    · exact ih
/-- The letter at a place of the readings of a cell is that of the letter at that place of the list. -/
theorem readP_at (c : Int) (j : Nat) (hj : j < canN c) : (readP c 16).extract j (j + 1) = alphaB.extract ((canP c 16).getD j 0) ((canP c 16).getD j 0 + 1) := by
  apply toList_inj
  have hm : (canP c 16).getD j 0 < 16 := by
    apply canP_mem c 16
    have : (canP c 16).getD j 0 = (canP c 16)[j]'hj := by rw [List.getD_eq_getElem?_getD, List.getElem?_eq_getElem hj]; rfl
    rw [this]; exact List.getElem_mem _
  rw [extB, extB, readP_list c 16 (Nat.le_refl _), one_at _ _ (by rw [List.length_map]; exact hj), one_at _ _ (by show _ < alphaL.length; exact hm)]
  simp only [List.getD_eq_getElem?_getD, List.getElem?_map]
  rw [List.getElem?_eq_getElem hj]
  rfl
/-- How many readings are still before the one that is looked for, behind the first i cells. -/
def rdK (L : List Int) (k : Nat) : Nat → Nat
  | 0 => k
  | i + 1 => rdK L k i % prodL (L.drop (i + 1))
/-- The place of the letter at the cell i. -/
def rdJ (L : List Int) (k i : Nat) : Nat := (canP (L.getD i 0) 16).getD (rdK L k i / prodL (L.drop (i + 1))) 0
def rdS (L : List Int) (k : Nat) : Nat → ByteArray
  | 0 => ⟨#[]⟩
  | i + 1 => rdS L k i ++ alphaB.extract (rdJ L k i) (rdJ L k i + 1)
theorem rdS_size (L : List Int) (k i : Nat) : (rdS L k i).size ≤ i := by
  induction i with
  | zero => exact Nat.le_refl _
  | succ i ih => unfold rdS; rw [ByteArray.size_append, ByteArray.size_extract]; omega
theorem rdK_lt (L : List Int) (k : Nat) (hk : k < prodL L) : ∀ i, i ≤ L.length → rdK L k i < prodL (L.drop i) := by
  intro i
  induction i with
  | zero => intro _; exact hk
  | succ i ih =>
    intro hi
    have h1 := ih (by omega)
    rw [prodL_drop L i (by omega)] at h1
    have h2 : 0 < prodL (L.drop (i + 1)) := by
      rcases Nat.eq_zero_or_pos (prodL (L.drop (i + 1))) with h | h
      · rw [h, Nat.mul_zero] at h1; omega
      · exact h
    exact Nat.mod_lt _ h2
theorem rd_facts (L : List Int) (k : Nat) (hk : k < prodL L) (i : Nat) (hi : i < L.length) : 0 < prodL (L.drop (i + 1)) ∧ rdK L k i / prodL (L.drop (i + 1)) < canN (L.getD i 0) := by
  have h1 := rdK_lt L k hk i (by omega)
  rw [prodL_drop L i hi] at h1
  have h2 : 0 < prodL (L.drop (i + 1)) := by
    rcases Nat.eq_zero_or_pos (prodL (L.drop (i + 1))) with h | h
    · rw [h, Nat.mul_zero] at h1; omega
    · exact h
  exact ⟨h2, Nat.div_lt_of_lt_mul (by rw [Nat.mul_comm]; exact h1)⟩
theorem rdJ_lt (L : List Int) (k : Nat) (hk : k < prodL L) (i : Nat) (hi : i < L.length) : rdJ L k i < 16 := by
  have hj := (rd_facts L k hk i hi).2
  apply canP_mem (L.getD i 0) 16
  unfold rdJ
  have : (canP (L.getD i 0) 16).getD (rdK L k i / prodL (L.drop (i + 1))) 0 = (canP (L.getD i 0) 16)[rdK L k i / prodL (L.drop (i + 1))]'hj := by rw [List.getD_eq_getElem?_getD, List.getElem?_eq_getElem hj]; rfl
  rw [this]; exact List.getElem_mem _
def raB (L : List Int) (k : Int) : Bool := rowB L && inB 0 (((prodL L : Nat) : Int) - 1) k
def raS (L : List Int) (k : Int) : ByteArray := if raB L k = true then rdS L k.toNat L.length else ⟨#[]⟩
/-- A slice's rest reads as the rest. -/
theorem RdI_drop {w : World} {b o : Nat} {L : List Int} (h : RdI w (some ⟨b, o, none⟩) L) (k : Nat) : RdI w (some ⟨b, o + k, none⟩) (L.drop k) := by
  rcases h with rfl | ⟨b', o', he, hb, hc⟩
  · exact .inl (by simp)
  · simp only [Option.some.injEq, Addr.mk.injEq] at he
    obtain ⟨rfl, rfl, -⟩ := he
    refine .inr ⟨b, o + k, rfl, hb, fun j hj => ?_⟩
    rw [List.length_drop] at hj
    rw [show o + k + j = o + (k + j) by omega, hc (k + j) (by omega)]
    congr 2
    simp only [List.getD_eq_getElem?_getD, List.getElem?_drop]
end Go.Proofs.YtfdmcnnjifggnaaDoor
