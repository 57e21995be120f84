/- Joined texts: Order, FindF, Way, DrawG. -/
import Derived.Test.YtfdmcnnjifggnaaDoorMg02
import Derived.Lib.Hide
import Derived.Deep.QuietTactic
import Derived.BigQuiet
import Derived.WalkSpells
import Derived.Test.YtfdmcnnjifggnaaDoorMg01
import Derived.Deep.RegionHeld3
namespace Go.Proofs.YtfdmcnnjifggnaaDoor
open Go.RowKit

/-- The first k elements are digits, each other than those before it. -/
def okAt (L : List Int) (i : Nat) : Bool := inB 0 9 (L.getD i 0) && !((L.take i).contains (L.getD i 0))
def okP (L : List Int) (k : Nat) : Bool := (List.range k).all (okAt L)
/-- The list is an order. -/
def orderB (L : List Int) : Bool := okP L L.length
theorem okP_succ (L : List Int) (k : Nat) : okP L (k + 1) = (okP L k && okAt L k) := by simp [okP, List.range_succ]
theorem okP_le {L : List Int} {j k : Nat} (h : okP L k = true) (hj : j ≤ k) : okP L j = true := by
  simp only [okP, List.all_eq_true, List.mem_range] at h ⊢
  exact fun i hi => h i (by omega)
theorem okP_bad {L : List Int} {k : Nat} (hk : k < L.length) (h : okAt L k = false) : orderB L = false := by
  cases ho : orderB L with
  | false => rfl
  | true =>
    have := okP_le ho (show k + 1 ≤ L.length by omega)
    rw [okP_succ, h] at this
    simp at this
/-- Different elements of a list are no more than that list has. -/
theorem few : ∀ (L M : List Int), (∀ i, i < L.length → L.getD i 0 ∈ M ∧ (L.take i).contains (L.getD i 0) = false) → L.length ≤ M.length := by
  intro L
  induction hn : L.length generalizing L with
  | zero => intro M _; omega
  | succ n ih =>
    intro M h
    have h1 := h n (by omega)
    have hlen : (L.take n).length = n := by rw [List.length_take]; omega
    have h2 := ih (L.take n) hlen (M.erase (L.getD n 0)) (by
      intro i hi
      have hin : i < n := by omega
      have e : (L.take n).getD i 0 = L.getD i 0 := by simp only [List.getD_eq_getElem?_getD, List.getElem?_take_of_lt hin]
      have et : (L.take n).take i = L.take i := by rw [List.take_take]; congr 1; omega
      have h3 := h i (by omega)
      rw [e, et]
      refine ⟨?_, h3.2⟩
      rw [List.mem_erase_of_ne]
      · exact h3.1
      · intro he
        have hm : (L.take n).contains (L.getD n 0) = true := by
          rw [List.contains_iff_mem, ← he, ← e]
          have : (L.take n).getD i 0 = (L.take n)[i]'(by omega) := by rw [List.getD_eq_getElem?_getD, List.getElem?_eq_getElem (by omega)]; rfl
          rw [this]
          exact List.getElem_mem _
        rw [hm] at h1
        exact absurd h1.2 (by simp))
    rw [List.length_erase_of_mem h1.1] at h2
    have : 0 < M.length := List.length_pos_of_mem h1.1
    omega
theorem okP_few {L : List Int} {k : Nat} (hk : k ≤ L.length) (h : okP L k = true) : k ≤ 10 := by
  have hlen : (L.take k).length = k := by rw [List.length_take]; omega
  have := few (L.take k) [0, 1, 2, 3, 4, 5, 6, 7, 8, 9] (by
    intro i hi
    have hik : i < k := by omega
    simp only [okP, List.all_eq_true, List.mem_range] at h
    have h1 := h i hik
    have e : (L.take k).getD i 0 = L.getD i 0 := by simp only [List.getD_eq_getElem?_getD, List.getElem?_take_of_lt hik]
    have et : (L.take k).take i = L.take i := by rw [List.take_take]; congr 1; omega
    rw [e, et]
    simp only [okAt, Bool.and_eq_true, inB_iff, Bool.not_eq_true'] at h1
    refine ⟨?_, h1.2⟩
    simp only [List.mem_cons, List.not_mem_nil, or_false]
    omega)
  rw [hlen] at this
  simpa using this
theorem orderB_le {L : List Int} (h : orderB L = true) : L.length ≤ 10 := okP_few (Nat.le_refl _) h

end Go.Proofs.YtfdmcnnjifggnaaDoor

namespace Go.Proofs.YtfdmcnnjifggnaaDoor
open Go.RowKit

/-- The place of the first element for which p is true, the first element having the place n; or -1. -/
def idxFromP (p : Int → Bool) : List Int → Nat → Int
  | [], _ => -1
  | y :: ys, n => if p y = true then (n : Int) else idxFromP p ys (n + 1)
theorem idxFromP_ge (p : Int → Bool) (L : List Int) (n : Nat) : (decide (0 ≤ idxFromP p L n)) = L.any p := by
  induction L generalizing n with
  | nil => simp [idxFromP]
  | cons y ys ih =>
    unfold idxFromP
    by_cases h : p y = true
    · simp [h]
    · rw [if_neg h, ih]
      rw [Bool.not_eq_true] at h
      simp [List.any_cons, h]
/-- What is asked of a function value with one captured cell: at each element it tells whether p holds there, and it makes new memory alone. -/
def Tells (K : Nat) (c0 : Value) (p : Int → Bool) (L : List Int) (w0 : World) : Prop :=
  ∀ (x : Int) (W : World), x ∈ L → Below w0.heap.size w0 W → Calls Tryd.prog K #[.int .i64 x, c0] W fun e w' => e = .returned (.bool (p x)) ∧ Below W.heap.size W w'
/-- The number K is that of a function of the program's own text. -/
def Enters (K : Nat) : Prop := ∀ (args : Array Value) (W : World), (callFunc K args).run Tryd.prog W = .ok (.enter K args) W
set_option maxRecDepth 100000 in
theorem IndexFunc_any (K : Nat) (c0 : Value) (p : Int → Bool) (ao : Option Addr) (n cap : Nat) (L : List Int) (w : World) (hr : RdI w ao L) (hn : L.length = n) (hm : n ≤ maxLen) (hf : Tells K c0 p L w) (hK : Enters K) :
    Calls Tryd.prog 68 #[.slice ao n cap, .func (.func K) #[] #[c0]] w fun e w' => e = .returned (.int .i64 (idxFromP p L 0)) ∧ Below w.heap.size w w' := by
  unfold maxLen at hm
  obtain ⟨R, hR⟩ : ∃ R, idxFromP p L 0 = R := ⟨_, rfl⟩
  rw [hR]
  have HF := Lib.hid hf
  clear hf
  unfold Enters at hK
  go_enter Tryd.func68, Tryd.ntmps68
  go_wp2
  go_loopw [8] (fun i wr => ∃ k : Nat, k ≤ n ∧ i = .int .i64 k ∧ idxFromP p (L.drop k) k = R ∧ Below w.heap.size w wr) (fun i _ => n - (intOf i).toNat)
  case atStart => exact ⟨0, by omega, rfl, by simpa using hR, Below.refl _ _⟩
  case round =>
    obtain ⟨k, hle, rfl, hd, hbw⟩ := hrel
    by_cases hlt : k < n
    · have hrr := RdI_below hr hbw
      rcases hrr with h | ⟨b1, o1, rfl, hb1, hc1⟩
      · rw [h] at hn; simp at hn; omega
      have hx := hc1 k (by omega)
      rw [drop_cons L k (by omega)] at hd
      have hmem : L.getD k 0 ∈ L := by
        have : L.getD k 0 = L[k]'(by omega) := by rw [List.getD_eq_getElem?_getD, List.getElem?_eq_getElem (by omega)]; rfl
        rw [this]; exact List.getElem_mem _
      unfold idxFromP at hd
      generalize L.getD k 0 = y at hx hd hmem
      have hcall := HF.out y wr hmem hbw
      generalize hp : p y = c at hd hcall
      clear hp
      have HC := Lib.hid hcall
      clear hc1 hR hn hr hcall
      rcases c with _ | _
      · rw [if_neg (by simp)] at hd
        have HD := Lib.hid hd
        clear hd
        go_wp2_with fail
        refine HC.out.mono ?_
        rintro e w' ⟨rfl, hb'⟩
        go_wp2
        go_roundw
        case rel => exact ⟨k + 1, by omega, by go_num, HD.out, belowThen hbw hb'⟩
        case measure => simp [intOf]; omega
      · rw [if_pos rfl] at hd
        subst hd
        go_wp2_with fail
        refine HC.out.mono ?_
        rintro e w' ⟨rfl, hb'⟩
        go_wp2
        go_ret
        exact ⟨rfl, belowThen hbw hb'⟩
    · have hkn : k = n := by omega
      subst hkn
      rw [List.drop_eq_nil_of_le (by omega)] at hd
      unfold idxFromP at hd
      subst hd
      clear hR hn
      go_wp2
      go_ret
      exact ⟨rfl, hbw⟩
theorem ContainsFunc_any (K : Nat) (c0 : Value) (p : Int → Bool) (ao : Option Addr) (n cap : Nat) (L : List Int) (w : World) (hr : RdI w ao L) (hn : L.length = n) (hm : n ≤ maxLen) (hf : Tells K c0 p L w) (hK : Enters K) :
    Calls Tryd.prog 56 #[.slice ao n cap, .func (.func K) #[] #[c0]] w fun e w' => e = .returned (.bool (L.any p)) ∧ Below w.heap.size w w' := by
  have HG := Lib.hid (idxFromP_ge p L 0)
  have HC := Lib.hid (IndexFunc_any K c0 p ao n cap L w hr hn hm hf hK)
  clear hr hf hK
  go_enter Tryd.func56, Tryd.ntmps56
  go_wp2_with (go_at_call 68; refine HC.out.mono ?_; rintro e w' ⟨rfl, hb⟩)
  go_ret
  exact ⟨ret_bool HG.out, hb⟩
end Go.Proofs.YtfdmcnnjifggnaaDoor

namespace Go.Proofs.YtfdmcnnjifggnaaDoor
open Go.RowKit

/-- All bars of a cell light in the cell of a digit. -/
def onP (c x : Int) : Bool := (bits .andNot .i64 c (digC x.toNat) == 0)
/-- A cell is on the way to a goal. -/
def wayB (c : Int) (L : List Int) : Bool := L.any (onP c)
/-- All numbers of a list are digits. -/
def allDig (L : List Int) : Prop := ∀ x ∈ L, inB 0 9 x = true
theorem orderB_dig {L : List Int} (h : orderB L = true) : allDig L := by
  intro x hx
  obtain ⟨i, hi, rfl⟩ := List.getElem_of_mem hx
  have := okP_le h (show i + 1 ≤ L.length by omega)
  rw [okP_succ, Bool.and_eq_true] at this
  have h2 := this.2
  simp only [okAt, Bool.and_eq_true] at h2
  have e : L.getD i 0 = L[i] := by simp [hi]
  rw [e] at h2
  exact h2.1
theorem and_full : ∀ a : Fin 128, ∀ b : Fin 128, ((a.val &&& b.val) == a.val) = ((a.val &&& (18446744073709551615 - b.val)) == 0) := by decide +kernel
theorem on_eq {c : Int} (hc : inB 0 127 c = true) (d : Nat) : (bits .and .i64 c (digC d) == c) = (bits .andNot .i64 c (digC d) == 0) := by
  rw [inB_iff] at hc
  obtain ⟨C, rfl⟩ := Int.eq_ofNat_of_zero_le hc.1
  have hd := digC_lt d
  have := and_full ⟨C, by omega⟩ ⟨digC d, hd⟩
  simp only at this
  rw [and64 _ _ (by omega) (by omega), andNot64 _ _ (by omega) (by omega)]
  rw [Bool.eq_iff_iff] at this ⊢
  simp only [beq_iff_eq] at this ⊢
  omega
theorem mem_getD {L : List Int} {k : Nat} (h : k < L.length) : L.getD k 0 ∈ L := by
  have : L.getD k 0 = L[k] := by simp [h]
  rw [this]; exact List.getElem_mem _

/-- The goal and the cell are valid. -/
def onOk (c : Int) (L : List Int) (n : Nat) : Bool := (orderB L && decide (0 < n)) && inB 0 127 c
theorem onOk_dig {c : Int} {L : List Int} {n : Nat} (h : onOk c L n = true) : allDig L := orderB_dig (by unfold onOk at h; simp only [Bool.and_eq_true] at h; exact h.1.1)
end Go.Proofs.YtfdmcnnjifggnaaDoor

namespace Go.Proofs.YtfdmcnnjifggnaaDoor
open Go.RowKit

/-- A short list of the call's own is returned. -/
def RetOwn (k : Nat) (W : World) (e : Ending) (w' : World) : Prop := ∃ (ao : Option Addr) (cap : Nat) (L : List Int), e = .returned (.slice ao L.length cap) ∧ L.length ≤ k ∧ ownsInts w' W.heap.size (.slice ao L.length cap) L
theorem own_first {w : World} {B n cap : Nat} {ao : Option Addr} {L : List Int} (h : ownsInts w B (.slice ao n cap) L) (hn : 0 < L.length) : ∃ g, ao = some ⟨g, 0, none⟩ ∧ B ≤ g ∧ g < w.heap.size ∧ ∀ j, j < L.length → w.cell? ⟨g, j, none⟩ = some (.int .i64 (L.getD j 0)) := by
  obtain ⟨ao', cap', he, h0 | ⟨g, rfl, h1, h2, h3, h4⟩⟩ := ownsInts_shape h
  · rw [h0] at hn; simp at hn
  · simp only [Value.slice.injEq] at he
    obtain ⟨rfl, -, -⟩ := he
    exact ⟨g, rfl, h1, h2, h4⟩
theorem RdI_onlyC {b : Nat} {w w' : World} {ao : Option Addr} {L : List Int} (h : RdI w ao L) (hc : ∀ c o, ao = some ⟨c, o, none⟩ → c ≠ b) (ho : OnlyC b w w') : RdI w' ao L := by
  rcases h with h | ⟨k, o, rfl, hlt, hcell⟩
  · exact .inl h
  · exact .inr ⟨k, o, rfl, Nat.lt_of_lt_of_le hlt ho.size, fun j hj => (ho.cell hlt (hc k o rfl)).trans (hcell j hj)⟩
/-- A short list is returned, which lies in new memory. -/
theorem RetOwn_new {k : Nat} {w W : World} {e : Ending} {w' : World} (h : RetOwn k W e w') (hw : w.heap.size ≤ W.heap.size) : RetOwn k w e w' := by
  obtain ⟨ao, cap, L, h1, h2, h3⟩ := h
  exact ⟨ao, cap, L, h1, h2, ownsInts_le h3 hw⟩
theorem own_ne {w : World} {B b n cap : Nat} {ao : Option Addr} {L : List Int} (h : ownsInts w B (.slice ao n cap) L) (hb : b < B) (hL : L ≠ []) : ∀ c o, ao = some ⟨c, o, none⟩ → c ≠ b := by
  obtain ⟨g, rfl, hg, -⟩ := own_first h (by rcases Nat.eq_zero_or_pos L.length with h9 | h9; exact absurd (List.eq_nil_of_length_eq_zero h9) hL; exact h9)
  intro c o he
  have he' : g = c ∧ 0 = o := by simpa using he
  omega
theorem own_cap {w : World} {B n cap : Nat} {ao : Option Addr} {L : List Int} (h : ownsInts w B (.slice ao n cap) L) : L.length ≤ cap ∨ L = [] := by
  obtain ⟨ao', cap', he, h0 | ⟨g, rfl, h1, h2, h3, h4⟩⟩ := ownsInts_shape h
  · exact .inr h0
  · simp only [Value.slice.injEq] at he
    exact .inl (by omega)
/-- A number and a short list are returned. -/
def RetIntOwn (k : Nat) (W : World) (e : Ending) (w' : World) : Prop := ∃ (x : Int) (ao : Option Addr) (cap : Nat) (L : List Int), e = .returned (.tuple #[.int .i64 x, .slice ao L.length cap]) ∧ L.length ≤ k ∧ ownsInts w' W.heap.size (.slice ao L.length cap) L
end Go.Proofs.YtfdmcnnjifggnaaDoor
