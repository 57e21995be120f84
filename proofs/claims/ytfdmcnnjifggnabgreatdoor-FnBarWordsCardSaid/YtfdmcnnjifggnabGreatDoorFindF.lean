/- Contracts of the library's search with a function. -/
import Derived.Test.YtfdmcnnjifggnabGreatDoorRd
import Derived.Test.YtfdmcnnjifggnabGreatDoorFind
import Derived.Lib.Hide
namespace Go.Proofs.YtfdmcnnjifggnabGreatDoor
open Go.RowKit

/-- The place of the first element for which p is true, the first element having the place n; or -1. -/
def idxFromP (p : Int → Bool) : List Int → Nat → Int
  | [], _ => -1
  | y :: ys, n => if p y = true then (n : Int) else idxFromP p ys (n + 1)
theorem idxFromP_ge (p : Int → Bool) (L : List Int) (n : Nat) : (decide (0 ≤ idxFromP p L n)) = L.any p := by
  induction L generalizing n with
  | nil => simp [idxFromP]
  | cons y ys ih =>
    unfold idxFromP
    by_cases h : p y = true
    · simp [h]
    · rw [if_neg h, ih]
      rw [Bool.not_eq_true] at h
      simp [List.any_cons, h]
/-- What is asked of a function value with one captured cell: at each element it tells whether p holds there, and it makes new memory alone. -/
def Tells (K : Nat) (c0 : Value) (p : Int → Bool) (L : List Int) (w0 : World) : Prop :=
  ∀ (x : Int) (W : World), x ∈ L → Below w0.heap.size w0 W → Calls Tryz.prog K #[.int .i64 x, c0] W fun e w' => e = .returned (.bool (p x)) ∧ Below W.heap.size W w'
/-- The number K is that of a function of the program's own text. -/
def Enters (K : Nat) : Prop := ∀ (args : Array Value) (W : World), (callFunc K args).run Tryz.prog W = .ok (.enter K args) W
set_option maxRecDepth 100000 in
theorem IndexFunc_any (K : Nat) (c0 : Value) (p : Int → Bool) (ao : Option Addr) (n cap : Nat) (L : List Int) (w : World) (hr : RdI w ao L) (hn : L.length = n) (hm : n ≤ maxLen) (hf : Tells K c0 p L w) (hK : Enters K) :
    Calls Tryz.prog 114 #[.slice ao n cap, .func (.func K) #[] #[c0]] w fun e w' => e = .returned (.int .i64 (idxFromP p L 0)) ∧ Below w.heap.size w w' := by
  unfold maxLen at hm
  obtain ⟨R, hR⟩ : ∃ R, idxFromP p L 0 = R := ⟨_, rfl⟩
  rw [hR]
  have HF := Lib.hid hf
  clear hf
  unfold Enters at hK
  go_enter Tryz.func114, Tryz.ntmps114
  go_wp2
  go_loopw [8] (fun i wr => ∃ k : Nat, k ≤ n ∧ i = .int .i64 k ∧ idxFromP p (L.drop k) k = R ∧ Below w.heap.size w wr) (fun i _ => n - (intOf i).toNat)
  case atStart => exact ⟨0, by omega, rfl, by simpa using hR, Below.refl _ _⟩
  case round =>
    obtain ⟨k, hle, rfl, hd, hbw⟩ := hrel
    by_cases hlt : k < n
    · have hrr := RdI_below hr hbw
      rcases hrr with h | ⟨b1, o1, rfl, hb1, hc1⟩
      · rw [h] at hn; simp at hn; omega
      have hx := hc1 k (by omega)
      rw [drop_cons L k (by omega)] at hd
      have hmem : L.getD k 0 ∈ L := by
        have : L.getD k 0 = L[k]'(by omega) := by rw [List.getD_eq_getElem?_getD, List.getElem?_eq_getElem (by omega)]; rfl
        rw [this]; exact List.getElem_mem _
      unfold idxFromP at hd
      generalize L.getD k 0 = y at hx hd hmem
      have hcall := HF.out y wr hmem hbw
      generalize hp : p y = c at hd hcall
      clear hp
      have HC := Lib.hid hcall
      clear hc1 hR hn hr hcall
      rcases c with _ | _
      · rw [if_neg (by simp)] at hd
        have HD := Lib.hid hd
        clear hd
        go_wp2_with fail
        refine HC.out.mono ?_
        rintro e w' ⟨rfl, hb'⟩
        go_wp2
        go_roundw
        case rel => exact ⟨k + 1, by omega, by go_num, HD.out, belowThen hbw hb'⟩
        case measure => simp [intOf]; omega
      · rw [if_pos rfl] at hd
        subst hd
        go_wp2_with fail
        refine HC.out.mono ?_
        rintro e w' ⟨rfl, hb'⟩
        go_wp2
        go_ret
        exact ⟨rfl, belowThen hbw hb'⟩
    · have hkn : k = n := by omega
      subst hkn
      rw [List.drop_eq_nil_of_le (by omega)] at hd
      unfold idxFromP at hd
      subst hd
      clear hR hn
      go_wp2
      go_ret
      exact ⟨rfl, hbw⟩
theorem ContainsFunc_any (K : Nat) (c0 : Value) (p : Int → Bool) (ao : Option Addr) (n cap : Nat) (L : List Int) (w : World) (hr : RdI w ao L) (hn : L.length = n) (hm : n ≤ maxLen) (hf : Tells K c0 p L w) (hK : Enters K) :
    Calls Tryz.prog 101 #[.slice ao n cap, .func (.func K) #[] #[c0]] w fun e w' => e = .returned (.bool (L.any p)) ∧ Below w.heap.size w w' := by
  have HG := Lib.hid (idxFromP_ge p L 0)
  have HC := Lib.hid (IndexFunc_any K c0 p ao n cap L w hr hn hm hf hK)
  clear hr hf hK
  go_enter Tryz.func101, Tryz.ntmps101
  go_wp2_with (go_at_call 114; refine HC.out.mono ?_; rintro e w' ⟨rfl, hb⟩)
  go_ret
  exact ⟨ret_bool HG.out, hb⟩
end Go.Proofs.YtfdmcnnjifggnabGreatDoor
