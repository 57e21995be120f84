/- Joined texts: Nim, Marks, EqA. -/
import Derived.Test.YtcddfpbohejhhacMg09
import Derived.Test.YtcddfpbohejhhacMg10
import Derived.Lib.Hide
import Derived.Test.YtcddfpbohejhhacMg01
import Derived.Deep.QuietTactic
import Derived.BigQuiet
namespace Go.Proofs.Ytcddfpbohejhhac
open Go.RowKit

/-- The goal and the row are valid, and all cells are on the way. -/
def goodRow (R L : List Int) (m : Nat) : Bool := (orderB L && decide (0 < m)) && rowB R && R.all (fun c => wayB c L)
theorem goodRow_dig {R L : List Int} {m : Nat} (h : goodRow R L m = true) : allDig L := orderB_dig (by unfold goodRow at h; simp only [Bool.and_eq_true] at h; exact h.1.1.1)
theorem goodRow_row {R L : List Int} {m : Nat} (h : goodRow R L m = true) : rowB R = true := by unfold goodRow at h; simp only [Bool.and_eq_true] at h; exact h.1.2
theorem goodRow_mem {R L : List Int} {m : Nat} (h : goodRow R L m = true) : ∀ x ∈ R, inB 0 127 x = true ∧ wayB x L = true := by
  intro x hx
  have h1 := goodRow_row h
  unfold goodRow at h
  unfold rowB at h1
  simp only [Bool.and_eq_true, List.all_eq_true] at h h1
  exact ⟨h1.2 x hx, h.2 x hx⟩
/-- The number of a cell. -/
def numC (L : List Int) (c : Int) : Nat := (valC L knF c.toNat).num
theorem numC_lt (L : List Int) (c : Int) (h : inB 0 127 c = true) : numC L c < 8 := by
  rw [inB_iff] at h
  have := known_num_le L c.toNat (by omega)
  unfold numC; omega
/-- The exclusive or of the numbers of the first k cells. -/
def nimP (L R : List Int) (k : Nat) : Nat := (R.take k).foldl (fun s c => s ^^^ numC L c) 0
def nimN (L R : List Int) : Nat := nimP L R R.length
theorem nimP_succ (L R : List Int) (k : Nat) (h : k < R.length) : nimP L R (k + 1) = nimP L R k ^^^ numC L (R.getD k 0) := by
  unfold nimP
  rw [List.take_add_one, List.getElem?_eq_getElem h, List.foldl_append, List.getD_eq_getElem?_getD, List.getElem?_eq_getElem h]
  rfl
theorem nimP_lt (L R : List Int) (hR : ∀ x ∈ R, inB 0 127 x = true) (k : Nat) : nimP L R k < 8 := by
  unfold nimP
  have : ∀ (l : List Int) (s : Nat), (∀ x ∈ l, inB 0 127 x = true) → s < 8 → l.foldl (fun s c => s ^^^ numC L c) s < 8 := by
    intro l
    induction l with
    | nil => intro s _ hs; exact hs
    | cons a l ih => intro s hl hs; exact ih _ (fun x hx => hl x (List.mem_cons_of_mem _ hx)) (Nat.xor_lt_two_pow (n := 3) hs (numC_lt L a (hl a List.mem_cons_self)))
  exact this _ 0 (fun x hx => hR x (List.mem_of_mem_take hx)) (by decide)
theorem memGetD {R : List Int} {k : Nat} (h : k < R.length) : R.getD k 0 ∈ R := by
  have e : R.getD k 0 = R[k] := by rw [List.getD_eq_getElem?_getD, List.getElem?_eq_getElem h]; rfl
  rw [e]; exact List.getElem_mem _
set_option maxHeartbeats 400000 in
theorem l11Sum_any (ao : Option Addr) (n cap : Nat) (R L : List Int) (g : Nat) (w : World) (hr : RdI w ao R) (hn : R.length = n) (hm : n ≤ maxLen) (hR : ∀ x ∈ R, inB 0 127 x = true) (hall : AllOwn w g L) :
    Calls Try.prog 21 #[.slice ao n cap, .slice (some ⟨g, 0, none⟩) 128 128] w fun e w' => e = .returned (.int .i64 (nimN L R)) ∧ w = w' := by
  unfold maxLen at hm
  have HN := Lib.hid hn
  have HR := Lib.hid hR
  clear hR
  go_enter Try.func21, Try.ntmps21
  go_wp2
  go_loop [5, 6] (fun s i => ∃ k : Nat, k ≤ n ∧ i = .int .i64 k ∧ s = .int .i64 (nimP L R k)) (fun _ i => n - (intOf i).toNat)
  case atStart => exact ⟨0, by omega, rfl, rfl⟩
  case round =>
    obtain ⟨k, hk, rfl, rfl⟩ := hrel
    by_cases hlt : k < n
    · rcases hr with h | ⟨b1, o1, rfl, hb1, hc1⟩
      · rw [h] at hn; simp at hn; omega
      have hx := hc1 k (by omega)
      have hlt8 := nimP_lt L R HR.out k
      have hsucc := nimP_succ L R k (by omega)
      have hin := HR.out _ (memGetD (show k < R.length by omega))
      have hn8 := numC_lt L _ hin
      generalize R.getD k 0 = y at hx hsucc hin hn8
      rw [inB_iff] at hin
      obtain ⟨C, rfl⟩ := Int.eq_ofNat_of_zero_le hin.1
      have hC : C < 128 := by omega
      have hy := (AllOwn_at hall C hC).1
      have e : (valC L knF C).num = numC L (C : Int) := rfl
      rw [e] at hy
      generalize numC L (C : Int) = v at hy hsucc hn8
      generalize nimP L R k = s at hlt8 hsucc ⊢
      have hxx := xor64 s v (by omega) (by omega)
      have HS := Lib.hid hsucc
      clear hsucc hc1 e hn hall
      go_wp2
      go_round
      case rel => exact ⟨k + 1, by omega, by go_num, by rw [HS.out]⟩
      case measure => simp [intOf]; omega
    · have hkn : k = n := by omega
      subst hkn
      have e : nimN L R = nimP L R k := by unfold nimN; rw [hn]
      have HE := Lib.hid e
      clear e hn
      go_wp2
      go_ret
      exact ⟨by rw [HE.out]; rfl, rfl⟩
/-- What the program's table gives at a key. -/
def tabF (L : List Int) (k : Int) : Value := if 0 ≤ k ∧ k < 128 ∧ wayB k L = true then Value.int .i64 (valC L mexI k.toNat) else (.int .i64 0)
theorem tabF_at {L : List Int} {c : Int} (h1 : inB 0 127 c = true) (h2 : wayB c L = true) : tabF L c = .int .i64 (numC L c) := by
  rw [inB_iff] at h1
  unfold tabF numC
  rw [if_pos ⟨by omega, by omega, h2⟩, known_num L c.toNat (by omega)]
end Go.Proofs.Ytcddfpbohejhhac

namespace Go.Proofs.Ytcddfpbohejhhac
open Go.RowKit

/-- The first j numbers are marked: k0, k0 + 1 .. -/
def marksP (k0 : Int) (L : List Int) (j : Nat) : List Int := ((List.range j).map fun (i : Nat) => k0 + (i : Int)) ++ L.drop j
/-- A marked list. -/
def marksL (k0 : Int) (n : Nat) : List Int := (List.range n).map fun (i : Nat) => k0 + (i : Int)
theorem marksP_length (k0 : Int) (L : List Int) (j : Nat) (hj : j ≤ L.length) : (marksP k0 L j).length = L.length := by
  simp [marksP]; omega
theorem marksP_all (k0 : Int) (L : List Int) : marksP k0 L L.length = marksL k0 L.length := by simp [marksP, marksL]
theorem marksP_succ (k0 : Int) (L : List Int) (j : Nat) (hj : j < L.length) : (marksP k0 L j).set j (k0 + (j : Int)) = marksP k0 L (j + 1) := by
  apply List.ext_getElem?
  intro i
  have h1 : ((List.range j).map fun (i : Nat) => k0 + (i : Int)).length = j := by simp
  have h2 : ((List.range (j + 1)).map fun (i : Nat) => k0 + (i : Int)).length = j + 1 := by simp
  simp only [marksP, List.getElem?_set, List.length_append, h1, List.length_drop]
  by_cases hij : j = i
  · subst hij
    rw [if_pos rfl, if_pos (by omega), List.getElem?_append_left (by omega)]
    simp
  · rw [if_neg hij]
    by_cases hlt : i < j
    · rw [List.getElem?_append_left (by omega), List.getElem?_append_left (by omega)]
      simp [hlt, show i < j + 1 by omega]
    · rw [List.getElem?_append_right (by omega), List.getElem?_append_right (by omega), h1, h2]
      simp only [List.getElem?_drop]
      congr 1
      omega
theorem marksL_getD (k0 : Int) (n j : Nat) (hj : j < n) : (marksL k0 n).getD j 0 = k0 + (j : Int) := by
  simp [marksL, hj]
theorem marksL_length (k0 : Int) (n : Nat) : (marksL k0 n).length = n := by simp [marksL]
/-- One number of an owned row is written. -/
theorem ownsInts_set {w : World} {B g n cap : Nat} {L : List Int} (h : ownsInts w B (.slice (some ⟨g, 0, none⟩) n cap) L) (hn : L.length = n) (j : Nat) (z : Int) :
    ownsInts (w.setCell ⟨g, j, none⟩ (.int .i64 z)) B (.slice (some ⟨g, 0, none⟩) n cap) (L.set j z) := by
  subst hn
  rcases h with h | ⟨h0, h1, a, h2⟩
  · have := (World.ownsRow.stored h j (.int .i64 z)).1
    refine .inl ?_
    simpa [List.map_set] using this
  · have : L = [] := List.eq_nil_of_length_eq_zero h0
    subst this
    exact .inr ⟨rfl, rfl, a, h2⟩
end Go.Proofs.Ytcddfpbohejhhac

namespace Go.Proofs.Ytcddfpbohejhhac
open Go.RowKit
end Go.Proofs.Ytcddfpbohejhhac
