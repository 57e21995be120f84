/- Contracts of the functions that give one reading of a row. -/
import Derived.Test.YtjlhghbikmipgaaCan
import Derived.Lib.Hide
import Derived.Deep.RegionHeld3
import Derived.Deep.RegionWith
namespace Go.Proofs.Ytjlhghbikmipgaa
open Go.RowKit

theorem toList_inj {a b : ByteArray} (h : a.data.toList = b.data.toList) : a = b := by
  cases a; cases b; simp only at h; congr 1; exact Array.toList_inj.1 h
theorem appB (a b : ByteArray) : (a ++ b).data.toList = a.data.toList ++ b.data.toList := by simp
theorem extB (a : ByteArray) (i j : Nat) : (a.extract i j).data.toList = (a.data.toList.drop i).take (j - i) := by
  simp [ByteArray.data_extract]
theorem one_at (l : List UInt8) (i : Nat) (h : i < l.length) : (l.drop i).take (i + 1 - i) = [l.getD i 0] := by
  rw [List.drop_eq_getElem_cons h, show i + 1 - i = 1 by omega, List.take_succ_cons, List.take_zero, List.getD_eq_getElem?_getD, List.getElem?_eq_getElem h]
  rfl
def alphaL : List UInt8 := [97, 98, 99, 100, 101, 102, 104, 106, 108, 110, 111, 112, 114, 116, 117, 121]
theorem readP_list (c : Int) (k : Nat) (hk : k ≤ 16) : (readP c k).data.toList = (canP c k).map fun p => alphaL.getD p 0 := by
  induction k with
  | zero => rfl
  | succ k ih =>
    have ih := ih (by omega)
    rw [canP_succ]
    unfold readP
    split
    · rw [appB, ih, extB, one_at _ _ (by show k < alphaL.length; show k < 16; omega), List.map_append]
      rfl
    · exact ih
/-- The letter at a place of the readings of a cell is that of the letter at that place of the list. -/
theorem readP_at (c : Int) (j : Nat) (hj : j < canN c) : (readP c 16).extract j (j + 1) = alphaB.extract ((canP c 16).getD j 0) ((canP c 16).getD j 0 + 1) := by
  apply toList_inj
  have hm : (canP c 16).getD j 0 < 16 := by
    apply canP_mem c 16
    have : (canP c 16).getD j 0 = (canP c 16)[j]'hj := by rw [List.getD_eq_getElem?_getD, List.getElem?_eq_getElem hj]; rfl
    rw [this]; exact List.getElem_mem _
  rw [extB, extB, readP_list c 16 (Nat.le_refl _), one_at _ _ (by rw [List.length_map]; exact hj), one_at _ _ (by show _ < alphaL.length; exact hm)]
  simp only [List.getD_eq_getElem?_getD, List.getElem?_map]
  rw [List.getElem?_eq_getElem hj]
  rfl
/-- How many readings are still before the one that is looked for, behind the first i cells. -/
def rdK (L : List Int) (k : Nat) : Nat → Nat
  | 0 => k
  | i + 1 => rdK L k i % prodL (L.drop (i + 1))
/-- The place of the letter at the cell i. -/
def rdJ (L : List Int) (k i : Nat) : Nat := (canP (L.getD i 0) 16).getD (rdK L k i / prodL (L.drop (i + 1))) 0
def rdS (L : List Int) (k : Nat) : Nat → ByteArray
  | 0 => ⟨#[]⟩
  | i + 1 => rdS L k i ++ alphaB.extract (rdJ L k i) (rdJ L k i + 1)
theorem rdS_size (L : List Int) (k i : Nat) : (rdS L k i).size ≤ i := by
  induction i with
  | zero => exact Nat.le_refl _
  | succ i ih => unfold rdS; rw [ByteArray.size_append, ByteArray.size_extract]; omega
theorem rdK_lt (L : List Int) (k : Nat) (hk : k < prodL L) : ∀ i, i ≤ L.length → rdK L k i < prodL (L.drop i) := by
  intro i
  induction i with
  | zero => intro _; exact hk
  | succ i ih =>
    intro hi
    have h1 := ih (by omega)
    rw [prodL_drop L i (by omega)] at h1
    have h2 : 0 < prodL (L.drop (i + 1)) := by
      rcases Nat.eq_zero_or_pos (prodL (L.drop (i + 1))) with h | h
      · rw [h, Nat.mul_zero] at h1; omega
      · exact h
    exact Nat.mod_lt _ h2
theorem rd_facts (L : List Int) (k : Nat) (hk : k < prodL L) (i : Nat) (hi : i < L.length) : 0 < prodL (L.drop (i + 1)) ∧ rdK L k i / prodL (L.drop (i + 1)) < canN (L.getD i 0) := by
  have h1 := rdK_lt L k hk i (by omega)
  rw [prodL_drop L i hi] at h1
  have h2 : 0 < prodL (L.drop (i + 1)) := by
    rcases Nat.eq_zero_or_pos (prodL (L.drop (i + 1))) with h | h
    · rw [h, Nat.mul_zero] at h1; omega
    · exact h
  exact ⟨h2, Nat.div_lt_of_lt_mul (by rw [Nat.mul_comm]; exact h1)⟩
theorem rdJ_lt (L : List Int) (k : Nat) (hk : k < prodL L) (i : Nat) (hi : i < L.length) : rdJ L k i < 16 := by
  have hj := (rd_facts L k hk i hi).2
  apply canP_mem (L.getD i 0) 16
  unfold rdJ
  have : (canP (L.getD i 0) 16).getD (rdK L k i / prodL (L.drop (i + 1))) 0 = (canP (L.getD i 0) 16)[rdK L k i / prodL (L.drop (i + 1))]'hj := by rw [List.getD_eq_getElem?_getD, List.getElem?_eq_getElem hj]; rfl
  rw [this]; exact List.getElem_mem _
def raB (L : List Int) (k : Int) : Bool := rowB L && inB 0 (((prodL L : Nat) : Int) - 1) k
def raS (L : List Int) (k : Int) : ByteArray := if raB L k = true then rdS L k.toNat L.length else ⟨#[]⟩
/-- A slice's rest reads as the rest. -/
theorem RdI_drop {w : World} {b o : Nat} {L : List Int} (h : RdI w (some ⟨b, o, none⟩) L) (k : Nat) : RdI w (some ⟨b, o + k, none⟩) (L.drop k) := by
  rcases h with rfl | ⟨b', o', he, hb, hc⟩
  · exact .inl (by simp)
  · simp only [Option.some.injEq, Addr.mk.injEq] at he
    obtain ⟨rfl, rfl, -⟩ := he
    refine .inr ⟨b, o + k, rfl, hb, fun j hj => ?_⟩
    rw [List.length_drop] at hj
    rw [show o + k + j = o + (k + j) by omega, hc (k + j) (by omega)]
    congr 2
    simp only [List.getD_eq_getElem?_getD, List.getElem?_drop]
end Go.Proofs.Ytjlhghbikmipgaa
