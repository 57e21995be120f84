/- Joined texts: TabI, ValI, Row. -/
import Derived.Test.YtcddfpbohejhhacMg05
import Derived.Test.YtcddfpbohejhhacMg02
import Derived.Lib.Hide
import Derived.Deep.QuietTactic
import Derived.BigQuiet
namespace Go.Proofs.Ytcddfpbohejhhac
open Go.RowKit

theorem infoI : (Try.prog.info? 3).map (fun i => (i.zero, i.size, i.bytes)) = some (some (.int .i64 0), 1, 8) := by kernel_rfl
theorem take_map_succI {β : Type} (f : Nat → β) (l : List Nat) (j : Nat) (h : j < l.length) : (l.take (j + 1)).map f = (l.take j).map f ++ [f (l.getD j 0)] := by
  rw [List.take_add_one, List.map_append, List.getElem?_eq_getElem h, List.getD_eq_getElem?_getD, List.getElem?_eq_getElem h]
  rfl
/-- m[k], its value known. -/
theorem wpLookVI (w : World) {ops : Array Oper} {rest : List Oper} {o : Oper} {a : Act} {Q : Exit → Act → World → Prop} (hg : o.guard = none) (m x : Operand) (t : TypeId) (hop : o.op = Op.lookup t m x false)
    (e : TypeId) (ht : Try.prog.underlying t = some (.map 3 e)) (z : Value) (hz : (zeroValue e).run Try.prog w = .ok z w) (b n : Nat) (f : Int → Value) (hm : a.eval m = .map (some b)) (h : mapV w b n z f)
    (k : Int) (hx : a.eval x = .int .i64 k) (hwf : (Lit.int .i64 k).wf = true) (v : Value) (hv : f k = v) (hK : wpList Try.prog ops Q rest (a.put o.dst v) w) : wpList Try.prog ops Q (o :: rest) a w :=
  wpLookV w hg m x t hop e ht z hz b n f hm h k hx hwf (by rw [hv]; exact hK)
theorem mapStepI {L : List Int} {f : Nat → Int} {c : Nat} {u : Int} (hc : c < 128) (hway : wayB (c : Int) L = true) (hu : f c = u) (k : Int) :
    (if k = (c : Int) then Value.int .i64 u else (if ((c + 1 : Nat) : Int) ≤ k ∧ k < 128 ∧ wayB k L = true then Value.int .i64 (f k.toNat) else (.int .i64 0))) = if (c : Int) ≤ k ∧ k < 128 ∧ wayB k L = true then Value.int .i64 (f k.toNat) else (.int .i64 0) := by
  by_cases hk : k = (c : Int)
  · subst hk
    rw [if_pos rfl, if_pos ⟨Int.le_refl _, by omega, hway⟩, Int.toNat_natCast, hu]
  · rw [if_neg hk]
    by_cases h : ((c + 1 : Nat) : Int) ≤ k ∧ k < 128 ∧ wayB k L = true
    · rw [if_pos h, if_pos ⟨by omega, h.2⟩]
    · rw [if_neg h, if_neg (fun g => h ⟨by omega, g.2⟩)]
theorem mapSkipI {L : List Int} {f : Nat → Int} {c : Nat} (hway : wayB (c : Int) L = false) (k : Int) :
    (if ((c + 1 : Nat) : Int) ≤ k ∧ k < 128 ∧ wayB k L = true then Value.int .i64 (f k.toNat) else (.int .i64 0)) = if (c : Int) ≤ k ∧ k < 128 ∧ wayB k L = true then Value.int .i64 (f k.toNat) else (.int .i64 0) := by
  by_cases h : ((c + 1 : Nat) : Int) ≤ k ∧ k < 128 ∧ wayB k L = true
  · rw [if_pos h, if_pos ⟨by omega, h.2⟩]
  · rw [if_neg h, if_neg]
    rintro ⟨h1, h2, h3⟩
    refine h ⟨?_, h2, h3⟩
    rcases Int.lt_or_eq_of_le h1 with h4 | h4
    · omega
    · subst h4; rw [hway] at h3; exact absurd h3 (by decide)
end Go.Proofs.Ytcddfpbohejhhac

namespace Go.Proofs.Ytcddfpbohejhhac
open Go.RowKit

/-- What is looked up. -/
def valOfI (F : Nat → List Int → Int) (c : Int) (L : List Int) (n : Nat) : Int := if playB c L n = true then valC L F c.toNat else 0
end Go.Proofs.Ytcddfpbohejhhac

namespace Go.Proofs.Ytcddfpbohejhhac
open Go.RowKit

/-- The list is a row. -/
def rowB (L : List Int) : Bool := decide (L.length ≤ 6) && L.all (inB 0 127)
theorem all_take_succ (p : Int → Bool) (L : List Int) (k : Nat) (h : k < L.length) : (L.take (k + 1)).all p = ((L.take k).all p && p (L.getD k 0)) := by
  rw [List.take_add_one, List.getElem?_eq_getElem h, List.all_append, List.getD_eq_getElem?_getD, List.getElem?_eq_getElem h]
  simp
theorem all_bad (p : Int → Bool) (L : List Int) (k : Nat) (h : k < L.length) (hp : p (L.getD k 0) = false) : L.all p = false := by
  rw [List.all_eq_false]
  refine ⟨L[k], List.getElem_mem _, ?_⟩
  have e : L.getD k 0 = L[k] := by rw [List.getD_eq_getElem?_getD, List.getElem?_eq_getElem h]; rfl
  rw [← e, hp]; decide
theorem rowB_len {L : List Int} (h : rowB L = true) : L.length ≤ 6 := by
  unfold rowB at h; simp only [Bool.and_eq_true, decide_eq_true_eq] at h; exact h.1
theorem rowB_at {L : List Int} (h : rowB L = true) (k : Nat) (hk : k < L.length) : inB 0 127 (L.getD k 0) = true := by
  unfold rowB at h; simp only [Bool.and_eq_true, decide_eq_true_eq] at h
  cases hp : inB 0 127 (L.getD k 0) with
  | true => rfl
  | false => have := all_bad _ L k hk hp; rw [this] at h; exact absurd h.2 (by decide)
theorem enters_cell : Enters 34 := fun _ _ => by simp [go_sem, Try.func34]
end Go.Proofs.Ytcddfpbohejhhac
