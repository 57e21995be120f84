/- The contract of the function that computes a value for each cell. -/
import Derived.Test.YtpcmlfohblglaabTabV
import Derived.Test.YtpcmlfohblglaabFindF
import Derived.Lib.Hide
namespace Go.Proofs.Ytpcmlfohblglaab
open Go.RowKit

theorem infoB : (Try.prog.info? 4).map (fun i => (i.zero, i.size, i.bytes)) = some (some (.bool false), 1, 1) := by kernel_rfl
theorem take_map_succB {β : Type} (f : Nat → β) (l : List Nat) (j : Nat) (h : j < l.length) : (l.take (j + 1)).map f = (l.take j).map f ++ [f (l.getD j 0)] := by
  rw [List.take_add_one, List.map_append, List.getElem?_eq_getElem h, List.getD_eq_getElem?_getD, List.getElem?_eq_getElem h]
  rfl
/-- m[k], its value known. -/
theorem wpLookVB (w : World) {ops : Array Oper} {rest : List Oper} {o : Oper} {a : Act} {Q : Exit → Act → World → Prop} (hg : o.guard = none) (m x : Operand) (t : TypeId) (hop : o.op = Op.lookup t m x false)
    (e : TypeId) (ht : Try.prog.underlying t = some (.map 3 e)) (z : Value) (hz : (zeroValue e).run Try.prog w = .ok z w) (b n : Nat) (f : Int → Value) (hm : a.eval m = .map (some b)) (h : mapV w b n z f)
    (k : Int) (hx : a.eval x = .int .i64 k) (hwf : (Lit.int .i64 k).wf = true) (v : Value) (hv : f k = v) (hK : wpList Try.prog ops Q rest (a.put o.dst v) w) : wpList Try.prog ops Q (o :: rest) a w :=
  wpLookV w hg m x t hop e ht z hz b n f hm h k hx hwf (by rw [hv]; exact hK)
theorem mapStepB {L : List Int} {f : Nat → Bool} {c : Nat} {u : Bool} (hc : c < 128) (hway : wayB (c : Int) L = true) (hu : f c = u) (k : Int) :
    (if k = (c : Int) then Value.bool u else (if ((c + 1 : Nat) : Int) ≤ k ∧ k < 128 ∧ wayB k L = true then Value.bool (f k.toNat) else (.bool false))) = if (c : Int) ≤ k ∧ k < 128 ∧ wayB k L = true then Value.bool (f k.toNat) else (.bool false) := by
  by_cases hk : k = (c : Int)
  · subst hk
    rw [if_pos rfl, if_pos ⟨Int.le_refl _, by omega, hway⟩, Int.toNat_natCast, hu]
  · rw [if_neg hk]
    by_cases h : ((c + 1 : Nat) : Int) ≤ k ∧ k < 128 ∧ wayB k L = true
    · rw [if_pos h, if_pos ⟨by omega, h.2⟩]
    · rw [if_neg h, if_neg (fun g => h ⟨by omega, g.2⟩)]
theorem mapSkipB {L : List Int} {f : Nat → Bool} {c : Nat} (hway : wayB (c : Int) L = false) (k : Int) :
    (if ((c + 1 : Nat) : Int) ≤ k ∧ k < 128 ∧ wayB k L = true then Value.bool (f k.toNat) else (.bool false)) = if (c : Int) ≤ k ∧ k < 128 ∧ wayB k L = true then Value.bool (f k.toNat) else (.bool false) := by
  by_cases h : ((c + 1 : Nat) : Int) ≤ k ∧ k < 128 ∧ wayB k L = true
  · rw [if_pos h, if_pos ⟨by omega, h.2⟩]
  · rw [if_neg h, if_neg]
    rintro ⟨h1, h2, h3⟩
    refine h ⟨?_, h2, h3⟩
    rcases Int.lt_or_eq_of_le h1 with h4 | h4
    · omega
    · subst h4; rw [hway] at h3; exact absurd h3 (by decide)
end Go.Proofs.Ytpcmlfohblglaab
