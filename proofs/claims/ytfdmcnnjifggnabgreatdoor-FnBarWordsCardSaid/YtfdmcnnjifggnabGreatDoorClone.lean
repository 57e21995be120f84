/- append of whole slices; contracts of the functions that copy a slice. -/
import Derived.Test.YtfdmcnnjifggnabGreatDoorRd
import Derived.Lib.Hide
import Derived.ArgAppend
import Derived.Lib.SliceRun
import Derived.WalkKit
import Derived.Deep.DeepMust
namespace Go.Proofs.YtfdmcnnjifggnabGreatDoor
open Go.RowKit

/-- append of a whole slice of numbers to an empty slice without room. -/
theorem wpAppendMany {ops : Array Oper} {rest : List Oper} {o : Oper} {a : Act} {Q : Exit → Act → World → Prop} (w : World) (hgd : o.guard = none) (s x : Operand)
    (ho : o.op = .call { callee := .builtin .append, args := #[s, x], argTypes := #[25, 25] })
    (b off : Nat) (hs : a.eval s = .slice (some ⟨b, off, none⟩) 0 0) (ad : Addr) (L : List Int) (n c : Nat) (hx : a.eval x = .slice (some ad) n c) (hL : L.length = n)
    (hc : ∀ j, j < n → w.cell? (ad.add j) = some (.int .i64 (L.getD j 0))) (hn : n ≤ 1000000) (B : Nat) (hB : B ≤ w.heap.size)
    (h : ∀ ao cap w', ownsInts w' B (.slice ao n cap) L → (n = 0 ∨ ∃ g, ao = some ⟨g, 0, none⟩) → Below w.heap.size w w' → wpList Tryz.prog ops Q rest (a.put o.dst (.slice ao n cap)) w') :
    wpList Tryz.prog ops Q (o :: rest) a w := by
  obtain ⟨i0, hi, hz0, hz1, hz2⟩ := info_parts infoInt
  refine wpList_append_arg w hgd s x _ ho 3 i0 (.int .i64 0) 1 8 Tryz.underlying25 hi hz0 hz1 hz2 rfl (by decide) b off 0 0 [] hs rfl (by simp) ad n c (L.map (Value.int .i64)) hx (by simp [hL]) ?_ ?_ ?_ (by unfold maxLen; omega) (by omega) ?_ ?_
  · intro j u hu
    rw [List.getElem?_map] at hu
    obtain ⟨v, hv, rfl⟩ := Option.map_eq_some_iff.1 hu
    have hj : j < L.length := (List.getElem?_eq_some_iff.1 hv).1
    rw [hc j (by omega), List.getD_eq_getElem?_getD, hv]
    rfl
  · intro u hu
    rw [List.mem_map] at hu
    obtain ⟨v, _, rfl⟩ := hu
    simp [Value.oneCell']
  · intro h0 j hj
    simp at hj; omega
  · intro h0
    have hn0 : n = 0 := by omega
    subst hn0
    have : L = [] := List.eq_nil_of_length_eq_zero hL
    subst this
    exact h _ _ _ (ownsInts_zero _ _ _) (.inl rfl) (Below.refl _ _)
  · intro h0 v' w' hr hg
    have hb : Below w.heap.size w w' := (Below.refl _ _).grown hg (Nat.le_refl _) (fun k hk => by cases hk)
    have hr2 : ownsInts w' B v' L := by
      refine .inl ?_
      rw [hL]
      have hr' := hr
      rw [Nat.zero_add, List.nil_append] at hr'
      exact ⟨hr'.1, by
        rcases hr'.2 with h2 | ⟨g, cap, cur, hv, hBg, r⟩
        · exact .inl h2
        · exact .inr ⟨g, cap, cur, hv, by omega, r⟩⟩
    obtain ⟨ao, cap, rfl, hsh⟩ := ownsInts_shape hr2
    rw [hL] at hr2 ⊢
    refine h ao cap w' hr2 ?_ hb
    rcases hsh with h3 | ⟨g, h3, _⟩
    · left; rw [h3] at hL; simpa using hL.symm
    · exact .inr ⟨g, h3⟩
theorem rd_at {w : World} {ad : Addr} {L : List Int} {n : Nat} (hr : RdI w (some ad) L) (hn : L.length = n) : ∀ j, j < n → w.cell? (ad.add j) = some (.int .i64 (L.getD j 0)) := by
  intro j hj
  rcases hr with h | ⟨b, o, he, _, hc⟩
  · rw [h] at hn; simp at hn; omega
  · simp only [Option.some.injEq] at he
    subst he
    rw [Addr.add_lit]
    exact hc j (by omega)
theorem Clone_any (ad : Addr) (n cap : Nat) (L : List Int) (w : World) (hr : RdI w (some ad) L) (hn : L.length = n) (hm : n ≤ 1000000) :
    Calls Tryz.prog 98 #[.slice (some ad) n cap] w fun e w' => ∃ ao c, e = .returned (.slice ao n c) ∧ ownsInts w' w.heap.size (.slice ao n c) L ∧ Below w.heap.size w w' := by
  have HN := Lib.hid hn
  have HR := Lib.hid (rd_at (RdI_below hr (Go.Joins.below_alloc1 w (.cells #[] 3))) hn)
  clear hr hn
  have hnil : ∀ W : World, (binOp .eql 25 (.slice (some ad) n cap) (.slice none 0 0)).run Tryz.prog W = .ok (.bool false) W := fun W => Lib.run_eql_slice_nil W 25 3 (some ad) n cap 0 0 Tryz.underlying25
  have hA1 := @cellAlloc; have hA2 := @frozenAlloc; have hA3 := @setCellAlloc; go_enter Tryz.func98, Tryz.ntmps98
  go_wp2_with (first | (at_builtin; go_must (refine wpAppendMany (w.alloc (.cells #[] 3)) (by rfl) _ _ (by rfl) w.heap.size 0 (by rfl) ad L n cap (by rfl) HN.out HR.out hm w.heap.size (by simp) ?_; intro ao c w2 hown _ hb)))
  go_ret
  exact ⟨ao, c, rfl, hown, belowThen (Go.Joins.below_alloc1 _ _) hb⟩
theorem CloneN_any (ao : Option Addr) (n cap : Nat) (L : List Int) (w : World) (hr : RdI w ao L) (hn : L.length = n) (hm : n ≤ 1000000) :
    Calls Tryz.prog 98 #[.slice ao n cap] w fun e w' => ∃ ao c, e = .returned (.slice ao n c) ∧ ownsInts w' w.heap.size (.slice ao n c) L ∧ Below w.heap.size w w' := by
  rcases ao with _ | ad
  · have hL : L = [] := by
      rcases hr with h | ⟨_, _, h, _⟩
      · exact h
      · cases h
    subst hL
    have hn0 : n = 0 := by simpa using hn.symm
    subst hn0
    have hnil : ∀ W : World, (binOp .eql 25 (.slice none 0 cap) (.slice none 0 0)).run Tryz.prog W = .ok (.bool true) W := fun W => Lib.run_eql_slice_nil W 25 3 none 0 cap 0 0 Tryz.underlying25
    have hA1 := @cellAlloc; have hA2 := @frozenAlloc; have hA3 := @setCellAlloc; go_enter Tryz.func98, Tryz.ntmps98
    go_wp2
    go_ret
    exact ⟨none, 0, rfl, ownsInts_nil _ _, Below.refl _ _⟩
  · exact Clone_any ad n cap L w hr hn hm
end Go.Proofs.YtfdmcnnjifggnabGreatDoor
