/- Slices that a call makes: what is owned of them, how they are read later, and append's law for them. -/
import Derived.Test.YtjcbffkdemadnaaBase
import Derived.Maps.AppendAt
namespace Go.Proofs.Ytjcbffkdemadnaa
open Go.RowKit

/-- The slice value v owns a row of elements of type e, in a block from B on; or it is empty and has no room, wherever it points. -/
def ownsG (w : World) (B : Nat) (e : TypeId) (size : Nat) (v : Value) (n : Nat) (xs : List Value) : Prop :=
  w.ownsRow B e size v n xs ∨ (n = 0 ∧ xs = [] ∧ ∃ a, v = .slice (some a) 0 0)
theorem ownsG_len {w : World} {B : Nat} {e : TypeId} {size : Nat} {v : Value} {n : Nat} {xs : List Value} (h : ownsG w B e size v n xs) : xs.length = n * size := by
  rcases h with h | ⟨rfl, rfl, _⟩
  · exact h.1
  · simp
/-- What is owned stays owned in a world that differs in new blocks alone. -/
theorem ownsRow_below {w w' : World} {B C : Nat} {e : TypeId} {size : Nat} {v : Value} {n : Nat} {xs : List Value} (h : w.ownsRow B e size v n xs) (hb : Below w.heap.size w w') (hC : C ≤ B) : w'.ownsRow C e size v n xs := by
  refine ⟨h.1, ?_⟩
  rcases h.2 with h2 | ⟨g, cap, cur, hv, hBg, hg, r⟩
  · exact .inl h2
  · exact .inr ⟨g, cap, cur, hv, by omega, by rw [hb.block g (Array.getElem?_eq_some_iff.1 hg).1]; exact hg, r⟩
theorem ownsG_below {w w' : World} {B C : Nat} {e : TypeId} {size : Nat} {v : Value} {n : Nat} {xs : List Value} (h : ownsG w B e size v n xs) (hb : Below w.heap.size w w') (hC : C ≤ B) : ownsG w' C e size v n xs := by
  rcases h with h | h
  · exact .inl (ownsRow_below h hb hC)
  · exact .inr h
theorem ownsG_alloc {w : World} {B : Nat} {e : TypeId} {size : Nat} {v : Value} {n : Nat} {xs : List Value} (h : ownsG w B e size v n xs) (o : Obj) : ownsG (w.alloc o) B e size v n xs := by
  rcases h with h | h
  · exact .inl (World.ownsRow.alloc h o)
  · exact .inr h
/-- The shape of an owned slice, and its cells. -/
theorem ownsG_shape {w : World} {B : Nat} {e : TypeId} {size : Nat} {v : Value} {n : Nat} {xs : List Value} (h : ownsG w B e size v n xs) : ∃ ao cap, v = .slice ao n cap ∧
    ((n = 0 ∧ xs = []) ∨ ∃ g, ao = some ⟨g, 0, none⟩ ∧ B ≤ g ∧ g < w.heap.size ∧ n ≤ cap ∧ (∀ j, j < n * size → w.cell? ⟨g, j, none⟩ = xs[j]?) ∧ (∀ j, w.frozen? ⟨g, j, none⟩ = false) ∧ w.ownsRow B e size (.slice (some ⟨g, 0, none⟩) n cap) n xs) := by
  rcases h with h | ⟨rfl, rfl, a, rfl⟩
  · have h2 := h
    rcases h.2 with ⟨rfl, rfl⟩ | ⟨g, cap, cur, rfl, hb, hg, hnc, _⟩
    · exact ⟨none, 0, rfl, .inl ⟨rfl, List.eq_nil_of_length_eq_zero (by simpa using h.1)⟩⟩
    · exact ⟨some ⟨g, 0, none⟩, cap, rfl, .inr ⟨g, rfl, hb, (Array.getElem?_eq_some_iff.1 hg).1, hnc, fun j hj => World.ownsRow.cellAt h2 j hj, fun j => World.ownsRow.frozenAt h2 j, h2⟩⟩
  · exact ⟨_, _, rfl, .inl ⟨rfl, rfl⟩⟩

/-- append to a slice of the call's own, whatever its elements. -/
theorem wpAppendG {ops : Array Oper} {rest : List Oper} {o : Oper} {a : Act} {Q : Exit → Act → World → Prop} (w : World) (hgd : o.guard = none) (s x : Operand) (ts e : TypeId) (z : Value) (size bytes : Nat)
    (ho : o.op = .call { callee := .builtin .append, args := #[s, x], argTypes := #[ts, ts] }) (hts : Try.prog.underlying ts = some (.slice e))
    (hin : (Try.prog.info? e).map (fun i => (i.zero, i.size, i.bytes)) = some (some z, size, bytes)) (hzs : z.cells.size = size) (hsz : 0 < size) (hby : bytes ≤ 100)
    (B : Nat) (v : Value) (n : Nat) (xs : List Value) (hs : a.eval s = v) (hown : ownsG w B e size v n xs) (news : List Value) (t' : TypeId) (hx : a.eval x = .slice (some ⟨w.heap.size, 0, none⟩) 1 1) (hl : news.length = size) (h1 : ∀ u ∈ news, u.oneCell' = true)
    (hn : n ≤ 1000000000) (hB : B ≤ w.heap.size)
    (h : ∀ ao cap w', ownsG w' B e size (.slice ao (n + 1) cap) (n + 1) (xs ++ news) → Below B w w' → (∀ k, k < w.heap.size → (v.ownBlock = some k → ∀ cur, w.heap[k]? ≠ some (.cells cur e (0, 0))) → w'.heap[k]? = w.heap[k]?) → wpList Try.prog ops Q rest (a.put o.dst (.slice ao (n + 1) cap)) w') :
    wpList Try.prog ops Q (o :: rest) a (w.alloc (.cells news.toArray t')) := by
  obtain ⟨i0, hi, hz0, hz1, hz2⟩ := info_parts hin
  have hb1 : (n + 1) * bytes ≤ 140737488355328 := by
    have : (n + 1) * bytes ≤ (n + 1) * 100 := Nat.mul_le_mul_left _ hby
    omega
  have hnews : ∀ j u, news[j]? = some u → (w.alloc (.cells news.toArray t')).cell? ((⟨w.heap.size, 0, none⟩ : Addr).add j) = some u := by
    intro j u hu
    rw [Addr.add_lit, World.cell?_alloc_at _ _ _ _ rfl]
    simpa using hu
  have fin : ∀ v' w', w'.ownsRow B e size v' (n + 1) (xs ++ news) → Below B w w' → (∀ k, k < w.heap.size → (v.ownBlock = some k → ∀ cur, w.heap[k]? ≠ some (.cells cur e (0, 0))) → w'.heap[k]? = w.heap[k]?) → wpList Try.prog ops Q rest (a.put o.dst v') w' := by
    intro v' w' hr hb hk
    obtain ⟨ao, cap, rfl, _⟩ := ownsG_shape (.inl hr)
    exact h ao cap w' (.inl hr) hb hk
  rcases hown with hown | ⟨rfl, rfl, a0, rfl⟩
  · refine wpList_append_own _ hgd s x ts ho B e i0 z size bytes hts hi hz0 hz1 hz2 hzs hsz v n xs hs (World.ownsRow.alloc hown _) ⟨w.heap.size, 0, none⟩ 1 1 news hx (by simpa using hl) hnews h1 (by unfold maxLen; omega) hb1 (by simp; omega) ?_
    intro v' w' hr hg _
    refine fin v' w' hr (((Below.refl B w).alloc hB _).grown hg (by simp; omega) fun k hk => (World.ownsRow.lt hown k hk).1) fun k hk hne => ?_
    rw [hg.block k (by simp; omega) ?_, Below.heap_alloc _ _ _ hk]
    intro hc
    rcases hown.2 with ⟨rfl, _⟩ | ⟨g, _, cur, rfl, _, hgg, _⟩
    · simp [Value.ownBlock] at hc
    · simp only [Value.ownBlock, Option.some.injEq] at hc
      subst hc
      exact hne rfl cur hgg
  · refine wpList_append_grows _ hgd s x ts ho e i0 z size bytes hts hi hz0 hz1 hz2 hzs hsz (some a0) 0 0 [] hs (by simp) (by simp) (by simp) ⟨w.heap.size, 0, none⟩ 1 1 news hx (by simpa using hl) hnews h1 (by omega) (by unfold maxLen; omega) hb1 ?_
    intro v' w' hr hg
    have hr2 : w'.ownsRow B e size v' (0 + 1) ([] ++ news) := by
      refine ⟨hr.1, ?_⟩
      rcases hr.2 with h2 | ⟨g, cap, cur, hv, hBg, r⟩
      · exact .inl h2
      · exact .inr ⟨g, cap, cur, hv, by simp at hBg; omega, r⟩
    refine fin v' w' hr2 (((Below.refl B w).alloc hB _).grown hg (by simp; omega) fun k hk => by cases hk) fun k hk hne => ?_
    rw [hg.block k (by simp; omega) (by simp), Below.heap_alloc _ _ _ hk]

theorem infoInt : (Try.prog.info? 3).map (fun i => (i.zero, i.size, i.bytes)) = some (some (.int .i64 0), 1, 8) := by kernel_rfl
/-- The slice value v owns a row of the numbers L, in a block from B on. -/
def ownsInts (w : World) (B : Nat) (v : Value) (L : List Int) : Prop := ownsG w B 3 1 v L.length (L.map (Value.int .i64))
theorem ownsInts_nil (w : World) (B : Nat) : ownsInts w B (.slice none 0 0) [] := .inl (World.ownsRow_nil w B _ _)
theorem ownsInts_zero (w : World) (B : Nat) (a : Addr) : ownsInts w B (.slice (some a) 0 0) [] := .inr ⟨rfl, rfl, a, rfl⟩
theorem ownsInts_shape {w : World} {B : Nat} {v : Value} {L : List Int} (h : ownsInts w B v L) : ∃ ao cap, v = .slice ao L.length cap ∧
    (L = [] ∨ ∃ g, ao = some ⟨g, 0, none⟩ ∧ B ≤ g ∧ g < w.heap.size ∧ L.length ≤ cap ∧ ∀ j, j < L.length → w.cell? ⟨g, j, none⟩ = some (.int .i64 (L.getD j 0))) := by
  obtain ⟨ao, cap, rfl, ⟨hn, _⟩ | ⟨g, rfl, hb, hg, hc, hcell, _⟩⟩ := ownsG_shape h
  · have : L = [] := List.eq_nil_of_length_eq_zero hn
    subst this
    exact ⟨ao, cap, rfl, .inl rfl⟩
  · refine ⟨_, cap, rfl, .inr ⟨g, rfl, hb, hg, hc, fun j hj => ?_⟩⟩
    rw [hcell j (by omega)]
    simp [hj]
theorem ownsInts_frozen {w : World} {B g n cap : Nat} {L : List Int} (h : ownsInts w B (.slice (some ⟨g, 0, none⟩) n cap) L) (hp : 0 < L.length) (j : Nat) : w.frozen? ⟨g, j, none⟩ = false := by
  obtain ⟨ao, cap', he, ⟨hn, _⟩ | ⟨g', rfl, _, _, _, _, hf, _⟩⟩ := ownsG_shape h
  · omega
  · simp only [Value.slice.injEq, Option.some.injEq, Addr.mk.injEq] at he
    obtain ⟨⟨rfl, _⟩, _⟩ := he
    exact hf j
theorem ownsInts_below {w w' : World} {B C : Nat} {v : Value} {L : List Int} (h : ownsInts w B v L) (hb : Below w.heap.size w w') (hC : C ≤ B) : ownsInts w' C v L := ownsG_below h hb hC
theorem ownsInts_le {w : World} {B C : Nat} {v : Value} {L : List Int} (h : ownsInts w B v L) (hC : C ≤ B) : ownsInts w C v L := ownsInts_below h (Below.refl _ _) hC
theorem ownsInts_drew {w : World} {B : Nat} {v : Value} {L : List Int} (h : ownsInts w B v L) : ownsInts w.drew B v L := ownsInts_below h ((Below.refl _ _).drew) (Nat.le_refl _)
/-- append of one number to a slice of the call's own. -/
theorem wpAppendInt {ops : Array Oper} {rest : List Oper} {o : Oper} {a : Act} {Q : Exit → Act → World → Prop} (w : World) (hgd : o.guard = none) (s x : Operand)
    (ho : o.op = .call { callee := .builtin .append, args := #[s, x], argTypes := #[37, 37] })
    (B : Nat) (v : Value) (L : List Int) (hs : a.eval s = v) (hown : ownsInts w B v L) (z : Int) (hx : a.eval x = .slice (some ⟨w.heap.size, 0, none⟩) 1 1)
    (hn : L.length ≤ 1000000000) (hB : B ≤ w.heap.size)
    (h : ∀ ao cap w', ownsInts w' B (.slice ao (L.length + 1) cap) (L ++ [z]) → Below B w w' → wpList Try.prog ops Q rest (a.put o.dst (.slice ao (L.length + 1) cap)) w') :
    wpList Try.prog ops Q (o :: rest) a (w.alloc (.cells #[.int .i64 z] 3)) :=
  wpAppendG w hgd s x _ _ (.int .i64 0) 1 8 ho Try.underlying37 infoInt rfl (by decide) (by decide) B v L.length _ hs hown [.int .i64 z] _ hx rfl (by simp [Value.oneCell']) hn hB
    fun ao cap w' h2 hb _ => h ao cap w' (by unfold ownsInts; simpa using h2) hb
end Go.Proofs.Ytjcbffkdemadnaa
