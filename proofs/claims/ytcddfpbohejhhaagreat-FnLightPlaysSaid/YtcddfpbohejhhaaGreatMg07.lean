/- Joined texts: Concat, LastM. -/
import Derived.Test.YtcddfpbohejhhaaGreatMg05
import Derived.Test.YtcddfpbohejhhaaGreatMg06
import Derived.Lib.Hide
namespace Go.Proofs.YtcddfpbohejhhaaGreat
open Go.RowKit

/-- A slice of slices at ao reads as the lists. -/
def RdSS (w : World) (ao : Option Addr) (vss : List (List Int)) : Prop :=
  ∃ vs : List Value, RdV w ao vs ∧ vs.length = vss.length ∧ ∀ j, j < vss.length → ∃ bo cb, vs.getD j undef = .slice bo (vss.getD j []).length cb ∧ RdI w bo (vss.getD j [])
theorem RdSS_below {w w' : World} {ao : Option Addr} {vss : List (List Int)} (h : RdSS w ao vss) (hb : Below w.heap.size w w') : RdSS w' ao vss := by
  obtain ⟨vs, h1, h2, h3⟩ := h
  refine ⟨vs, RdV_below h1 hb, h2, fun j hj => ?_⟩
  obtain ⟨bo, cb, h4, h5⟩ := h3 j hj
  exact ⟨bo, cb, h4, RdI_below h5 hb⟩
/-- Element k, as it lies. -/
theorem RdSS_at {w : World} {ao : Option Addr} {vss : List (List Int)} (h : RdSS w ao vss) {k : Nat} (hk : k < vss.length) :
    ∃ b off bo cb, ao = some ⟨b, off, none⟩ ∧ w.cell? ⟨b, off + k, none⟩ = some (.slice bo (vss.getD k []).length cb) ∧ RdI w bo (vss.getD k []) := by
  obtain ⟨vs, h1, h2, h3⟩ := h
  obtain ⟨bo, cb, h4, h5⟩ := h3 k hk
  rcases h1 with h1 | ⟨b, off, rfl, hb, hc⟩
  · rw [h1, List.length_nil] at h2; omega
  · exact ⟨b, off, bo, cb, rfl, by rw [hc k (by omega), h4], h5⟩
/-- append of a list to a row of the call's own. -/
theorem wpAppendLists {ops : Array Oper} {rest : List Oper} {o : Oper} {a : Act} {Q : Exit → Act → World → Prop} (w : World) (hgd : o.guard = none) (s x : Operand)
    (ho : o.op = .call { callee := .builtin .append, args := #[s, x], argTypes := #[24, 24] })
    (B : Nat) (v : Value) (n : Nat) (xs : List Value) (hs : a.eval s = v) (hown : w.ownsRow B 3 1 v n xs) (p : Option Addr) (c m : Nat) (M : List Int) (hx : a.eval x = .slice p m c) (hm : M.length = m) (hp : RdI w p M) (hM : M ≠ [])
    (hn : n + m ≤ 1000000) (hB : B ≤ w.heap.size)
    (h : ∀ v' w', w'.ownsRow B 3 1 v' (n + m) (xs ++ M.map (Value.int .i64)) → Below B w w' → wpList Tryz.prog ops Q rest (a.put o.dst v') w') :
    wpList Tryz.prog ops Q (o :: rest) a w := by
  obtain ⟨i0, hi, hz0, hz1, hz2⟩ := info_parts infoInt
  rcases hp with hp | ⟨b, off, rfl, hb, hc⟩
  · exact absurd hp hM
  refine wpList_append_own _ hgd s x 24 ho B 3 i0 (.int .i64 0) 1 8 Tryz.underlying24 hi hz0 hz1 hz2 rfl (by decide) v n xs hs hown ⟨b, off, none⟩ m c (M.map (Value.int .i64)) hx (by simp [hm]) (fun j u hu => by
      have hj : j < M.length := by have := (List.getElem?_eq_some_iff.1 hu).1; simpa using this
      rw [Addr.add_lit, hc j hj]
      simp [hj] at hu
      simp [hj, hu]) (by simp [Value.oneCell']) (by unfold maxLen; omega) (by omega) (by omega) ?_
  intro v' w' hr hg _
  exact h v' w' hr ((Below.refl B w).grown hg hB fun k hk => (World.ownsRow.lt hown k hk).1)
/-- append of m zeros that are made on the spot, to the nil slice. -/
theorem wpGrowZeros {ops : Array Oper} {rest : List Oper} {o : Oper} {a : Act} {Q : Exit → Act → World → Prop} (w : World) (hgd : o.guard = none) (s x : Operand)
    (ho : o.op = .call { callee := .builtin .append, args := #[s, x], argTypes := #[24, 3] }) (m : Nat) (hs : a.eval s = .slice none 0 0) (hx : a.eval x = .int .i64 m) (h0 : 0 < m) (hm : m ≤ 1000)
    (h : ∀ g cap w', w'.ownsRow w.heap.size 3 1 (.slice (some ⟨g, 0, none⟩) 0 cap) 0 [] → m ≤ cap → Below w.heap.size w w' → wpList Tryz.prog ops Q rest (a.put o.dst (.slice (some ⟨g, 0, none⟩) m cap)) w') :
    wpList Tryz.prog ops Q (o :: rest) a w := by
  obtain ⟨v', w', h1, h2, h3⟩ := run_append_zeros w o.type w.heap.size (.slice none 0 0) 0 m [] (World.ownsRow_nil _ _ _ _) (by omega) (Nat.le_refl _)
  have hb := (Below.refl w.heap.size w).grown h3 (Nat.le_refl _) (fun k hk => by cases hk)
  have h2' := h2
  rcases h2.2 with ⟨_, hz⟩ | ⟨g, cap, cur, rfl, hBg, hg, r1, _⟩
  · omega
  rw [Nat.zero_add] at h1 h2' r1
  refine wpList_plain hgd fun K hK => ?_
  unfold Oper.wp execOp
  simp only [ho, resolve, invoke, builtin, Sem.run_bind, Sem.run_pure, Result.andThen_ok, List.map_toArray, List.map_cons, List.map_nil, hs, hx, h1]
  exact hK _ _ (h g cap w' (ownsRow_cut h2' (Nat.zero_le _)) r1 hb)
set_option maxHeartbeats 1000000 in
theorem growNil_any (m : Nat) (hm : m ≤ 1000) (w : World) :
    Calls Tryz.prog 68 #[.slice none 0 0, .int .i64 m] w fun e w' => ∃ v, e = .returned v ∧ w'.ownsRow w.heap.size 3 1 v 0 [] ∧ (∃ ao cap, v = .slice ao 0 cap) ∧ Below w.heap.size w w' := by
  by_cases h0 : m = 0
  · subst h0
    have hA1 := @cellAlloc; have hA2 := @frozenAlloc; have hA3 := @setCellAlloc; go_enter Tryz.func68, Tryz.ntmps68
    go_wp2
    go_ret
    exact ⟨_, rfl, World.ownsRow_nil _ _ _ _, ⟨none, 0, rfl⟩, Below.refl _ _⟩
  · have hd : decide ((0 : Int) < (m : Int)) = true := by simp; omega
    have hA1 := @cellAlloc; have hA2 := @frozenAlloc; have hA3 := @setCellAlloc; go_enter Tryz.func68, Tryz.ntmps68
    go_wp2_with (at_builtin; go_must (refine wpGrowZeros _ (by rfl) _ _ (by rfl) m (by rfl) (by rfl) (by omega) hm ?_; intro g cap w2 hown hcap hb2))
    go_ret
    exact ⟨_, rfl, hown, ⟨_, _, rfl⟩, hb2⟩
/-- The lists ahead of place k, joined. -/
def flatTo (vss : List (List Int)) (k : Nat) : List Int := (vss.take k).flatten
theorem flatTo_succ (vss : List (List Int)) (k : Nat) (h : k < vss.length) : flatTo vss (k + 1) = flatTo vss k ++ vss.getD k [] := by
  unfold flatTo
  rw [List.take_add_one, List.getElem?_eq_getElem h, List.flatten_append]
  simp [List.getD_eq_getElem?_getD, h]
theorem flatTo_le (vss : List (List Int)) (k : Nat) : (flatTo vss k).length ≤ vss.flatten.length := by
  have : vss.flatten = flatTo vss k ++ (vss.drop k).flatten := by unfold flatTo; rw [← List.flatten_append, List.take_append_drop]
  rw [this, List.length_append]; omega
theorem flatTo_all (vss : List (List Int)) : flatTo vss vss.length = vss.flatten := by unfold flatTo; rw [List.take_length]
set_option maxHeartbeats 1000000 in
theorem Concat_any (ao : Option Addr) (n cap : Nat) (vss : List (List Int)) (w : World) (hr : RdSS w ao vss) (hn : vss.length = n) (hm : n ≤ 1000000) (hne : ∀ x ∈ vss, x ≠ []) (hl : vss.flatten.length ≤ 1000) :
    Calls Tryz.prog 31 #[.slice ao n cap] w fun e w' => ∃ bo cb, e = .returned (.slice bo vss.flatten.length cb) ∧ ownsInts w' w.heap.size (.slice bo vss.flatten.length cb) vss.flatten ∧ Below w.heap.size w w' := by
  have HN := Lib.hid hn
  have HE := Lib.hid hne
  have HL := Lib.hid hl
  have HR := Lib.hid hr
  clear hn hne hl hr
  have hA1 := @cellAlloc; have hA2 := @frozenAlloc; have hA3 := @setCellAlloc; go_enter Tryz.func31, Tryz.ntmps31
  go_wp2
  go_loop [3, 11] (fun s i => ∃ k : Nat, k ≤ n ∧ i = .int .i64 k ∧ s = .int .i64 ((flatTo vss k).length : Nat)) (fun _ i => n - (intOf i).toNat)
  case atStart => exact ⟨0, by omega, rfl, rfl⟩
  case round =>
    obtain ⟨k, hk, rfl, rfl⟩ := hrel
    have hle := flatTo_le vss k
    have hl := HL.out
    by_cases hlt : k < n
    · have hsucc := congrArg List.length (flatTo_succ vss k (by rw [HN.out]; exact hlt))
      rw [List.length_append] at hsucc
      have hle2 := flatTo_le vss (k + 1)
      obtain ⟨b, off, bo, cb, rfl, hx, _⟩ := RdSS_at HR.out (k := k) (by rw [HN.out]; exact hlt)
      rw [hsucc] at hle2
      generalize (vss.getD k []).length = q at hsucc hx hle2
      generalize (flatTo vss k).length = p at hsucc hle hle2
      have HS := Lib.hid hsucc
      clear hsucc
      generalize vss.flatten.length = t at hle hle2 hl
      go_wp2
      go_round
      case rel => exact ⟨k + 1, by omega, by go_num, by rw [HS.out]; go_num⟩
      case measure => simp [intOf]; omega
    · have hkn : k = n := by omega
      subst hkn
      have hall : flatTo vss k = vss.flatten := by rw [← HN.out]; exact flatTo_all vss
      rw [hall]
      have HG := Lib.hid (growNil_any vss.flatten.length HL.out)
      have HA := Lib.hid hall
      clear hall hle hl
      generalize vss.flatten.length = t at HG ⊢
      go_wp2_with (go_at_call 68; refine (HG.out _).mono ?_; rintro e w1 ⟨v1, rfl, hown1, ⟨ao1, cap1, rfl⟩, hb1⟩)
      go_loopw [6, 27] (fun v i wr => ∃ j : Nat, j ≤ k ∧ i = .int .i64 j ∧ wr.ownsRow w.heap.size 3 1 v (flatTo vss j).length ((flatTo vss j).map (Value.int .i64)) ∧ Below w.heap.size w wr) (fun _ i _ => k - (intOf i).toNat)
      case atStart => exact ⟨0, by omega, rfl, by simpa [flatTo] using hown1, hb1⟩
      case round =>
        obtain ⟨j, hj, rfl, hown, hbw⟩ := hrel
        have hle := flatTo_le vss j
        have hl := HL.out
        by_cases hlt2 : j < k
        · have hd : decide ((j : Int) < (k : Int)) = true := by simp; omega
          have hjl : j < vss.length := by rw [HN.out]; exact hlt2
          have hsucc := flatTo_succ vss j hjl
          have hle2 := flatTo_le vss (j + 1)
          obtain ⟨b, off, bo, cb, rfl, hx, hrd⟩ := RdSS_at (RdSS_below HR.out hbw) (k := j) hjl
          have hne := HE.out (vss.getD j []) (by rw [List.getD_eq_getElem?_getD, List.getElem?_eq_getElem hjl]; exact List.getElem_mem _)
          generalize vss.getD j [] = M at hsucc hx hrd hne
          have hlen := congrArg List.length hsucc
          rw [List.length_append] at hlen
          rw [hlen] at hle2
          generalize flatTo vss j = F1 at hsucc hlen hle2 hle hown
          have HS := Lib.hid hsucc
          generalize hq : M.length = q at hx hle2
          have HQ := Lib.hid hq
          have hbs := hbw.size
          clear hsucc hq hlen
          go_wp2_with (at_builtin; refine wpAppendLists wr (by rfl) _ _ (by rfl) w.heap.size _ F1.length _ (by rfl) hown bo cb q M (by rfl) HQ.out hrd hne (by omega) hbs ?_; intro v2 w2 hown2 hb2)
          go_roundw
          case rel => exact ⟨j + 1, by omega, by go_num, by rw [HS.out, List.map_append, List.length_append, HQ.out]; exact hown2, hbw.trans hb2⟩
          case measure => simp [intOf]; omega
        · have hjk : j = k := by omega
          subst hjk
          rw [HA.out] at hown
          obtain ⟨bo, cb, rfl, _⟩ := ownsG_shape (.inl hown)
          go_wp2
          go_ret
          exact ⟨bo, cb, rfl, .inl hown, hbw⟩
/-- What LastCells hands on: the cell alone where no bar can be lit, else the last cells of the next ones. -/
def lastF (c : Nat) (vss : List (List Int)) : List Int := if vss.length = 0 then [(c : Int)] else setL vss.flatten
set_option maxHeartbeats 1000000 in
theorem LastCells1_any (c : Nat) (hc : c < 128) (ao : Option Addr) (n cap : Nat) (vss : List (List Int)) (w : World) (hr : RdSS w ao vss) (hn : vss.length = n) (hm : n ≤ 1000000) (hne : ∀ x ∈ vss, x ≠ []) (hl : vss.flatten.length ≤ 1000) :
    Calls Tryz.prog 29 #[.int .i64 c, .slice ao n cap] w fun e w' => ∃ bo cb, e = .returned (.slice bo (lastF c vss).length cb) ∧ ownsInts w' w.heap.size (.slice bo (lastF c vss).length cb) (lastF c vss) ∧ Below w.heap.size w w' := by
  unfold lastF
  rw [hn]
  by_cases h0 : n = 0
  · subst h0
    have hA1 := @cellAlloc; have hA2 := @frozenAlloc; have hA3 := @setCellAlloc; go_enter Tryz.func29, Tryz.ntmps29
    go_wp2
    go_ret
    refine ⟨_, _, rfl, .inl ⟨rfl, .inr ⟨w.heap.size, 1, #[.int .i64 c], rfl, Nat.le_refl _, heap_alloc_new _ _, Nat.le_refl _, by unfold maxLen; omega, rfl, rfl⟩⟩, Go.Joins.below_alloc1 _ _⟩
  · rw [if_neg h0]
    have hd : ((n : Int) == 0) = false := by simp; omega
    have HC := Lib.hid (Concat_any ao n cap vss w hr hn hm hne hl)
    have HS := Lib.hid (fun bo cb W h => setOf_any bo vss.flatten.length cb vss.flatten W h rfl (by omega))
    clear hr hn hne hl
    generalize vss.flatten = F at HC HS ⊢
    generalize F.length = t at HC HS
    have hA1 := @cellAlloc; have hA2 := @frozenAlloc; have hA3 := @setCellAlloc; go_enter Tryz.func29, Tryz.ntmps29
    go_wp2_with (first
      | (go_at_call 31; refine HC.out.mono ?_; rintro e w1 ⟨bo, cb, rfl, hown1, hb1⟩)
      | (go_at_call 30; refine (HS.out _ _ _ (RdI_owns hown1)).mono ?_; rintro e w2 ⟨bo2, cb2, rfl, hown2, hb2⟩))
    go_ret
    exact ⟨bo2, cb2, rfl, ownsInts_le hown2 hb1.size, belowThen hb1 hb2⟩
end Go.Proofs.YtcddfpbohejhhaaGreat

namespace Go.Proofs.YtcddfpbohejhhaaGreat
open Go.RowKit

theorem strict_ext : ∀ (l m : List Int), l.Pairwise (· < ·) → m.Pairwise (· < ·) → (∀ x, x ∈ l ↔ x ∈ m) → l = m := by
  intro l
  induction l with
  | nil =>
    intro m _ _ h
    cases m with
    | nil => rfl
    | cons b m => exact absurd ((h b).2 (by simp)) (by simp)
  | cons a l ih =>
    intro m hl hm h
    cases m with
    | nil => exact absurd ((h a).1 (by simp)) (by simp)
    | cons b m =>
      rw [List.pairwise_cons] at hl hm
      have e : a = b := by
        rcases List.mem_cons.1 ((h a).1 (by simp)) with e | h1
        · exact e
        · rcases List.mem_cons.1 ((h b).2 (by simp)) with e | h2
          · exact e.symm
          · have := hm.1 a h1; have := hl.1 b h2; omega
      subst e
      congr 1
      refine ih m hl.2 hm.2 fun x => ⟨fun hx => ?_, fun hx => ?_⟩
      · rcases List.mem_cons.1 ((h x).1 (List.mem_cons_of_mem _ hx)) with e | h1
        · subst e; have := hl.1 x hx; omega
        · exact h1
      · rcases List.mem_cons.1 ((h x).2 (List.mem_cons_of_mem _ hx)) with e | h1
        · subst e; have := hm.1 x hx; omega
        · exact h1
theorem sortL_le (L : List Int) : (sortL L).Pairwise (· ≤ ·) := by
  have := List.pairwise_mergeSort (le := fun (x y : Int) => decide (x ≤ y)) (fun a b c h1 h2 => by simp at *; omega) (fun a b => by simp; omega) L
  exact this.imp fun h => by simpa using h
theorem sortL_mem (L : List Int) (x : Int) : x ∈ sortL L ↔ x ∈ L := List.mem_mergeSort
theorem compact_mem (zs : List Int) (x : Int) : x ∈ Lib.compact zs ↔ x ∈ zs := by
  unfold Lib.compact Lib.compactUpTo
  simp only [List.mem_map, List.mem_filter, List.mem_range]
  constructor
  · rintro ⟨j, ⟨hj, _⟩, rfl⟩
    rw [getElem!_pos _ _ (by simpa using hj)]
    simp
  · intro hx
    obtain ⟨j, hj, rfl⟩ := List.getElem_of_mem hx
    have key : ∀ j (hj : j < zs.length), ∃ i, (i < zs.length ∧ Lib.keeps zs.toArray i = true) ∧ zs.toArray[i]! = zs[j] := by
      intro j
      induction j with
      | zero => exact fun h0 => ⟨0, ⟨h0, by simp [Lib.keeps]⟩, by rw [getElem!_pos _ _ (by simpa using h0)]; simp⟩
      | succ j ih =>
        intro hj
        by_cases h : zs.toArray[j + 1]! = zs.toArray[j]!
        · obtain ⟨i, h1, h2⟩ := ih (by omega)
          refine ⟨i, h1, h2.trans ?_⟩
          rw [getElem!_pos _ _ (by simpa using hj), getElem!_pos _ _ (by simp; omega)] at h
          simpa using h.symm
        · exact ⟨j + 1, ⟨hj, by unfold Lib.keeps; rw [decide_eq_true_eq]; exact .inr (by simpa using h)⟩, by rw [getElem!_pos _ _ (by simpa using hj)]; simp⟩
    exact key j hj
theorem compact_strict (zs : List Int) (h : zs.Pairwise (· ≤ ·)) : (Lib.compact zs).Pairwise (· < ·) := by
  unfold Lib.compact Lib.compactUpTo
  rw [List.pairwise_map]
  have hr : ((List.range zs.length).filter (Lib.keeps zs.toArray)).Pairwise (· < ·) := List.Pairwise.filter _ List.pairwise_lt_range
  have hm : ∀ i ∈ (List.range zs.length).filter (Lib.keeps zs.toArray), i < zs.length ∧ Lib.keeps zs.toArray i = true := by
    intro i hi
    simpa [List.mem_filter] using hi
  refine hr.imp_of_mem ?_
  intro i j hi hj hij
  obtain ⟨h1, _⟩ := hm i hi
  obtain ⟨h3, h4⟩ := hm j hj
  have hle : ∀ a b (ha : a < zs.length) (hb : b < zs.length), a < b → zs[a] ≤ zs[b] := fun a b ha hb hab => List.pairwise_iff_getElem.1 h a b ha hb hab
  unfold Lib.keeps at h4
  rw [decide_eq_true_eq] at h4
  rcases h4 with h4 | h4
  · omega
  rw [getElem!_pos _ j (by simpa using h3), getElem!_pos _ (j - 1) (by simp; omega)] at h4
  rw [getElem!_pos _ j (by simpa using h3), getElem!_pos _ i (by simpa using h1)]
  simp only [List.getElem_toArray] at h4 ⊢
  have a1 := hle (j - 1) j (by omega) h3 (by omega)
  by_cases e : i = j - 1
  · subst e; omega
  · have a2 := hle i (j - 1) h1 (by omega) (by omega)
    omega
theorem setL_strict (L : List Int) : (setL L).Pairwise (· < ·) := compact_strict _ (sortL_le L)
theorem setL_mem (L : List Int) (x : Int) : x ∈ setL L ↔ x ∈ L := (compact_mem _ x).trans (sortL_mem L x)

/-- All bars of the one cell light in the other. -/
def subB (c x : Nat) : Bool := x &&& c == c
/-- No bar can be lit in a cell. -/
def endB (L : List Int) (x : Nat) : Bool := (List.range 7).all fun b => !nextB L x b
/-- A play from the one cell can end at the other. -/
def lastB (L : List Int) (c x : Nat) : Bool := subB c x && wayB (x : Int) L && endB L x
def lastP (L : List Int) (c k : Nat) : List Nat := (List.range k).filter (lastB L c)
theorem bar_between : ∀ c : Fin 128, ∀ y : Fin 128, y.val &&& c.val = c.val → y ≠ c → ∃ b : Fin 7, (c.val ||| 2 ^ b.val) ≠ c.val ∧ y.val &&& (c.val ||| 2 ^ b.val) = (c.val ||| 2 ^ b.val) := by decide +kernel
theorem sub_refl (c : Nat) : subB c c = true := by simp [subB]
theorem sub_trans {a b c : Nat} (h : subB a b = true) (k : subB b c = true) : subB a c = true := by
  simp only [subB, beq_iff_eq] at *
  apply Nat.eq_of_testBit_eq
  intro i
  have h1 := congrArg (fun n => n.testBit i) h
  have h2 := congrArg (fun n => n.testBit i) k
  simp only [Nat.testBit_and] at h1 h2 ⊢
  cases ha : a.testBit i <;> cases hb : b.testBit i <;> cases hc : c.testBit i <;> simp_all
theorem sub_bar (c b : Nat) : subB c (c ||| 2 ^ b) = true := by
  simp only [subB, beq_iff_eq]
  apply Nat.eq_of_testBit_eq
  intro i
  simp only [Nat.testBit_and, Nat.testBit_or]
  cases c.testBit i <;> simp
theorem onP_sub (c : Nat) (hc : c < 128) (x : Int) : onP (c : Int) x = subB c (digC x.toNat) := by
  have hd := digC_lt x.toNat
  have := and_full ⟨c, hc⟩ ⟨digC x.toNat, hd⟩
  simp only at this
  unfold onP subB
  rw [andNot64 _ _ (by omega) (by omega), Nat.and_comm (digC x.toNat) c, this]
  rw [Bool.eq_iff_iff]
  simp only [beq_iff_eq]
  omega
theorem way_sub {L : List Int} {c x : Nat} (hc : c < 128) (hx : x < 128) (h : subB c x = true) (hw : wayB (x : Int) L = true) : wayB (c : Int) L = true := by
  unfold wayB at hw ⊢
  rw [List.any_eq_true] at hw ⊢
  obtain ⟨d, hd, h2⟩ := hw
  rw [onP_sub x hx] at h2
  exact ⟨d, hd, by rw [onP_sub c hc]; exact sub_trans h h2⟩
theorem litL_nil (L : List Int) (c : Nat) : litL L c = [] ↔ endB L c = true := by
  unfold litL litP endB
  rw [List.map_eq_nil_iff, List.filter_eq_nil_iff, List.all_eq_true]
  simp
theorem lastP_mem {L : List Int} {c x : Nat} : x ∈ lastP L c 128 ↔ x < 128 ∧ lastB L c x = true := by simp [lastP, List.mem_filter]
theorem lastB_iff {L : List Int} {c x : Nat} : lastB L c x = true ↔ subB c x = true ∧ wayB (x : Int) L = true ∧ endB L x = true := by simp [lastB, and_assoc]
theorem lastP_next {L : List Int} {c : Nat} (hc : c < 128) (hw : wayB (c : Int) L = true) (x : Nat) :
    x ∈ lastP L c 128 ↔ (litL L c = [] ∧ x = c) ∨ ∃ y ∈ litL L c, x ∈ lastP L y 128 := by
  simp only [lastP_mem, lastB_iff]
  constructor
  · rintro ⟨hx, h1, h2, h3⟩
    by_cases e : x = c
    · subst e; exact .inl ⟨(litL_nil L x).2 h3, rfl⟩
    · right
      obtain ⟨b, hb1, hb2⟩ := bar_between ⟨c, hc⟩ ⟨x, hx⟩ (by simpa [subB] using h1) (fun h => e (by simpa using h))
      have hs : subB (c ||| 2 ^ b.val) x = true := by simpa [subB] using hb2
      have hl := lor_lt c b.val hc b.isLt
      refine ⟨c ||| 2 ^ b.val, ?_, hx, hs, h2, h3⟩
      simp only [litL, litP, List.mem_map, List.mem_filter, List.mem_range]
      exact ⟨b.val, ⟨b.isLt, by simp only [nextB, Bool.and_eq_true, bne_iff_ne, ne_eq]; exact ⟨hb1, way_sub hl hx hs h2⟩⟩, rfl⟩
  · rintro (⟨h, rfl⟩ | ⟨y, hy, hx, h1, h2, h3⟩)
    · exact ⟨hc, sub_refl _, hw, (litL_nil L x).1 h⟩
    · refine ⟨hx, ?_, h2, h3⟩
      simp only [litL, litP, List.mem_map, List.mem_filter, List.mem_range] at hy
      obtain ⟨b, _, rfl⟩ := hy
      exact sub_trans (sub_bar c b) h1
theorem lastP_strict (L : List Int) (c : Nat) : (ints (lastP L c 128)).Pairwise (· < ·) := by
  unfold ints
  rw [List.pairwise_map]
  have : (lastP L c 128).Pairwise (· < ·) := List.Pairwise.filter _ List.pairwise_lt_range
  exact this.imp fun h => by omega
theorem ints_mem (l : List Nat) (x : Int) : x ∈ ints l ↔ ∃ n ∈ l, (n : Int) = x := by simp [ints]
/-- What the tables hold: the last cells, in order. -/
theorem valC_last (L : List Int) : ∀ (k c : Nat), c < 128 → 128 - c ≤ k → wayB (c : Int) L = true → valC L lastF c = ints (lastP L c 128) := by
  intro k
  induction k with
  | zero => intro c hc h; omega
  | succ k ih =>
    intro c hc hk hw
    rw [valC_eq L lastF c hc]
    have hnext := lastP_next hc hw
    have hmem : ∀ y, y ∈ litL L c → valC L lastF y = ints (lastP L y 128) := by
      intro y hy
      have := litP_mem hc (Nat.le_refl 7) hy
      exact ih y this.2.1 (by omega) this.2.2
    show (if ((litL L c).map (valC L lastF)).length = 0 then [(c : Int)] else setL ((litL L c).map (valC L lastF)).flatten) = _
    rw [List.length_map]
    by_cases h0 : litL L c = []
    · rw [if_pos (by rw [h0]; rfl)]
      refine strict_ext _ _ (by simp) (lastP_strict L c) fun x => ?_
      rw [ints_mem]
      simp only [List.mem_singleton]
      constructor
      · rintro rfl
        exact ⟨c, (hnext c).2 (.inl ⟨h0, rfl⟩), rfl⟩
      · rintro ⟨n, hn, rfl⟩
        rcases (hnext n).1 hn with ⟨_, rfl⟩ | ⟨y, hy, _⟩
        · rfl
        · rw [h0] at hy; cases hy
    · rw [if_neg (by rw [List.length_eq_zero_iff]; exact h0)]
      refine strict_ext _ _ (setL_strict _) (lastP_strict L c) fun x => ?_
      rw [setL_mem, ints_mem]
      simp only [List.mem_flatten, List.mem_map]
      constructor
      · rintro ⟨_, ⟨y, hy, rfl⟩, hx⟩
        rw [hmem y hy, ints_mem] at hx
        obtain ⟨n, hn, rfl⟩ := hx
        exact ⟨n, (hnext n).2 (.inr ⟨y, hy, hn⟩), rfl⟩
      · rintro ⟨n, hn, rfl⟩
        rcases (hnext n).1 hn with ⟨h, _⟩ | ⟨y, hy, hx⟩
        · exact absurd h h0
        · exact ⟨_, ⟨y, hy, rfl⟩, by rw [hmem y hy, ints_mem]; exact ⟨n, hx, rfl⟩⟩
theorem lastP_ne (L : List Int) : ∀ (k c : Nat), c < 128 → 128 - c ≤ k → wayB (c : Int) L = true → lastP L c 128 ≠ [] := by
  intro k
  induction k with
  | zero => intro c hc h; omega
  | succ k ih =>
    intro c hc hk hw he
    have hnext := lastP_next hc hw
    rw [he] at hnext
    cases hl : litL L c with
    | nil => exact absurd ((hnext c).2 (.inl ⟨hl, rfl⟩)) (by simp)
    | cons y l =>
      have hy : y ∈ litL L c := by rw [hl]; simp
      have := litP_mem hc (Nat.le_refl 7) hy
      have hne := ih y this.2.1 (by omega) this.2.2
      obtain ⟨x, hx⟩ := List.exists_mem_of_ne_nil _ hne
      exact absurd ((hnext x).2 (.inr ⟨y, hy, hx⟩)) (by simp)
theorem lastP_le (L : List Int) (c k : Nat) : (lastP L c k).length ≤ k := Nat.le_trans (List.length_filter_le _ _) (by simp)
theorem lastV_ne {L : List Int} {c : Nat} (hc : c < 128) (hw : wayB (c : Int) L = true) : valC L lastF c ≠ [] := by
  rw [valC_last L 128 c hc (by omega) hw]
  intro h
  exact lastP_ne L 128 c hc (by omega) hw (by simpa [ints] using h)
theorem lastV_le {L : List Int} {c : Nat} (hc : c < 128) (hw : wayB (c : Int) L = true) : (valC L lastF c).length ≤ 128 := by
  rw [valC_last L 128 c hc (by omega) hw, ints_length]
  exact lastP_le L c 128
theorem flat_le (vss : List (List Int)) (h : ∀ x ∈ vss, x.length ≤ 128) : vss.flatten.length ≤ vss.length * 128 := by
  induction vss with
  | nil => simp
  | cons a l ih =>
    rw [List.flatten_cons, List.length_append, List.length_cons]
    have := h a (by simp)
    have := ih fun x hx => h x (by simp [hx])
    omega
theorem lastP_succ (L : List Int) (c k : Nat) : lastP L c (k + 1) = if lastB L c k = true then lastP L c k ++ [k] else lastP L c k := by
  simp only [lastP, List.range_succ, List.filter_append]
  split <;> simp_all [List.filter_cons]
end Go.Proofs.YtcddfpbohejhhaaGreat
