/- Joined texts: All, TabI, ValI. -/
import Derived.Test.YtcddfpbohejhhaaGreatMg09
import Derived.Lib.Hide
import Derived.Deep.OwnRows
import Derived.Deep.LoopGhost
import Derived.Deep.DeepFit
import Derived.Test.YtcddfpbohejhhaaGreatMg05
import Derived.Test.YtcddfpbohejhhaaGreatMg02
namespace Go.Proofs.YtcddfpbohejhhaaGreat
open Go.RowKit

theorem infoKnown : (Tryz.prog.info? 56).map (fun i => (i.zero, i.size, i.bytes)) = some (some (.agg #[.int .i64 0, .bool false, .int .i64 0, .int .i64 0, .int .i64 0]), 5, 40) := by kernel_rfl
def kn0 : Kn := ⟨0, false, 0, 0, 0⟩
def allK (L : List Int) (m i : Nat) : Kn := if m ≤ i then valC L knF i else kn0
/-- The cells of the table from m on. -/
def allF (L : List Int) (m j : Nat) : Value := (knV (allK L m (j / 5))).getD (j % 5) undef
/-- The table lies in a block. -/
def AllOwn (w : World) (g : Nat) (L : List Int) : Prop := g < w.heap.size ∧ ∀ j, j < 640 → w.cell? ⟨g, j, none⟩ = some (allF L 0 j)
theorem allF_at (L : List Int) (m c j : Nat) (hj : j < 5) : allF L m (c * 5 + j) = (knV (allK L m c)).getD j undef := by
  unfold allF
  rw [show (c * 5 + j) / 5 = c by omega, show (c * 5 + j) % 5 = j by omega]
theorem AllOwn_at {w : World} {g : Nat} {L : List Int} (h : AllOwn w g L) (c : Nat) (hc : c < 128) :
    w.cell? ⟨g, c * 5, none⟩ = some (.int .i64 (valC L knF c).num) ∧ w.cell? ⟨g, c * 5 + 1, none⟩ = some (.bool (valC L knF c).miss) ∧ w.cell? ⟨g, c * 5 + 2, none⟩ = some (.int .i64 (valC L knF c).long) ∧ w.cell? ⟨g, c * 5 + 3, none⟩ = some (.int .i64 (valC L knF c).short) ∧ w.cell? ⟨g, c * 5 + 4, none⟩ = some (.int .i64 (valC L knF c).plays) := by
  have e : ∀ j, j < 5 → w.cell? ⟨g, c * 5 + j, none⟩ = some ((knV (valC L knF c)).getD j undef) := fun j hj => by rw [h.2 (c * 5 + j) (by omega), allF_at L 0 c j hj]; rfl
  exact ⟨e 0 (by omega), e 1 (by omega), e 2 (by omega), e 3 (by omega), e 4 (by omega)⟩
theorem AllOwn_below {w w' : World} {g : Nat} {L : List Int} (h : AllOwn w g L) (hb : Below w.heap.size w w') : AllOwn w' g L :=
  ⟨by have := hb.size; have := h.1; omega, fun j hj => (hb.cell (p := ⟨g, j, none⟩) h.1).trans (h.2 j hj)⟩
/-- append of one number, and blocks of another type stay. -/
theorem wpAppendIntK {ops : Array Oper} {rest : List Oper} {o : Oper} {a : Act} {Q : Exit → Act → World → Prop} (w : World) (hgd : o.guard = none) (s x : Operand)
    (ho : o.op = .call { callee := .builtin .append, args := #[s, x], argTypes := #[24, 24] })
    (B : Nat) (v : Value) (L : List Int) (hs : a.eval s = v) (hown : ownsInts w B v L) (z : Int) (hx : a.eval x = .slice (some ⟨w.heap.size, 0, none⟩) 1 1)
    (hn : L.length ≤ 1000000000) (hB : B ≤ w.heap.size)
    (h : ∀ ao cap w', ownsInts w' B (.slice ao (L.length + 1) cap) (L ++ [z]) → Below B w w' → (∀ b t n f, t ≠ 3 → w.rowIs b t n f → w'.rowIs b t n f) → wpList Tryz.prog ops Q rest (a.put o.dst (.slice ao (L.length + 1) cap)) w') :
    wpList Tryz.prog ops Q (o :: rest) a (w.alloc (.cells #[.int .i64 z] 3)) :=
  wpAppendG w hgd s x _ _ (.int .i64 0) 1 8 ho Tryz.underlying24 infoInt rfl (by decide) (by decide) B v L.length _ hs hown [.int .i64 z] _ hx rfl (by simp [Value.oneCell']) hn hB
    fun ao cap w' h2 hb hk => h ao cap w' (by unfold ownsInts; simpa using h2) hb fun b t n f ht hr => hr.of_block (hk b hr.lt fun _ cur hc => by
      obtain ⟨c, hc2, _⟩ := hr
      rw [hc2] at hc
      simp only [Option.some.injEq, Obj.cells.injEq] at hc
      exact ht hc.2.1)
theorem rowIs_below {w w' : World} {b : Nat} {t : TypeId} {n : Nat} {f : Nat → Value} (h : w.rowIs b t n f) (hb : Below w.heap.size w w') : w'.rowIs b t n f := h.of_block (hb.block b h.lt)
theorem allF_made (L : List Int) (j : Nat) (hj : j < 640) : (madeCells (Value.agg #[.int .i64 0, .bool false, .int .i64 0, .int .i64 0, .int .i64 0]).cells (128 * 5)).toList.getD j undef = allF L 128 j := by
  have h5 : j % 5 < 5 := by omega
  have h0 : allK L 128 (j / 5) = kn0 := by unfold allK; rw [if_neg (by omega)]
  unfold allF
  rw [h0, List.getD_eq_getElem?_getD, Array.getElem?_toList]
  have e : (madeCells (Value.agg #[.int .i64 0, .bool false, .int .i64 0, .int .i64 0, .int .i64 0]).cells (128 * 5))[j]? = some (#[Value.int .i64 0, .bool false, .int .i64 0, .int .i64 0, .int .i64 0][j % 5]!) := by
    simp [madeCells, Value.cells, hj]
  rw [e]
  have : ∀ t : Fin 5, (#[Value.int .i64 0, .bool false, .int .i64 0, .int .i64 0, .int .i64 0][t.val]!) = (knV kn0).getD t.val undef := by
    intro t
    match t with
    | ⟨0, _⟩ => rfl
    | ⟨1, _⟩ => rfl
    | ⟨2, _⟩ => rfl
    | ⟨3, _⟩ => rfl
    | ⟨4, _⟩ => rfl
  exact this ⟨j % 5, h5⟩
/-- A slice of structs as it is made. -/
theorem ownsRow_rowIs {w : World} {B g n cap : Nat} {e : TypeId} {size : Nat} {xs : List Value} (h : w.ownsRow B e size (.slice (some ⟨g, 0, none⟩) n n) n xs) (hs : n * size = cap) : w.rowIs g e cap (fun i => xs.getD i undef) := by
  rcases h.2 with ⟨h0, _⟩ | ⟨g', cap', cur, hv, hBg, hg, hle, hm, hsz, hcur⟩
  · cases h0
  · simp only [Value.slice.injEq, Option.some.injEq, Addr.mk.injEq] at hv
    obtain ⟨⟨rfl, -⟩, -, rfl⟩ := hv
    refine ⟨cur, hg, by omega, fun i hi => ?_⟩
    have h1 : i < cur.size := by omega
    rw [Array.getElem?_eq_getElem h1]
    congr 1
    show _ = xs.getD i undef
    rw [← hcur, List.getD_eq_getElem?_getD, List.getElem?_take_of_lt (by omega)]
    simp [h1]
/-- A Kn in a block of its own. -/
def knBox (w : World) (b : Nat) (k : Kn) : Prop := w.rowIs b 56 5 (fun j => (knV k).getD j undef)
theorem knBox_new (w : World) (y : Kn) : knBox (w.alloc (.cells #[.int .i64 y.num, .bool y.miss, .int .i64 y.long, .int .i64 y.short, .int .i64 y.plays] 56)) w.heap.size y :=
  World.rowIs_alloc w #[.int .i64 y.num, .bool y.miss, .int .i64 y.long, .int .i64 y.short, .int .i64 y.plays] 56 (fun j => (knV y).getD j undef) (fun i hi => by
    have hi : i < 5 := hi
    match i, hi with
    | 0, _ => rfl
    | 1, _ => rfl
    | 2, _ => rfl
    | 3, _ => rfl
    | 4, _ => rfl
    | n + 5, h => omega)
theorem numsK_length (xs : List Kn) : (numsK xs).length = xs.length := by simp [numsK]
def kOf (s : St) : Kn := ⟨0, s.miss, s.long, s.short, s.plays⟩
theorem ownsInts_low {w : World} {C : Nat} {v : Value} {L : List Int} {a : Addr} {u : Value} (h : ownsInts w C v L) (ha : a.block < C) : ownsInts (w.setCell a u) C v L := by
  rcases h with h | h
  · refine .inl ⟨h.1, ?_⟩
    rcases h.2 with h2 | ⟨g, cap, cur, hv1, hBg, hg, r⟩
    · exact .inl h2
    · exact .inr ⟨g, cap, cur, hv1, hBg, by rw [Below.heap_setCell _ _ _ _ (by omega)]; exact hg, r⟩
  · exact .inr h
theorem numsK_append (xs : List Kn) (y : Kn) : numsK (xs ++ [y]) = numsK xs ++ [(y.num : Int)] := by simp [numsK]
theorem kn_step4 {w : World} {B : Nat} {s0 s1 : Bool} {s2 s3 s4 : Int} {yn : Nat} {ym : Bool} {yl ys yp : Int} {b1 : Bool} (h : knBox w B (kOf ⟨s0, s1, s2, s3, s4⟩)) (hm : b1 = (s1 || !ym)) (hs : (!s0 || decide (wrap64 (ys + 1) < s3)) = true) :
    knBox ((((w.setCell ⟨B, 1, none⟩ (.bool b1)).setCell ⟨B, 2, none⟩ (.int .i64 (max s2 (wrap64 (yl + 1))))).setCell ⟨B, 3, none⟩ (.int .i64 (wrap64 (ys + 1)))).setCell ⟨B, 4, none⟩ (.int .i64 (wrap64 (s4 + yp)))) B (kOf (stepK ⟨s0, s1, s2, s3, s4⟩ ⟨yn, ym, yl, ys, yp⟩)) := by
  refine ((((h.set 1 _).set 2 _).set 3 _).set 4 _).congr fun j hj => ?_
  unfold stepK
  simp only [hs, if_pos]
  subst hm
  match j, hj with
  | 0, _ => rfl
  | 1, _ => rfl
  | 2, _ => rfl
  | 3, _ => rfl
  | 4, _ => rfl
  | n + 5, h => omega
theorem kn_step3 {w : World} {B : Nat} {s0 s1 : Bool} {s2 s3 s4 : Int} {yn : Nat} {ym : Bool} {yl ys yp : Int} {b1 : Bool} (h : knBox w B (kOf ⟨s0, s1, s2, s3, s4⟩)) (hm : b1 = (s1 || !ym)) (hs : (!s0 || decide (wrap64 (ys + 1) < s3)) = false) :
    knBox (((w.setCell ⟨B, 1, none⟩ (.bool b1)).setCell ⟨B, 2, none⟩ (.int .i64 (max s2 (wrap64 (yl + 1))))).setCell ⟨B, 4, none⟩ (.int .i64 (wrap64 (s4 + yp)))) B (kOf (stepK ⟨s0, s1, s2, s3, s4⟩ ⟨yn, ym, yl, ys, yp⟩)) := by
  refine (((h.set 1 _).set 2 _).set 4 _).congr fun j hj => ?_
  unfold stepK
  simp only [hs, Bool.false_eq_true, if_false]
  subst hm
  match j, hj with
  | 0, _ => rfl
  | 1, _ => rfl
  | 2, _ => rfl
  | 3, _ => rfl
  | 4, _ => rfl
  | n + 5, h => omega
theorem kn_set14 {w : World} {B : Nat} {s0 s1 : Bool} {s2 s3 s4 : Int} (h : knBox w B (kOf ⟨s0, s1, s2, s3, s4⟩)) :
    knBox ((w.setCell ⟨B, 1, none⟩ (.bool true)).setCell ⟨B, 4, none⟩ (.int .i64 1)) B ⟨0, true, s2, s3, 1⟩ := by
  refine ((h.set 1 _).set 4 _).congr fun j hj => ?_
  match j, hj with
  | 0, _ => rfl
  | 1, _ => rfl
  | 2, _ => rfl
  | 3, _ => rfl
  | 4, _ => rfl
  | n + 5, h => omega
theorem kn_set0 {w : World} {B j : Nat} {s1 : Bool} {s2 s3 s4 : Int} (h : knBox w B ⟨j, s1, s2, s3, s4⟩) :
    knBox (w.setCell ⟨B, 0, none⟩ (.int .i64 ((j + 1 : Nat) : Int))) B ⟨j + 1, s1, s2, s3, s4⟩ := by
  refine (h.set 0 _).congr fun j hj => ?_
  match j, hj with
  | 0, _ => rfl
  | 1, _ => rfl
  | 2, _ => rfl
  | 3, _ => rfl
  | 4, _ => rfl
  | n + 5, h => omega
theorem all_set {w : World} {g c : Nat} {L : List Int} {y : Kn} (h : w.rowIs g 56 640 (allF L (c + 1))) (hy : valC L knF c = y) :
    (((((w.setCell ⟨g, c * 5, none⟩ (.int .i64 y.num)).setCell ⟨g, c * 5 + 1, none⟩ (.bool y.miss)).setCell ⟨g, c * 5 + 2, none⟩ (.int .i64 y.long)).setCell ⟨g, c * 5 + 3, none⟩ (.int .i64 y.short)).setCell ⟨g, c * 5 + 4, none⟩ (.int .i64 y.plays)).rowIs g 56 640 (allF L c) := by
  refine (((((h.set (c * 5) _).set (c * 5 + 1) _).set (c * 5 + 2) _).set (c * 5 + 3) _).set (c * 5 + 4) _).congr fun j hj => ?_
  subst hy
  have e : ∀ t, t < 5 → allF L c (c * 5 + t) = (knV (valC L knF c)).getD t undef := fun t ht => by rw [allF_at L c c t ht]; unfold allK; rw [if_pos (Nat.le_refl _)]
  by_cases h4 : j = c * 5 + 4
  · subst h4; rw [if_pos rfl, e 4 (by omega)]; rfl
  rw [if_neg h4]
  by_cases h3 : j = c * 5 + 3
  · subst h3; rw [if_pos rfl, e 3 (by omega)]; rfl
  rw [if_neg h3]
  by_cases h2 : j = c * 5 + 2
  · subst h2; rw [if_pos rfl, e 2 (by omega)]; rfl
  rw [if_neg h2]
  by_cases h1 : j = c * 5 + 1
  · subst h1; rw [if_pos rfl, e 1 (by omega)]; rfl
  rw [if_neg h1]
  by_cases h0 : j = c * 5
  · subst h0; rw [if_pos rfl]; exact (e 0 (by omega)).symm
  rw [if_neg h0]
  unfold allF allK
  by_cases hc : c + 1 ≤ j / 5
  · rw [if_pos hc, if_pos (by omega)]
  · rw [if_neg hc, if_neg (by omega)]
/-- The table of the reference is returned. -/
def RetAll (L : List Int) (w : World) (e : Ending) (w' : World) : Prop := ∃ g, e = .returned (.slice (some ⟨g, 0, none⟩) 128 128) ∧ w.heap.size ≤ g ∧ AllOwn w' g L ∧ Below w.heap.size w w'
def xsK (L : List Int) (c k : Nat) : List Kn := (litP L c k).map (valC L knF)
theorem xsK_succ (L : List Int) (c k : Nat) : xsK L c (k + 1) = if nextB L c k = true then xsK L c k ++ [valC L knF (c ||| 2 ^ k)] else xsK L c k := by
  unfold xsK
  rw [litP_succ]
  split <;> simp
theorem xsK_le (L : List Int) (c k : Nat) : (xsK L c k).length ≤ k := by
  unfold xsK; rw [List.length_map]; exact litP_le L c k
set_option maxHeartbeats 1600000 in
set_option maxRecDepth 100000 in
theorem l11All_any (ao : Option Addr) (n cap : Nat) (L : List Int) (w : World) (hr : RdI w ao L) (hn : L.length = n) (hm : n ≤ maxLen) (hD : allDig L) :
    Calls Tryz.prog 35 #[.slice ao n cap] w (RetAll L w) := by
  have HD := Lib.hid hD
  have HN := Lib.hid hn
  clear hD hn
  obtain ⟨i0, hi, hz0, hz1, hz2⟩ := info_parts infoKnown
  have hA1 := @cellAlloc; have hA2 := @frozenAlloc; have hA3 := @setCellAlloc; go_enter Tryz.func35, Tryz.ntmps35
  go_wp2_with (at_make; refine wpList_make_full _ (by rfl) _ _ _ (by rfl) w.heap.size 56 i0 _ 5 Tryz.underlying50 hi hz0 hz1 _ _ _ _ 128 (by rfl) (by rfl) (by rfl) (by rfl) (by rw [hz2]; omega) (by unfold maxLen; omega) (Nat.le_refl _) ?_; intro w1 hown1 hg1)
  have hrow : w1.rowIs w.heap.size 56 640 (allF L 128) := by
    refine (ownsRow_rowIs hown1 rfl).congr fun j hj => ?_
    exact allF_made L j hj
  have hb1 : Below w.heap.size w w1 := (Below.refl _ _).grown hg1 (Nat.le_refl _) (fun k hk => by cases hk)
  have hs1 := hb1.size
  clear hown1 hg1 hi hz0 hz1 hz2
  have hgl := hrow.lt
  generalize hg : w.heap.size = g at hrow hb1 hs1 hgl ⊢
  have HG := Lib.hid hg
  clear hg
  go_loopw [4] (fun c wr => ∃ m : Nat, m ≤ 128 ∧ c = .int .i64 ((m : Int) - 1) ∧ wr.rowIs g 56 640 (allF L m) ∧ Below g w wr) (fun c _ => (intOf c + 1).toNat)
  case atStart => exact ⟨128, by omega, rfl, hrow, hb1⟩
  case round =>
    obtain ⟨m, hle, rfl, hall, hbw⟩ := hrel
    have hgl := hall.lt
    rcases m with _ | c
    · go_wp2
      go_ret
      exact ⟨g, rfl, by rw [HG.out]; exact Nat.le_refl _, ⟨hgl, fun j hj => hall.cell hj⟩, by rw [HG.out]; exact hbw⟩
    · rw [show ((c + 1 : Nat) : Int) - 1 = (c : Int) by omega]
      have hc : c < 128 := by omega
      go_wp2_with fail
      have hk0 : knBox ((wr.alloc (.cells #[] 3)).alloc (.cells #[.int .i64 0, .bool false, .int .i64 0, .int .i64 0, .int .i64 0] 56)) (wr.heap.size + 1) kn0 := by
        have h := World.rowIs_alloc (wr.alloc (.cells #[] 3)) #[.int .i64 0, .bool false, .int .i64 0, .int .i64 0, .int .i64 0] 56 (fun j => (knV kn0).getD j undef) (fun i hi => by
          have hi : i < 5 := hi
          match i, hi with
          | 0, _ => rfl
          | 1, _ => rfl
          | 2, _ => rfl
          | 3, _ => rfl
          | 4, _ => rfl
          | n + 5, h => omega)
        rw [heapAlloc] at h
        exact h
      have hall0 := (hall.alloc (.cells #[] 3)).alloc (.cells #[.int .i64 0, .bool false, .int .i64 0, .int .i64 0, .int .i64 0] 56)
      have hbw0 : Below g w ((wr.alloc (.cells #[] 3)).alloc (.cells #[.int .i64 0, .bool false, .int .i64 0, .int .i64 0, .int .i64 0] 56)) := (hbw.alloc (by omega) _).alloc (by simp; omega) _
      have hgB : g < wr.heap.size + 1 := by omega
      clear hall hbw hgl
      generalize wr.heap.size + 1 = B at hk0 hgB ⊢
      go_loopw [6, 7, 8] (fun v s b w2 => ∃ k : Nat, k ≤ 7 ∧ b = .int .i64 k ∧ ownsInts w2 (B + 1) v (numsK (xsK L c k)) ∧ s = .bool (stK (xsK L c k)).some ∧ knBox w2 B (kOf (stK (xsK L c k))) ∧ w2.rowIs g 56 640 (allF L (c + 1)) ∧ Below g w w2) (fun _ _ b _ => 7 - (intOf b).toNat)
      case atStart => exact ⟨0, by omega, rfl, ownsInts_zero _ _ _, rfl, hk0, hall0, hbw0⟩
      case round =>
        obtain ⟨k, hk, rfl, hown, rfl, hkb, hall, hbw⟩ := hrel
        clear hk0 hall0 hbw0
        by_cases hlt : k < 7
        · have hsucc := xsK_succ L c k
          have hlen := xsK_le L c k
          have hmem : nextB L c k = true → c < c ||| 2 ^ k := by
            intro h
            have : c ||| 2 ^ k ∈ litP L c 7 := by
              simp only [litP, List.mem_map, List.mem_filter, List.mem_range]
              exact ⟨k, ⟨hlt, h⟩, rfl⟩
            exact (litP_mem hc (Nat.le_refl 7) this).1
          have hl := lor_lt c k hc hlt
          have HX := Lib.hid (fun W h => l11Next_any c k hc hlt ao n cap L W h HN.out hm HD.out)
          generalize c ||| 2 ^ k = x at hsucc hmem hl HX
          generalize nextB L c k = q at hsucc hmem HX
          have hgs := hall.lt
          have hBs : B < wr.heap.size := hkb.lt
          rcases q with _ | _
          · rw [if_neg (by decide)] at hsucc
            have HS := Lib.hid hsucc
            clear hsucc hmem
            go_wp2_with (first | (go_at_call 73; refine (HX.out _ (RdI_below hr (by rw [HG.out]; exact hbw))).mono ?_; rintro e w2 ⟨rfl, hb2⟩))
            go_roundw
            case rel => exact ⟨k + 1, by omega, by go_num, by rw [HS.out]; exact ownsInts_below hown hb2 (Nat.le_refl _), by rw [HS.out], by rw [HS.out]; exact rowIs_below hkb hb2, rowIs_below hall hb2, hbw.trans (hb2.mono (by omega))⟩
            case measure => simp [intOf]; omega
          · have hlx := hmem rfl
            rw [if_pos rfl] at hsucc
            have hx : ∀ j, j < 5 → wr.cell? ⟨g, x * 5 + j, none⟩ = some ((knV (valC L knF x)).getD j undef) := by
              intro j hj
              rw [hall.cell (i := x * 5 + j) (by omega), allF_at L _ x j hj]
              unfold allK
              rw [if_pos (by omega)]
            generalize valC L knF x = y at hx hsucc
            generalize xsK L c k = xs at hsucc hlen hown hkb ⊢
            have h0 := hx 0 (by omega)
            have h1 := hx 1 (by omega)
            have h2 := hx 2 (by omega)
            have h3 := hx 3 (by omega)
            have h4 := hx 4 (by omega)
            rw [Nat.add_zero] at h0
            simp only [knV, List.getD_cons_zero, List.getD_cons_succ] at h0 h1 h2 h3 h4
            obtain ⟨yn, ym, yl, ys, yp⟩ := y
            simp only at h0 h1 h2 h3 h4
            have HS := Lib.hid hsucc
            clear hsucc hx hmem
            generalize hst : stK xs = st at hkb ⊢
            have HST := Lib.hid hst
            clear hst
            obtain ⟨s0, s1, s2, s3, s4⟩ := st
            go_wp2_with (first | (go_at_call 73; refine (HX.out _ (RdI_below hr (by rw [HG.out]; exact hbw))).mono ?_; rintro e w2 ⟨rfl, hb2⟩; replace h0 := (hb2.cell (p := ⟨g, x * 5, none⟩) hgs).trans h0; replace h1 := (hb2.cell (p := ⟨g, x * 5 + 1, none⟩) hgs).trans h1; replace h2 := (hb2.cell (p := ⟨g, x * 5 + 2, none⟩) hgs).trans h2; replace h3 := (hb2.cell (p := ⟨g, x * 5 + 3, none⟩) hgs).trans h3; replace h4 := (hb2.cell (p := ⟨g, x * 5 + 4, none⟩) hgs).trans h4) | (at_builtin; go_must (refine wpAppendIntK (w2.alloc (.cells #[.int .i64 yn, .bool ym, .int .i64 yl, .int .i64 ys, .int .i64 yp] 56)) (by rfl) _ _ (by rfl) (B + 1) _ _ (by rfl) (ownsG_alloc (ownsInts_below hown hb2 (Nat.le_refl _)) _) (yn : Int) (by rw [heapAlloc]; rfl) (by rw [numsK_length]; omega) (by have := hb2.size; simp; omega) ?_; intro co cc w4 hown4 hb4 hkeep; have hbx := knBox_new w2 ⟨yn, ym, yl, ys, yp⟩; replace hbx := hkeep _ _ _ _ (by decide) hbx; have hkb4 := hkeep _ _ _ _ (by decide) ((rowIs_below hkb hb2).alloc _); have hall4 := hkeep _ _ _ _ (by decide) ((rowIs_below hall hb2).alloc _); have hB2 := hb2.size; have hbw4 : Below g w w4 := ((hbw.trans (hb2.mono (by omega))).alloc (by omega) _).trans (hb4.mono (by omega)); clear h0 h1 h2 h3 h4 hkeep hb4 hb2 hown hkb hall hbw; have hne : B < w2.heap.size := (by omega); generalize w2.heap.size = Bx at hbx hne ⊢; have hne1 : ¬ B = Bx := (by omega); have hne2 : ¬ Bx = B := (by omega); have k1 := hkb4.cell (i := 1) (by omega); have k2 := hkb4.cell (i := 2) (by omega); have k3 := hkb4.cell (i := 3) (by omega); have k4 := hkb4.cell (i := 4) (by omega); have f1 := hkb4.frozen 1; have f2 := hkb4.frozen 2; have f3 := hkb4.frozen 3; have f4 := hkb4.frozen 4; have x1 := hbx.cell (i := 1) (by omega); have x2 := hbx.cell (i := 2) (by omega); have x3 := hbx.cell (i := 3) (by omega); have x4 := hbx.cell (i := 4) (by omega); simp only [kOf, knV, List.getD_cons_zero, List.getD_cons_succ] at k1 k2 k3 k4 x1 x2 x3 x4)) | (go_at_call 74; refine (l1Most_any _ _ _).mono ?_; rintro e w' ⟨rfl, rfl⟩))
            all_goals
              go_roundw
              case rel =>
                refine ⟨k + 1, by omega, by go_num, ?_, ?_, ?_, ?_, ?_⟩
                · rw [HS.out, numsK_append]
                  repeat refine ownsInts_low ?_ (by show B < B + 1; omega)
                  exact hown4
                · rw [HS.out, stK_succ]; rfl
                · rw [HS.out, stK_succ, HST.out]
                  have hm1 : ∀ b : Bool, s1 = b → (b = true → true = (s1 || !ym)) ∧ (b = false → (!ym) = (s1 || !ym)) := by rintro b rfl; cases s1 <;> simp
                  first
                    | (have k1 : s1 = true := (by assumption); have k0 : s0 = true := (by assumption); have k3 : wrap64 (ys + 1) < s3 := (by assumption); exact kn_step4 hkb4 ((hm1 _ rfl).1 k1) (by rw [k0]; simpa using k3))
                    | (have k1 : s1 = true := (by assumption); have k0 : s0 = true := (by assumption); have k3 : s3 ≤ wrap64 (ys + 1) := (by assumption); exact kn_step3 hkb4 ((hm1 _ rfl).1 k1) (by rw [k0]; simpa using k3))
                    | (have k1 : s1 = true := (by assumption); have k0 : ¬ s0 = true := (by assumption); exact kn_step4 hkb4 ((hm1 _ rfl).1 k1) (by rw [show s0 = false by simpa using k0]; rfl))
                    | (have k1 : ¬ s1 = true := (by assumption); have k0 : s0 = true := (by assumption); have k3 : wrap64 (ys + 1) < s3 := (by assumption); exact kn_step4 hkb4 ((hm1 _ rfl).2 (by simpa using k1)) (by rw [k0]; simpa using k3))
                    | (have k1 : ¬ s1 = true := (by assumption); have k0 : s0 = true := (by assumption); have k3 : s3 ≤ wrap64 (ys + 1) := (by assumption); exact kn_step3 hkb4 ((hm1 _ rfl).2 (by simpa using k1)) (by rw [k0]; simpa using k3))
                    | (have k1 : ¬ s1 = true := (by assumption); have k0 : ¬ s0 = true := (by assumption); exact kn_step4 hkb4 ((hm1 _ rfl).2 (by simpa using k1)) (by rw [show s0 = false by simpa using k0]; rfl))
                · repeat refine World.rowIs.setOther ?_ (by show g ≠ B; omega) _
                  exact hall4
                · repeat refine Below.setCell ?_ (by show g ≤ B; omega) _
                  exact hbw4
              case measure => simp [intOf]; omega
        · have hk7 : k = 7 := by omega
          subst hk7
          have hval : valC L knF c = knF c (xsK L c 7) := valC_eq L knF c hc
          have hlen := xsK_le L c 7
          generalize xsK L c 7 = xs at hval hlen hown hkb ⊢
          unfold knF at hval
          have hnl := numsK_length xs
          generalize numsK xs = ns at hval hown hnl
          rw [← hnl] at hlen
          clear hnl
          generalize stK xs = st at hval hkb ⊢
          obtain ⟨s0, s1, s2, s3, s4⟩ := st
          simp only at hval
          generalize hsm : (s1 || !s0) = sm at hval
          generalize hsp : (if s0 = true then s4 else 1) = sp at hval
          have HV := Lib.hid hval
          clear hval
          obtain ⟨co, cc, rfl, -⟩ := ownsInts_shape hown
          have hgs := hall.lt
          have hBs : B < wr.heap.size := hkb.lt
          have f0 := hkb.frozen 0
          have f1 := hkb.frozen 1
          have f4 := hkb.frozen 4
          have k0 := hkb.cell (i := 0) (by omega)
          have k1 := hkb.cell (i := 1) (by omega)
          have k4 := hkb.cell (i := 4) (by omega)
          simp only [kOf, knV, List.getD_cons_zero, List.getD_cons_succ] at k0 k1 k4
          have hend : ∀ (W : World), ownsInts W (B + 1) (.slice co ns.length cc) ns → knBox W B ⟨0, sm, s2, s3, sp⟩ → W.rowIs g 56 640 (allF L (c + 1)) → Below g w W → ownsInts W (B + 1) (.slice co ns.length cc) ns ∧ knBox W B ⟨0, sm, s2, s3, sp⟩ ∧ W.rowIs g 56 640 (allF L (c + 1)) ∧ Below g w W := fun _ h1 h2 h3 h4 => ⟨h1, h2, h3, h4⟩
          rcases s0 with _ | _
          · have hE := hend ((wr.setCell ⟨B, 1, none⟩ (.bool true)).setCell ⟨B, 4, none⟩ (.int .i64 1)) (ownsInts_low (ownsInts_low hown (by show B < B + 1; omega)) (by show B < B + 1; omega)) (by rw [← hsm, ← hsp, Bool.or_comm]; exact kn_set14 hkb) (World.rowIs.setOther (World.rowIs.setOther hall (by show g ≠ B; omega) _) (by show g ≠ B; omega) _) (Below.setCell (Below.setCell hbw (by show g ≤ B; omega) _) (by show g ≤ B; omega) _)
            clear hown hkb hall hbw hend hsm hsp
            go_wp2_with fail
            go_loopg [] 8 (fun gk wr => ∃ j : Nat, j + gk = 8 ∧ mexAt ns j ∧ ownsInts wr (B + 1) (.slice co ns.length cc) ns ∧ knBox wr B ⟨j, sm, s2, s3, sp⟩ ∧ wr.rowIs g 56 640 (allF L (c + 1)) ∧ Below g w wr)
            case atStart => exact ⟨0, rfl, mexAt_zero ns, hE⟩
            case round =>
              obtain ⟨j, hj, hat, hown, hkb, hall, hbw⟩ := hrel
              clear hE
              have hle := mexAt_le hat
              obtain ⟨b, hb⟩ : ∃ b, ns.contains (j : Int) = b := ⟨_, rfl⟩
              have HB := Lib.hid hb
              have hRd := RdI_owns hown
              have k0 := hkb.cell (i := 0) (by omega)
              have f0 := hkb.frozen 0
              simp only [knV, List.getD_cons_zero] at k0
              rcases b with _ | _
              · have HX := Lib.hid (mexAt_out hat hb)
                have k1 := hkb.cell (i := 1) (by omega)
                have k2 := hkb.cell (i := 2) (by omega)
                have k3 := hkb.cell (i := 3) (by omega)
                have k4 := hkb.cell (i := 4) (by omega)
                simp only [knV, List.getD_cons_zero, List.getD_cons_succ] at k1 k2 k3 k4
                have a0 := hall.cell (i := c * 5) (by omega)
                have a1 := hall.cell (i := c * 5 + 1) (by omega)
                have a2 := hall.cell (i := c * 5 + 2) (by omega)
                have a3 := hall.cell (i := c * 5 + 3) (by omega)
                have a4 := hall.cell (i := c * 5 + 4) (by omega)
                have b0 := hall.frozen (c * 5)
                have b1 := hall.frozen (c * 5 + 1)
                have b2 := hall.frozen (c * 5 + 2)
                have b3 := hall.frozen (c * 5 + 3)
                have b4 := hall.frozen (c * 5 + 4)
                generalize allF L (c + 1) (c * 5) = v0 at a0
                generalize allF L (c + 1) (c * 5 + 1) = v1 at a1
                generalize allF L (c + 1) (c * 5 + 2) = v2 at a2
                generalize allF L (c + 1) (c * 5 + 3) = v3 at a3
                generalize allF L (c + 1) (c * 5 + 4) = v4 at a4
                clear hb hat
                go_wp2_with (first | (go_at_call 75; refine (l1Has_any _ _ _ ns _ _ hRd rfl (by unfold maxLen; omega)).mono ?_; rw [HB.out]; rintro e w1 ⟨rfl, rfl⟩))
                go_roundw
                case rel => exact ⟨c, by omega, by first | rfl | go_num, all_set (y := ⟨j, sm, s2, s3, sp⟩) hall (HV.out.trans (by rw [HX.out])), Below.setCell (Below.setCell (Below.setCell (Below.setCell (Below.setCell hbw (by exact Nat.le_refl _) _) (by exact Nat.le_refl _) _) (by exact Nat.le_refl _) _) (by exact Nat.le_refl _) _) (by exact Nat.le_refl _) _⟩
                case measure => first | (simp [intOf]; done) | (simp [intOf]; omega)
              · obtain ⟨hat2, hlt2⟩ := mexAt_in hat hb
                have HA := Lib.hid hat2
                clear hb hat hat2
                go_wp2_with (first | (go_at_call 75; refine (l1Has_any _ _ _ ns _ _ hRd rfl (by unfold maxLen; omega)).mono ?_; rw [HB.out]; rintro e w1 ⟨rfl, rfl⟩))
                go_roundg (gk - 1)
                case measure => omega
                case rel => exact ⟨j + 1, by omega, HA.out, ownsInts_low hown (by show B < B + 1; omega), kn_set0 hkb, World.rowIs.setOther hall (by show g ≠ B; omega) _, Below.setCell hbw (by show g ≤ B; omega) _⟩
          · have hE := hend wr hown (by rw [← hsm, ← hsp]; simpa [kOf] using hkb) hall hbw
            clear hown hkb hall hbw hend k0 k1 k4 f0 f1 f4 hsm hsp
            go_wp2_with fail
            go_loopg [] 8 (fun gk wr => ∃ j : Nat, j + gk = 8 ∧ mexAt ns j ∧ ownsInts wr (B + 1) (.slice co ns.length cc) ns ∧ knBox wr B ⟨j, sm, s2, s3, sp⟩ ∧ wr.rowIs g 56 640 (allF L (c + 1)) ∧ Below g w wr)
            case atStart => exact ⟨0, rfl, mexAt_zero ns, hE⟩
            case round =>
              obtain ⟨j, hj, hat, hown, hkb, hall, hbw⟩ := hrel
              clear hE
              have hle := mexAt_le hat
              obtain ⟨b, hb⟩ : ∃ b, ns.contains (j : Int) = b := ⟨_, rfl⟩
              have HB := Lib.hid hb
              have hRd := RdI_owns hown
              have k0 := hkb.cell (i := 0) (by omega)
              have f0 := hkb.frozen 0
              simp only [knV, List.getD_cons_zero] at k0
              rcases b with _ | _
              · have HX := Lib.hid (mexAt_out hat hb)
                have k1 := hkb.cell (i := 1) (by omega)
                have k2 := hkb.cell (i := 2) (by omega)
                have k3 := hkb.cell (i := 3) (by omega)
                have k4 := hkb.cell (i := 4) (by omega)
                simp only [knV, List.getD_cons_zero, List.getD_cons_succ] at k1 k2 k3 k4
                have a0 := hall.cell (i := c * 5) (by omega)
                have a1 := hall.cell (i := c * 5 + 1) (by omega)
                have a2 := hall.cell (i := c * 5 + 2) (by omega)
                have a3 := hall.cell (i := c * 5 + 3) (by omega)
                have a4 := hall.cell (i := c * 5 + 4) (by omega)
                have b0 := hall.frozen (c * 5)
                have b1 := hall.frozen (c * 5 + 1)
                have b2 := hall.frozen (c * 5 + 2)
                have b3 := hall.frozen (c * 5 + 3)
                have b4 := hall.frozen (c * 5 + 4)
                generalize allF L (c + 1) (c * 5) = v0 at a0
                generalize allF L (c + 1) (c * 5 + 1) = v1 at a1
                generalize allF L (c + 1) (c * 5 + 2) = v2 at a2
                generalize allF L (c + 1) (c * 5 + 3) = v3 at a3
                generalize allF L (c + 1) (c * 5 + 4) = v4 at a4
                clear hb hat
                go_wp2_with (first | (go_at_call 75; refine (l1Has_any _ _ _ ns _ _ hRd rfl (by unfold maxLen; omega)).mono ?_; rw [HB.out]; rintro e w1 ⟨rfl, rfl⟩))
                go_roundw
                case rel => exact ⟨c, by omega, by first | rfl | go_num, all_set (y := ⟨j, sm, s2, s3, sp⟩) hall (HV.out.trans (by rw [HX.out])), Below.setCell (Below.setCell (Below.setCell (Below.setCell (Below.setCell hbw (by exact Nat.le_refl _) _) (by exact Nat.le_refl _) _) (by exact Nat.le_refl _) _) (by exact Nat.le_refl _) _) (by exact Nat.le_refl _) _⟩
                case measure => first | (simp [intOf]; done) | (simp [intOf]; omega)
              · obtain ⟨hat2, hlt2⟩ := mexAt_in hat hb
                have HA := Lib.hid hat2
                clear hb hat hat2
                go_wp2_with (first | (go_at_call 75; refine (l1Has_any _ _ _ ns _ _ hRd rfl (by unfold maxLen; omega)).mono ?_; rw [HB.out]; rintro e w1 ⟨rfl, rfl⟩))
                go_roundg (gk - 1)
                case measure => omega
                case rel => exact ⟨j + 1, by omega, HA.out, ownsInts_low hown (by show B < B + 1; omega), kn_set0 hkb, World.rowIs.setOther hall (by show g ≠ B; omega) _, Below.setCell hbw (by show g ≤ B; omega) _⟩
end Go.Proofs.YtcddfpbohejhhaaGreat

namespace Go.Proofs.YtcddfpbohejhhaaGreat
open Go.RowKit

theorem infoI : (Tryz.prog.info? 3).map (fun i => (i.zero, i.size, i.bytes)) = some (some (.int .i64 0), 1, 8) := by kernel_rfl
theorem take_map_succI {β : Type} (f : Nat → β) (l : List Nat) (j : Nat) (h : j < l.length) : (l.take (j + 1)).map f = (l.take j).map f ++ [f (l.getD j 0)] := by
  rw [List.take_add_one, List.map_append, List.getElem?_eq_getElem h, List.getD_eq_getElem?_getD, List.getElem?_eq_getElem h]
  rfl
/-- m[k], its value known. -/
theorem wpLookVI (w : World) {ops : Array Oper} {rest : List Oper} {o : Oper} {a : Act} {Q : Exit → Act → World → Prop} (hg : o.guard = none) (m x : Operand) (t : TypeId) (hop : o.op = Op.lookup t m x false)
    (e : TypeId) (ht : Tryz.prog.underlying t = some (.map 3 e)) (z : Value) (hz : (zeroValue e).run Tryz.prog w = .ok z w) (b n : Nat) (f : Int → Value) (hm : a.eval m = .map (some b)) (h : mapV w b n z f)
    (k : Int) (hx : a.eval x = .int .i64 k) (hwf : (Lit.int .i64 k).wf = true) (v : Value) (hv : f k = v) (hK : wpList Tryz.prog ops Q rest (a.put o.dst v) w) : wpList Tryz.prog ops Q (o :: rest) a w :=
  wpLookV w hg m x t hop e ht z hz b n f hm h k hx hwf (by rw [hv]; exact hK)
theorem mapStepI {L : List Int} {f : Nat → Int} {c : Nat} {u : Int} (hc : c < 128) (hway : wayB (c : Int) L = true) (hu : f c = u) (k : Int) :
    (if k = (c : Int) then Value.int .i64 u else (if ((c + 1 : Nat) : Int) ≤ k ∧ k < 128 ∧ wayB k L = true then Value.int .i64 (f k.toNat) else (.int .i64 0))) = if (c : Int) ≤ k ∧ k < 128 ∧ wayB k L = true then Value.int .i64 (f k.toNat) else (.int .i64 0) := by
  by_cases hk : k = (c : Int)
  · subst hk
    rw [if_pos rfl, if_pos ⟨Int.le_refl _, by omega, hway⟩, Int.toNat_natCast, hu]
  · rw [if_neg hk]
    by_cases h : ((c + 1 : Nat) : Int) ≤ k ∧ k < 128 ∧ wayB k L = true
    · rw [if_pos h, if_pos ⟨by omega, h.2⟩]
    · rw [if_neg h, if_neg (fun g => h ⟨by omega, g.2⟩)]
theorem mapSkipI {L : List Int} {f : Nat → Int} {c : Nat} (hway : wayB (c : Int) L = false) (k : Int) :
    (if ((c + 1 : Nat) : Int) ≤ k ∧ k < 128 ∧ wayB k L = true then Value.int .i64 (f k.toNat) else (.int .i64 0)) = if (c : Int) ≤ k ∧ k < 128 ∧ wayB k L = true then Value.int .i64 (f k.toNat) else (.int .i64 0) := by
  by_cases h : ((c + 1 : Nat) : Int) ≤ k ∧ k < 128 ∧ wayB k L = true
  · rw [if_pos h, if_pos ⟨by omega, h.2⟩]
  · rw [if_neg h, if_neg]
    rintro ⟨h1, h2, h3⟩
    refine h ⟨?_, h2, h3⟩
    rcases Int.lt_or_eq_of_le h1 with h4 | h4
    · omega
    · subst h4; rw [hway] at h3; exact absurd h3 (by decide)
set_option maxRecDepth 100000 in
set_option maxHeartbeats 1600000 in
theorem tableI_any (F : Nat → List Int → Int) (K : Nat) (ao : Option Addr) (n cap : Nat) (L : List Int) (w : World) (hr : RdI w ao L) (hn : L.length = n) (hm : n ≤ maxLen) (hD : allDig L) (hK : Enters K)
    (hF : ∀ (c : Nat) (vs : List Int) (bo : Option Addr) (cb : Nat) (W : World), c < 128 → vs.length ≤ 7 → RdV W bo (vs.map (Value.int .i64)) → Below w.heap.size w W → Calls Tryz.prog K #[.int .i64 c, .slice bo vs.length cb] W fun e w' => e = .returned (Value.int .i64 (F c vs)) ∧ Below W.heap.size W w') :
    Calls Tryz.prog 52 #[.slice ao n cap, .func (.func K) #[] #[]] w fun e w' => e = .returned (.map (some w.heap.size)) ∧ mapV w' w.heap.size 128 (.int .i64 0) (fun k => if 0 ≤ k ∧ k < 128 ∧ wayB k L = true then Value.int .i64 (valC L F k.toNat) else (.int .i64 0)) ∧ Below w.heap.size w w' := by
  have HD := Lib.hid hD
  have HN := Lib.hid hn
  have HF := Lib.hid hF
  clear hD hn hF
  unfold Enters at hK
  have hA1 := @cellAlloc; have hA2 := @frozenAlloc; have hA3 := @setCellAlloc; go_enter Tryz.func52, Tryz.ntmps52
  have hmm := @run_makeMap Tryz.prog
  go_wp2
  go_loopw [6] (fun c wr => ∃ m : Nat, m ≤ 128 ∧ c = .int .i64 ((m : Int) - 1) ∧ mapV wr w.heap.size (128 - m) (.int .i64 0) (fun k => if (m : Int) ≤ k ∧ k < 128 ∧ wayB k L = true then Value.int .i64 (valC L F k.toNat) else (.int .i64 0)) ∧ Below w.heap.size w wr) (fun c _ => (intOf c + 1).toNat)
  case atStart => exact ⟨128, by omega, rfl, mapV_congr (mapV_made w _) (fun k => by rw [if_neg (by omega)]), Go.Joins.below_alloc1 _ _⟩
  case round =>
    obtain ⟨m, hle, rfl, hmap, hbw⟩ := hrel
    rcases m with _ | c
    · go_wp2
      go_ret
      exact ⟨rfl, hmap, hbw⟩
    · rw [show ((c + 1 : Nat) : Int) - 1 = (c : Int) by omega]
      have hc : c < 128 := by omega
      by_cases hway : wayB (c : Int) L = true
      · go_wp2_with (first | (go_at_call 79; refine (isOnWay_any _ _ _ _ L _ (RdI_below hr hbw) HN.out hm HD.out).mono ?_; rw [hway]; rintro e w1 ⟨rfl, hb1⟩) | (go_at_call 88; refine (lit_any c hc _ _ _ L _ (RdI_below hr (belowThen hbw hb1)) HN.out hm HD.out).mono ?_; rintro e w2 ⟨bo, cb, rfl, hown2, hb2⟩))
        have hmap2 := mapV_below hmap (belowThen hb1 hb2)
        have hbw2 := belowThen (belowThen hbw hb1) hb2
        have hRd := RdI_owns hown2
        have hlen := litP_le L c 7
        obtain ⟨l, hl⟩ : ∃ l, litL L c = l := ⟨_, rfl⟩
        have hmem : ∀ x, x ∈ l → c < x ∧ x < 128 ∧ wayB (x : Int) L = true := by rw [← hl]; exact fun x hx => litP_mem hc (Nat.le_refl 7) hx
        change (litL L c).length ≤ 7 at hlen
        have HV := Lib.hid (valC_eq L F c hc)
        rw [hl] at hRd hlen hown2 HV ⊢
        clear hmap hb1 hb2 hbw hown2 hl
        go_wp2_with fail
        go_loopw [7, 23] (fun v i wr => ∃ j : Nat, j ≤ l.length ∧ i = .int .i64 j ∧ ownsV wr w2.heap.size 3 v ((l.take j).map fun x => Value.int .i64 (valC L F x)) ∧ Below w2.heap.size w2 wr) (fun _ i _ => l.length - (intOf i).toNat)
        case atStart => exact ⟨0, by omega, rfl, ownsV_nil _ _ _, Below.refl _ _⟩
        case round =>
          obtain ⟨j, hj, rfl, hown, hbi⟩ := hrel
          by_cases hlt : j < l.length
          · have hd : decide ((j : Int) < (l.length : Int)) = true := by simp; omega
            rcases RdI_below hRd hbi with h | ⟨b1, o1, rfl, hb1, hc1⟩
            · have := congrArg List.length h; rw [ints_length, List.length_nil] at this; omega
            have hx := hc1 j (by rw [ints_length]; exact hlt)
            rw [ints_getD] at hx
            have hm1 := hmem (l.getD j 0) (by rw [List.getD_eq_getElem?_getD, List.getElem?_eq_getElem hlt]; exact List.getElem_mem _)
            have hsucc : (l.take (j + 1)).map (fun x => Value.int .i64 (valC L F x)) = (l.take j).map (fun x => Value.int .i64 (valC L F x)) ++ [Value.int .i64 (valC L F (l.getD j 0))] := take_map_succI _ l j hlt
            generalize l.getD j 0 = x at hx hm1 hsucc
            have hmapr := mapV_below hmap2 hbi
            have hfx : (if ((c + 1 : Nat) : Int) ≤ (x : Int) ∧ (x : Int) < 128 ∧ wayB (x : Int) L = true then Value.int .i64 (valC L F (x : Int).toNat) else (.int .i64 0)) = Value.int .i64 (valC L F x) := by
              rw [if_pos ⟨by omega, by omega, hm1.2.2⟩]; rfl
            generalize valC L F x = u at hfx hsucc
            have HS := Lib.hid hsucc
            have HX := Lib.hid hfx
            clear hc1 hsucc hfx hmap2 hRd
            go_wp2_with (first | (at_lookup; refine wpLookVI _ (by rfl) _ _ _ (by rfl) _ (Tryz.underlying61) _ (by rfl) w.heap.size _ _ (by rfl) hmapr (x : Int) (by rfl) (wf128 x hm1.2.1) (Value.int .i64 u) HX.out ?_) | (at_builtin; refine wpAppendV wr (by rfl) _ _ 24 3 (.int .i64 0) 8 (by rfl) (Tryz.underlying24) infoI (by rfl) (by decide) w2.heap.size _ _ (by rfl) hown (Value.int .i64 u) (by rfl) _ (by rfl) (by rw [List.length_map, List.length_take]; omega) hbi.size ?_; intro co cc w4 hv4 hb4))
            go_roundw
            case rel => exact ⟨j + 1, by omega, by go_num, by rw [HS.out]; rw [List.length_map, List.length_take, Nat.min_eq_left (Nat.le_of_lt hlt)] at hv4; exact hv4, hbi.trans hb4⟩
            case measure => simp [intOf]; omega
          · have hje : j = l.length := by omega
            subst hje
            rw [List.take_length] at hown
            obtain ⟨no, nc, rfl, hrv⟩ := ownsV_shape hown
            have hcall := HF.out c (l.map (valC L F)) no nc wr hc (by rw [List.length_map]; exact hlen) (by rw [List.map_map]; exact hrv) (belowThen hbw2 hbi)
            rw [List.length_map, ← HV.out] at hcall
            have hmapr := mapV_below hmap2 hbi
            have hbr := belowThen hbw2 hbi
            have HC := Lib.hid hcall
            rw [List.length_map]
            clear hcall hrv hown hmap2 hRd hbi hbw2 hmem
            go_wp2_with fail
            refine HC.out.mono ?_
            rintro e w5 ⟨rfl, hb5⟩
            have hmap5 := mapV_below hmapr hb5
            have hbr5 := belowThen hbr hb5
            generalize hu : valC L F c = u
            have HU := Lib.hid hu
            clear hmapr hbr hb5 hu
            go_wp2_with (at_mapUpdate; refine wpUpdV _ (by rfl) _ _ _ _ (by rfl) _ (Tryz.underlying61) _ w.heap.size _ _ (by rfl) hmap5 (by omega) (c : Int) (by rfl) (wf128 c hc) _ (by rfl) ?_; intro w6 hm6 hg6)
            go_roundw
            case rel => exact ⟨c, by omega, by first | rfl | go_num, mapV_congr (mapV_mono hm6 (by omega)) (fun k => mapStepI (by omega) hway HU.out k), below_grown hbr5 hg6 (Nat.le_refl _)⟩
            case measure => first | (simp [intOf]; done) | (simp [intOf]; omega)
      · rw [Bool.not_eq_true] at hway
        go_wp2_with (first | (go_at_call 79; refine (isOnWay_any _ _ _ _ L _ (RdI_below hr hbw) HN.out hm HD.out).mono ?_; rw [hway]; rintro e w1 ⟨rfl, hb1⟩))
        go_roundw
        case rel => exact ⟨c, by omega, by first | rfl | go_num, mapV_congr (mapV_mono (mapV_below hmap hb1) (by omega)) (fun k => mapSkipI hway k), belowThen hbw hb1⟩
        case measure => first | (simp [intOf]; done) | (simp [intOf]; omega)
end Go.Proofs.YtcddfpbohejhhaaGreat

namespace Go.Proofs.YtcddfpbohejhhaaGreat
open Go.RowKit

/-- What is looked up. -/
def valOfI (F : Nat → List Int → Int) (c : Int) (L : List Int) (n : Nat) : Int := if playB c L n = true then valC L F c.toNat else 0
set_option maxRecDepth 100000 in
set_option maxHeartbeats 800000 in
theorem valueOfI_any (F : Nat → List Int → Int) (K : Nat) (c : Int) (ao : Option Addr) (n cap : Nat) (L : List Int) (w : World) (hr : RdI w ao L) (hn : L.length = n) (hm : n ≤ maxLen) (hcap : n ≤ cap) (hK : Enters K)
    (hF : ∀ (c : Nat) (vs : List Int) (bo : Option Addr) (cb : Nat) (W : World), c < 128 → vs.length ≤ 7 → RdV W bo (vs.map (Value.int .i64)) → Below w.heap.size w W → Calls Tryz.prog K #[.int .i64 c, .slice bo vs.length cb] W fun e w' => e = .returned (Value.int .i64 (F c vs)) ∧ Below W.heap.size W w') :
    Calls Tryz.prog 36 #[.int .i64 c, .slice ao n cap, .func (.func K) #[] #[]] w fun e w' => e = .returned (.tuple #[Value.int .i64 (valOfI F c L n), .bool (playB c L n)]) ∧ Below w.heap.size w w' := by
  unfold valOfI
  generalize hp : playB c L n = p
  have HP := Lib.hid hp
  have hon := fun h => playB_on (L := L) (n := n) (c := c) (hp.trans h)
  have hway : p = true → wayB c L = true := by intro h; rw [← hp] at h; unfold playB at h; rw [Bool.and_eq_true] at h; exact h.2
  clear hp
  have HF := Lib.hid hF
  clear hF
  rcases p with _ | _
  · clear hway hon
    have hA1 := @cellAlloc; have hA2 := @frozenAlloc; have hA3 := @setCellAlloc; go_enter Tryz.func36, Tryz.ntmps36
    go_wp2_with (first | (go_at_call 45; refine (isPlayable_any _ _ _ _ L _ hr hn hm hcap).mono ?_; rw [HP.out]; rintro e w1 ⟨rfl, hb1⟩))
    go_ret2
    exact ⟨rfl, hb1⟩
  · obtain ⟨hD, hc⟩ := hon rfl
    have hw := hway rfl
    rw [inB_iff] at hc
    obtain ⟨C, rfl⟩ := Int.eq_ofNat_of_zero_le hc.1
    have hC : C < 128 := by omega
    rw [if_pos rfl, Int.toNat_natCast]
    have HD := Lib.hid hD
    have HN := Lib.hid hn
    clear hD hc hon hn hway
    have hfx : (if 0 ≤ (C : Int) ∧ (C : Int) < 128 ∧ wayB (C : Int) L = true then Value.int .i64 (valC L F (C : Int).toNat) else (.int .i64 0)) = Value.int .i64 (valC L F C) := by
      rw [if_pos ⟨by omega, by omega, hw⟩]; rfl
    generalize valC L F C = u at hfx
    have HX := Lib.hid hfx
    have HK := Lib.hid hK
    clear hfx hw hK
    have hA1 := @cellAlloc; have hA2 := @frozenAlloc; have hA3 := @setCellAlloc; go_enter Tryz.func36, Tryz.ntmps36
    go_wp2_with (first | (go_at_call 45; refine (isPlayable_any _ _ _ _ L _ hr HN.out hm hcap).mono ?_; rw [HP.out]; rintro e w1 ⟨rfl, hb1⟩) | (go_at_call 52; refine (tableI_any F K _ _ _ L _ (RdI_below hr hb1) HN.out hm HD.out HK.out (fun c vs bo cb W h1 h2 h3 h4 => HF.out c vs bo cb W h1 h2 h3 (belowThen hb1 h4))).mono ?_; rintro e w2 ⟨rfl, hmap, hb2⟩) | (at_lookup; refine wpLookVI _ (by rfl) _ _ _ (by rfl) _ (Tryz.underlying61) _ (by rfl) w1.heap.size _ _ (by rfl) hmap (C : Int) (by rfl) (wf128 C hC) (Value.int .i64 u) HX.out ?_))
    go_ret2
    exact ⟨rfl, belowThen hb1 hb2⟩
end Go.Proofs.YtcddfpbohejhhaaGreat
