/- Joined texts: TabS, LastS. -/
import Derived.Test.YtcddfpbohejhhaaGreatMg07
import Derived.Lib.Hide
import Derived.Test.YtcddfpbohejhhaaGreatMg12
import Derived.Deep.Cut
namespace Go.Proofs.YtcddfpbohejhhaaGreat
open Go.RowKit

/-- What is owned stays so, whatever becomes of a block below. -/
theorem ownsInts_grown {w w' : World} {B b : Nat} {v : Value} {L : List Int} (h : ownsInts w B v L) (hg : w.grownBy w' (some b)) (hb : b < B) : ownsInts w' B v L := by
  rcases h with h | h
  · refine .inl ⟨h.1, ?_⟩
    rcases h.2 with h2 | ⟨g, cap, cur, hv, hBg, hgg, r⟩
    · exact .inl h2
    · exact .inr ⟨g, cap, cur, hv, hBg, by rw [hg.block g (Array.getElem?_eq_some_iff.1 hgg).1 (fun e => by injection e; omega)]; exact hgg, r⟩
  · exact .inr h
/-- The cells from m on that are on the way have their lists in the table. -/
def TabOk (w : World) (B : Nat) (L : List Int) (m : Nat) (g : Int → Value) : Prop :=
  ∀ k : Nat, m ≤ k → k < 128 → wayB (k : Int) L = true → ∃ bo cb, g k = .slice bo (valC L lastF k).length cb ∧ ownsInts w B (.slice bo (valC L lastF k).length cb) (valC L lastF k)
theorem TabOk_below {w w' : World} {B : Nat} {L : List Int} {m : Nat} {g : Int → Value} (h : TabOk w B L m g) (hb : Below w.heap.size w w') : TabOk w' B L m g := fun k h1 h2 h3 => by
  obtain ⟨bo, cb, h4, h5⟩ := h k h1 h2 h3
  exact ⟨bo, cb, h4, ownsInts_below h5 hb (Nat.le_refl _)⟩
theorem TabOk_put {w w' : World} {B : Nat} {L : List Int} {c : Nat} {g : Int → Value} (h : TabOk w (B + 1) L (c + 1) g) (hg : w.grownBy w' (some B)) (bo : Option Addr) (cb : Nat)
    (ho : ownsInts w (B + 1) (.slice bo (valC L lastF c).length cb) (valC L lastF c)) : TabOk w' (B + 1) L c (fun j => if j = (c : Int) then .slice bo (valC L lastF c).length cb else g j) := fun k h1 h2 h3 => by
  by_cases e : k = c
  · subst e
    exact ⟨bo, cb, if_pos rfl, ownsInts_grown ho hg (by omega)⟩
  · obtain ⟨bo', cb', h4, h5⟩ := h k (by omega) h2 h3
    exact ⟨bo', cb', by show (if (k : Int) = (c : Int) then _ else g k) = _; rw [if_neg (by omega)]; exact h4, ownsInts_grown h5 hg (by omega)⟩
theorem infoSS : (Tryz.prog.info? 24).map (fun i => (i.zero, i.size, i.bytes)) = some (some (.slice none 0 0), 1, 24) := by kernel_rfl
theorem take_mapS {β : Type} (f : Nat → β) (l : List Nat) (j : Nat) (h : j < l.length) : (l.take (j + 1)).map f = (l.take j).map f ++ [f (l.getD j 0)] := by
  rw [List.take_add_one, List.map_append, List.getElem?_eq_getElem h, List.getD_eq_getElem?_getD, List.getElem?_eq_getElem h]
  rfl
/-- m[k], its value known. -/
theorem wpLookVS (w : World) {ops : Array Oper} {rest : List Oper} {o : Oper} {a : Act} {Q : Exit → Act → World → Prop} (hg : o.guard = none) (m x : Operand) (t : TypeId) (hop : o.op = Op.lookup t m x false)
    (e : TypeId) (ht : Tryz.prog.underlying t = some (.map 3 e)) (z : Value) (hz : (zeroValue e).run Tryz.prog w = .ok z w) (b n : Nat) (f : Int → Value) (hm : a.eval m = .map (some b)) (h : mapV w b n z f)
    (k : Int) (hx : a.eval x = .int .i64 k) (hwf : (Lit.int .i64 k).wf = true) (v : Value) (hv : f k = v) (hK : wpList Tryz.prog ops Q rest (a.put o.dst v) w) : wpList Tryz.prog ops Q (o :: rest) a w :=
  wpLookV w hg m x t hop e ht z hz b n f hm h k hx hwf (by rw [hv]; exact hK)
set_option maxRecDepth 100000 in
set_option maxHeartbeats 1600000 in
theorem tableS_any (ao : Option Addr) (n cap : Nat) (L : List Int) (w : World) (hr : RdI w ao L) (hn : L.length = n) (hm : n ≤ maxLen) (hD : allDig L) :
    Calls Tryz.prog 64 #[.slice ao n cap, .func (.func 29) #[] #[]] w fun e w' => e = .returned (.map (some w.heap.size)) ∧ (∃ g, mapV w' w.heap.size 128 (.slice none 0 0) g ∧ TabOk w' (w.heap.size + 1) L 0 g) ∧ Below w.heap.size w w' := by
  have HD := Lib.hid hD
  have HN := Lib.hid hn
  clear hD hn
  have hK : ∀ args w, (callFunc 29 args).run Tryz.prog w = .ok (.enter 29 args) w := enters_of Tryz.func29 (by kernel_rfl) rfl
  have hA1 := @cellAlloc; have hA2 := @frozenAlloc; have hA3 := @setCellAlloc; go_enter Tryz.func64, Tryz.ntmps64
  have hmm := @run_makeMap Tryz.prog
  go_wp2
  go_loopw [6] (fun c wr => ∃ m : Nat, m ≤ 128 ∧ c = .int .i64 ((m : Int) - 1) ∧ (∃ g, mapV wr w.heap.size (128 - m) (.slice none 0 0) g ∧ TabOk wr (w.heap.size + 1) L m g) ∧ Below w.heap.size w wr) (fun c _ => (intOf c + 1).toNat)
  case atStart => exact ⟨128, by omega, rfl, ⟨_, mapV_made w _, fun k h1 h2 => by omega⟩, Go.Joins.below_alloc1 _ _⟩
  case round =>
    obtain ⟨m, hle, rfl, ⟨g, hmap, htab⟩, hbw⟩ := hrel
    rcases m with _ | c
    · go_wp2
      go_ret
      exact ⟨rfl, ⟨g, hmap, htab⟩, hbw⟩
    · rw [show ((c + 1 : Nat) : Int) - 1 = (c : Int) by omega]
      have hc : c < 128 := by omega
      have hsz : w.heap.size + 1 ≤ wr.heap.size := mapV_lt hmap
      by_cases hway : wayB (c : Int) L = true
      · go_wp2_with (first | (go_at_call 79; refine (isOnWay_any _ _ _ _ L _ (RdI_below hr hbw) HN.out hm HD.out).mono ?_; rw [hway]; rintro e w1 ⟨rfl, hb1⟩) | (go_at_call 88; refine (lit_any c hc _ _ _ L _ (RdI_below hr (belowThen hbw hb1)) HN.out hm HD.out).mono ?_; rintro e w2 ⟨bo, cb, rfl, hown2, hb2⟩))
        have hmap2 := mapV_below hmap (belowThen hb1 hb2)
        have htab2 := TabOk_below htab (belowThen hb1 hb2)
        have hbw2 := belowThen (belowThen hbw hb1) hb2
        have hsz2 : w.heap.size + 1 ≤ w2.heap.size := Nat.le_trans hsz (belowThen hb1 hb2).size
        have hRd := RdI_owns hown2
        have hlen := litP_le L c 7
        have HV := Lib.hid (valC_eq L lastF c hc)
        obtain ⟨l, hl⟩ : ∃ l, litL L c = l := ⟨_, rfl⟩
        have hmem : ∀ x, x ∈ l → c < x ∧ x < 128 ∧ wayB (x : Int) L = true := by rw [← hl]; exact fun x hx => litP_mem hc (Nat.le_refl 7) hx
        change (litL L c).length ≤ 7 at hlen
        rw [hl] at hRd hlen hown2 HV ⊢
        have HM := Lib.hid hmem
        have HT := Lib.hid htab2
        clear hmap htab hb1 hb2 hbw hown2 hl hmem htab2
        go_wp2_with fail
        go_loopw [7, 23] (fun v i wr => ∃ j : Nat, j ≤ l.length ∧ i = .int .i64 j ∧ ownsV wr w2.heap.size 24 v ((l.take j).map fun x : Nat => g (x : Int)) ∧ Below w2.heap.size w2 wr) (fun _ i _ => l.length - (intOf i).toNat)
        case atStart => exact ⟨0, by omega, rfl, ownsV_nil _ _ _, Below.refl _ _⟩
        case round =>
          obtain ⟨j, hj, rfl, hown, hbi⟩ := hrel
          by_cases hlt : j < l.length
          · have hd : decide ((j : Int) < (l.length : Int)) = true := by simp; omega
            rcases RdI_below hRd hbi with h | ⟨b1, o1, rfl, hb1, hc1⟩
            · have := congrArg List.length h; rw [ints_length, List.length_nil] at this; omega
            have hx := hc1 j (by rw [ints_length]; exact hlt)
            rw [ints_getD] at hx
            have hm1 := HM.out (l.getD j 0) (by rw [List.getD_eq_getElem?_getD, List.getElem?_eq_getElem hlt]; exact List.getElem_mem _)
            have hsucc : (l.take (j + 1)).map (fun x : Nat => g (x : Int)) = (l.take j).map (fun x : Nat => g (x : Int)) ++ [g ((l.getD j 0 : Nat) : Int)] := take_mapS (fun x : Nat => g (x : Int)) l j hlt
            generalize l.getD j 0 = x at hx hm1 hsucc
            have hmapr := mapV_below hmap2 hbi
            obtain ⟨xo, xc, hgx, _⟩ := HT.out x (by omega) hm1.2.1 hm1.2.2
            generalize (valC L lastF x).length = xl at hgx
            rw [hgx] at hsucc
            have HS := Lib.hid hsucc
            have HX := Lib.hid hgx
            clear hc1 hsucc hgx hmap2 hRd
            go_wp2_with (first | (at_lookup; refine wpLookVS _ (by rfl) _ _ _ (by rfl) _ (Tryz.underlying74) _ (by rfl) w.heap.size _ _ (by rfl) hmapr (x : Int) (by rfl) (wf128 x hm1.2.1) (.slice xo xl xc) HX.out ?_) | (at_builtin; refine wpAppendV wr (by rfl) _ _ 44 24 (.slice none 0 0) 24 (by rfl) (Tryz.underlying44) infoSS (by rfl) (by decide) w2.heap.size _ _ (by rfl) hown (.slice xo xl xc) (by rfl) _ (by rfl) (by rw [List.length_map, List.length_take]; omega) hbi.size ?_; intro co cc w4 hv4 hb4))
            go_roundw
            case rel => exact ⟨j + 1, by omega, by go_num, by rw [HS.out]; rw [List.length_map, List.length_take, Nat.min_eq_left (Nat.le_of_lt hlt)] at hv4; exact hv4, hbi.trans hb4⟩
            case measure => simp [intOf]; omega
          · have hje : j = l.length := by omega
            subst hje
            rw [List.take_length] at hown
            obtain ⟨no, nc, rfl, hrv⟩ := ownsV_shape hown
            have htr := TabOk_below HT.out hbi
            have hss : RdSS wr no (l.map (valC L lastF)) := by
              refine ⟨_, hrv, by rw [List.length_map, List.length_map], fun j hj => ?_⟩
              rw [List.length_map] at hj
              have hm1 := HM.out l[j] (List.getElem_mem _)
              obtain ⟨xo, xc, hgx, hox⟩ := htr l[j] (by omega) hm1.2.1 hm1.2.2
              refine ⟨xo, xc, ?_, ?_⟩
              · simp only [List.getD_eq_getElem?_getD, List.getElem?_map, List.getElem?_eq_getElem hj, Option.map_some, Option.getD_some]
                exact hgx
              · simp only [List.getD_eq_getElem?_getD, List.getElem?_map, List.getElem?_eq_getElem hj, Option.map_some, Option.getD_some]
                exact RdI_owns hox
            have hall : ∀ x ∈ l.map (valC L lastF), x ≠ [] ∧ x.length ≤ 128 := by
              intro x hx
              obtain ⟨y, hy, rfl⟩ := List.mem_map.1 hx
              have hm1 := HM.out y hy
              exact ⟨lastV_ne hm1.2.1 hm1.2.2, lastV_le hm1.2.1 hm1.2.2⟩
            have hflat := flat_le _ fun x hx => (hall x hx).2
            rw [List.length_map] at hflat
            have hcall := LastCells1_any c hc no l.length nc (l.map (valC L lastF)) wr hss (List.length_map _) (by omega) (fun x hx => (hall x hx).1) (by omega)
            rw [← HV.out] at hcall
            have hmapr := mapV_below hmap2 hbi
            have hbr := belowThen hbw2 hbi
            have hszr := Nat.le_trans hsz2 hbi.size
            have HC := Lib.hid hcall
            have HTR := Lib.hid htr
            rw [List.length_map]
            clear hcall hrv hown hmap2 hRd hbi hbw2 htr hss hall hflat
            go_wp2_with fail
            refine HC.out.mono ?_
            rintro e w5 ⟨vo, vc, rfl, hown5, hb5⟩
            have hmap5 := mapV_below hmapr hb5
            have hbr5 := belowThen hbr hb5
            have htab5 := TabOk_below HTR.out hb5
            have ho5 := ownsInts_le hown5 hszr
            have HT5 := Lib.hid (fun w' hg => TabOk_put (w' := w') htab5 hg vo vc ho5)
            clear hmapr hbr hb5 htab5 ho5 hown5
            generalize (valC L lastF c).length = vl at HT5 ⊢
            go_wp2_with (at_mapUpdate; refine wpUpdV _ (by rfl) _ _ _ _ (by rfl) _ (Tryz.underlying74) _ w.heap.size _ _ (by rfl) hmap5 (by omega) (c : Int) (by rfl) (wf128 c hc) _ (by rfl) ?_; intro w6 hm6 hg6)
            go_roundw
            case rel => exact ⟨c, by omega, by first | rfl | go_num, ⟨_, mapV_mono hm6 (by omega), HT5.out _ hg6⟩, below_grown hbr5 hg6 (Nat.le_refl _)⟩
            case measure => first | (simp [intOf]; done) | (simp [intOf]; omega)
      · rw [Bool.not_eq_true] at hway
        go_wp2_with (first | (go_at_call 79; refine (isOnWay_any _ _ _ _ L _ (RdI_below hr hbw) HN.out hm HD.out).mono ?_; rw [hway]; rintro e w1 ⟨rfl, hb1⟩))
        go_roundw
        case rel =>
          refine ⟨c, by omega, by first | rfl | go_num, ⟨g, mapV_mono (mapV_below hmap hb1) (by omega), fun k h1 h2 h3 => ?_⟩, belowThen hbw hb1⟩
          by_cases e : k = c
          · subst e; rw [hway] at h3; cases h3
          · exact TabOk_below htab hb1 k (by omega) h2 h3
        case measure => first | (simp [intOf]; done) | (simp [intOf]; omega)
/-- What LastCells returns. -/
def lastL (c : Int) (L : List Int) (n : Nat) : List Int := if playB c L n = true then ints (lastP L c.toNat 128) else []
/-- A list and a Boolean are returned; the list is the call's own. -/
def RetListB (l : List Int) (b : Bool) (w : World) (e : Ending) (w' : World) : Prop := ∃ bo cb, e = .returned (.tuple #[.slice bo l.length cb, .bool b]) ∧ ownsInts w' w.heap.size (.slice bo l.length cb) l ∧ Below w.heap.size w w'
set_option maxRecDepth 100000 in
set_option maxHeartbeats 800000 in
theorem valueOfS_any (c : Int) (ao : Option Addr) (n cap : Nat) (L : List Int) (w : World) (hr : RdI w ao L) (hn : L.length = n) (hm : n ≤ maxLen) (hcap : n ≤ cap) :
    Calls Tryz.prog 28 #[.int .i64 c, .slice ao n cap, .func (.func 29) #[] #[]] w (RetListB (lastL c L n) (playB c L n) w) := by
  unfold lastL
  generalize hp : playB c L n = p
  have HP := Lib.hid hp
  have hon := fun h => playB_on (L := L) (n := n) (c := c) (hp.trans h)
  have hway : p = true → wayB c L = true := by intro h; rw [← hp] at h; unfold playB at h; rw [Bool.and_eq_true] at h; exact h.2
  clear hp
  rcases p with _ | _
  · clear hway hon
    have hA1 := @cellAlloc; have hA2 := @frozenAlloc; have hA3 := @setCellAlloc; go_enter Tryz.func28, Tryz.ntmps28
    go_wp2_with (first | (go_at_call 45; refine (isPlayable_any _ _ _ _ L _ hr hn hm hcap).mono ?_; rw [HP.out]; rintro e w1 ⟨rfl, hb1⟩))
    go_ret2
    exact ⟨none, 0, rfl, ownsInts_nil _ _, hb1⟩
  · obtain ⟨hD, hc⟩ := hon rfl
    have hw := hway rfl
    rw [inB_iff] at hc
    obtain ⟨C, rfl⟩ := Int.eq_ofNat_of_zero_le hc.1
    have hC : C < 128 := by omega
    rw [if_pos rfl, Int.toNat_natCast, ← valC_last L 128 C hC (by omega) hw]
    have HD := Lib.hid hD
    have HN := Lib.hid hn
    have HW := Lib.hid hw
    clear hD hc hon hn hway hw
    have hA1 := @cellAlloc; have hA2 := @frozenAlloc; have hA3 := @setCellAlloc; go_enter Tryz.func28, Tryz.ntmps28
    go_wp2_with (first | (go_at_call 45; refine (isPlayable_any _ _ _ _ L _ hr HN.out hm hcap).mono ?_; rw [HP.out]; rintro e w1 ⟨rfl, hb1⟩) | (go_at_call 64; refine (tableS_any _ _ _ L _ (RdI_below hr hb1) HN.out hm HD.out).mono ?_; rintro e w2 ⟨rfl, ⟨g, hmap, htab⟩, hb2⟩; obtain ⟨vo, vc, hgx, hox⟩ := htab C (by omega) hC HW.out) | (at_lookup; refine wpLookVS _ (by rfl) _ _ _ (by rfl) _ (Tryz.underlying74) _ (by rfl) w1.heap.size _ _ (by rfl) hmap (C : Int) (by rfl) (wf128 C hC) _ hgx ?_))
    go_ret2
    exact ⟨vo, vc, rfl, ownsInts_le hox (Nat.le_succ_of_le hb1.size), belowThen hb1 hb2⟩
theorem LastCellsI_any (c : Int) (ao : Option Addr) (n cap : Nat) (L : List Int) (w : World) (hr : RdI w ao L) (hn : L.length = n) (hm : n ≤ maxLen) (hcap : n ≤ cap) :
    Calls Tryz.prog 6 #[.int .i64 c, .slice ao n cap] w (RetListB (lastL c L n) (playB c L n) w) := by
  have HC := Lib.hid (fun w hr => valueOfS_any c ao n cap L w hr hn hm hcap)
  generalize lastL c L n = l at HC ⊢
  generalize playB c L n = b at HC ⊢
  have hA1 := @cellAlloc; have hA2 := @frozenAlloc; have hA3 := @setCellAlloc; go_enter Tryz.func6, Tryz.ntmps6
  go_wp2_with (first | (go_at_call 28; refine (HC.out _ hr).mono ?_; rintro e w1 ⟨vo, vc, rfl, hown, hb1⟩))
  go_ret2
  exact ⟨vo, vc, rfl, hown, hb1⟩
end Go.Proofs.YtcddfpbohejhhaaGreat

namespace Go.Proofs.YtcddfpbohejhhaaGreat
open Go.RowKit

/-- A list of one number that is made on the spot. -/
theorem RdI_one (W : World) (x : Int) (T : TypeId) : RdI (W.alloc (.cells #[.int .i64 x] T)) (some ⟨W.heap.size, 0, none⟩) [x] := by
  refine .inr ⟨W.heap.size, 0, rfl, by simp, fun j hj => ?_⟩
  simp only [List.length_cons, List.length_nil] at hj
  rw [World.cell?_alloc_at _ _ _ _ rfl, show j = 0 by omega]
  rfl
theorem mov_zero (R L : List Int) : ∀ m, movN R L false m = 0 ↔ ∀ j, j < m → movQ R L false (j / 7) (j % 7) = false := by
  intro m
  induction m with
  | zero => simp [movN]
  | succ m ih =>
    unfold movN
    constructor
    · intro h
      split at h
      · omega
      · intro j hj
        by_cases e : j = m
        · subst e; rename_i hq; rw [Bool.not_eq_true] at hq; exact hq
        · exact ih.1 h j (by omega)
    · intro h
      rw [if_neg (by rw [h m (by omega)]; decide)]
      exact ih.2 fun j hj => h j (by omega)
theorem mov_end (L : List Int) (x : Nat) : ((movN [(x : Int)] L false (1 * 7) : Nat) == 0) = endB L x := by
  rw [Bool.eq_iff_iff, beq_iff_eq, mov_zero]
  unfold endB
  rw [List.all_eq_true]
  simp only [List.mem_range]
  have hq : ∀ j, j < 7 → movQ [(x : Int)] L false (j / 7) (j % 7) = nextB L x j := by
    intro j hj
    rw [show j / 7 = 0 by omega, show j % 7 = j by omega]
    simp [movQ]
  constructor
  · intro h j hj
    have := h j (by omega)
    rw [hq j hj] at this
    simp [this]
  · intro h j hj
    have := h j (by omega)
    rw [hq j (by omega)]
    simpa using this
theorem sub_and (c x : Nat) (hc : c < 128) (hx : x < 128) : (bits .and .i64 (x : Int) (c : Int) == (c : Int)) = subB c x := by
  rw [and64 _ _ (by omega) (by omega)]
  unfold subB
  rw [Bool.eq_iff_iff]
  simp only [beq_iff_eq]
  omega
theorem lastL_le (c : Int) (L : List Int) (n : Nat) : (lastL c L n).length ≤ 128 := by
  unfold lastL
  split
  · rw [ints_length]; exact lastP_le _ _ _
  · simp
theorem len0 (n : Nat) : (((n : Nat) : Int) == 0) = (n == 0) := by rw [Bool.eq_iff_iff]; simp only [beq_iff_eq]; omega
set_option maxHeartbeats 1600000 in
theorem LastCellsS_any (c : Int) (ao : Option Addr) (n cap : Nat) (L : List Int) (w : World) (hr : RdI w ao L) (hn : L.length = n) (hm : n ≤ maxLen) (hcap : n ≤ cap) :
    Calls Tryz.prog 7 #[.int .i64 c, .slice ao n cap] w (RetListB (lastL c L n) (playB c L n) w) := by
  unfold lastL
  generalize hp : playB c L n = p
  have HP := Lib.hid hp
  have hon := fun h => playB_on (L := L) (n := n) (c := c) (hp.trans h)
  clear hp
  rcases p with _ | _
  · clear hon
    have hA1 := @cellAlloc; have hA2 := @frozenAlloc; have hA3 := @setCellAlloc; go_enter Tryz.func7, Tryz.ntmps7
    go_wp2_with (first | (go_at_call 32; refine (l11Good_any _ _ _ _ L _ (by first | exact hr | exact RdI_below hr (Go.Joins.below_alloc1 _ _)) hn hm hcap).mono ?_; rw [HP.out]; rintro e w1 ⟨rfl, hb1⟩))
    go_ret2
    exact ⟨_, _, rfl, ownsInts_zero _ _ _, by (repeat (first | assumption | exact Below.refl _ _ | refine belowThen ?_ (Go.Joins.below_alloc1 _ _) | apply Below.drew | refine belowThen ?_ (by assumption) | refine belowThen ?_ (Go.Joins.below_draws _ _ _) | refine Below.setCell ?_ (by first | exact Nat.le_refl _ | (simp; done) | (simp; omega)) _))⟩
  · obtain ⟨hD, hc⟩ := hon rfl
    rw [inB_iff] at hc
    obtain ⟨C, rfl⟩ := Int.eq_ofNat_of_zero_le hc.1
    have hC : C < 128 := by omega
    rw [if_pos rfl, Int.toNat_natCast]
    have HD := Lib.hid hD
    have HN := Lib.hid hn
    clear hD hc hon hn
    have hA1 := @cellAlloc; have hA2 := @frozenAlloc; have hA3 := @setCellAlloc; go_enter Tryz.func7, Tryz.ntmps7
    go_wp2_with (first | (go_at_call 32; refine (l11Good_any _ _ _ _ L _ (by first | exact hr | exact RdI_below hr (Go.Joins.below_alloc1 _ _)) HN.out hm hcap).mono ?_; rw [HP.out]; rintro e w1 ⟨rfl, hb1⟩))
    have hb0 : Below w.heap.size w w1 := by (repeat (first | assumption | exact Below.refl _ _ | refine belowThen ?_ (Go.Joins.below_alloc1 _ _) | apply Below.drew | refine belowThen ?_ (by assumption) | refine belowThen ?_ (Go.Joins.below_draws _ _ _) | refine Below.setCell ?_ (by first | exact Nat.le_refl _ | (simp; done) | (simp; omega)) _))
    go_loopw [6, 7] (fun v i wr => ∃ k : Nat, k ≤ 128 ∧ i = .int .i64 k ∧ ownsInts wr w.heap.size v (ints (lastP L C k)) ∧ Below w.heap.size w wr) (fun _ i _ => 128 - (intOf i).toNat)
    case atStart => exact ⟨0, by omega, rfl, ownsInts_zero _ _ _, hb0⟩
    case round =>
      obtain ⟨k, hk, rfl, hown, hbw⟩ := hrel
      by_cases hlt : k < 128
      · have hd : decide ((k : Int) < 128) = true := by simp; omega
        have hsub := sub_and C k hC hlt
        have hsucc := lastP_succ L C k
        have hlB : lastB L C k = ((subB C k && wayB (k : Int) L) && endB L k) := rfl
        have hlen := lastP_le L C k
        rw [← ints_length] at hlen
        rw [hlB] at hsucc
        have hmov := mov_end L k
        have hkin : inB 0 127 (k : Int) = true := by rw [inB_iff]; omega
        generalize subB C k = q1 at hsub hsucc
        generalize hq2 : wayB (k : Int) L = q2 at hsucc
        generalize endB L k = q3 at hsucc hmov
        have HS := Lib.hid hsucc
        have HW := Lib.hid hq2
        have HK := Lib.hid hkin
        clear hsucc hlB hq2 hkin hb0 hb1
        have hrw := RdI_below hr hbw
        generalize lastP L C k = l at hown hlen HS
        generalize hmv : movN [(k : Int)] L false (1 * 7) = mv at hmov
        have HMV := Lib.hid hmv
        clear hmv
        have hl0 := len0 mv
        rw [hmov] at hl0
        rcases q1 with _ | _
        · go_wp2_with fail
          go_roundw
          case rel => exact ⟨k + 1, by omega, by go_num, by rw [HS.out]; exact hown, hbw⟩
          case measure => simp [intOf]; omega
        · rcases q2 with _ | _
          · go_wp2_with (first | (go_at_call 33; refine (l11Way_any _ HK.out _ _ _ L _ hrw HN.out hm HD.out).mono ?_; rw [HW.out]; rintro e w2 ⟨rfl, hb2⟩))
            go_roundw
            case rel => exact ⟨k + 1, by omega, by go_num, by rw [HS.out]; exact ownsInts_below hown hb2 (Nat.le_refl _), belowThen hbw hb2⟩
            case measure => simp [intOf]; omega
          · rcases q3 with _ | _
            · go_wp2_with (first
                | (go_at_call 33; refine (l11Way_any _ HK.out _ _ _ L _ hrw HN.out hm HD.out).mono ?_; rw [HW.out]; rintro e w2 ⟨rfl, hb2⟩)
                | (go_at_call 35; refine (l11All_any _ _ _ L _ (RdI_below (RdI_below hrw hb2) (Go.Joins.below_alloc1 _ _)) HN.out hm HD.out).mono ?_; rintro e w3 ⟨g3, rfl, hg3, hall3, hb3⟩)
                | (go_at_call 34; refine (l11Moves_any _ 1 _ [(k : Int)] _ _ _ L _ _ _ (RdI_below (RdI_one _ _ _) hb3) rfl (by omega) (by intro x hx; rw [List.mem_singleton] at hx; subst hx; exact HK.out) (RdI_below (RdI_below (RdI_below hrw hb2) (Go.Joins.below_alloc1 _ _)) hb3) HN.out hm HD.out hall3).mono ?_; rw [HMV.out]; rintro e w4 ⟨mo, mc, rfl, _, hb4⟩))
              go_roundw
              case rel => exact ⟨k + 1, by omega, by go_num, by rw [HS.out]; exact ownsInts_below (ownsInts_below (ownsInts_below (ownsInts_below hown hb2 (Nat.le_refl _)) (Go.Joins.below_alloc1 _ _) (Nat.le_refl _)) hb3 (Nat.le_refl _)) hb4 (Nat.le_refl _), by (repeat (first | assumption | exact Below.refl _ _ | refine belowThen ?_ (Go.Joins.below_alloc1 _ _) | apply Below.drew | refine belowThen ?_ (by assumption) | refine belowThen ?_ (Go.Joins.below_draws _ _ _) | refine Below.setCell ?_ (by first | exact Nat.le_refl _ | (simp; done) | (simp; omega)) _))⟩
              case measure => simp [intOf]; omega
            · go_wp2_with (first
                | (go_at_call 33; refine (l11Way_any _ HK.out _ _ _ L _ hrw HN.out hm HD.out).mono ?_; rw [HW.out]; rintro e w2 ⟨rfl, hb2⟩)
                | (go_at_call 35; refine (l11All_any _ _ _ L _ (RdI_below (RdI_below hrw hb2) (Go.Joins.below_alloc1 _ _)) HN.out hm HD.out).mono ?_; rintro e w3 ⟨g3, rfl, hg3, hall3, hb3⟩)
                | (go_at_call 34; refine (l11Moves_any _ 1 _ [(k : Int)] _ _ _ L _ _ _ (RdI_below (RdI_one _ _ _) hb3) rfl (by omega) (by intro x hx; rw [List.mem_singleton] at hx; subst hx; exact HK.out) (RdI_below (RdI_below (RdI_below hrw hb2) (Go.Joins.below_alloc1 _ _)) hb3) HN.out hm HD.out hall3).mono ?_; rw [HMV.out]; rintro e w4 ⟨mo, mc, rfl, _, hb4⟩; have hown4 := ownsInts_below (ownsInts_below (ownsInts_below (ownsInts_below hown hb2 (Nat.le_refl _)) (Go.Joins.below_alloc1 _ _) (Nat.le_refl _)) hb3 (Nat.le_refl _)) hb4 (Nat.le_refl _); have hbw4 : Below w.heap.size w w4 := (by (repeat (first | assumption | exact Below.refl _ _ | refine belowThen ?_ (Go.Joins.below_alloc1 _ _) | apply Below.drew | refine belowThen ?_ (by assumption) | refine belowThen ?_ (Go.Joins.below_draws _ _ _) | refine Below.setCell ?_ (by first | exact Nat.le_refl _ | (simp; done) | (simp; omega)) _))))
                | (at_builtin; refine wpAppendInt w4 (by rfl) _ _ (by rfl) w.heap.size _ _ (by rfl) hown4 (k : Int) (by rfl) (by omega) hbw4.size ?_; intro co cc w5 hv5 hb5))
              go_roundw
              case rel => exact ⟨k + 1, by omega, by go_num, by rw [HS.out]; show ownsInts _ _ _ (ints (l ++ [k])); rw [ints_append]; exact hv5, hbw4.trans hb5⟩
              case measure => simp [intOf]; omega
      · have hk8 : k = 128 := by omega
        subst hk8
        obtain ⟨co, cc, rfl, _⟩ := ownsInts_shape hown
        go_wp2
        go_ret2
        exact ⟨co, cc, rfl, hown, hbw⟩
end Go.Proofs.YtcddfpbohejhhaaGreat
