/- The contract of the reference's LeastSwitches. -/
import Derived.Test.YtjcbffkdemadnaaSeqR
import Derived.Test.YtjcbffkdemadnaaLeastA
import Derived.Test.YtjcbffkdemadnaaLsB
import Derived.Test.YtjcbffkdemadnaaSlotS
import Derived.Lib.Hide
import Derived.Deep.RegionHeld3
namespace Go.Proofs.Ytjcbffkdemadnaa
open Go.RowKit

theorem stepAppendSr {ops : Array Oper} {o : Oper} {a : Act} {w : World} {K' : Act → World → Prop} {Q : Exit → Act → World → Prop} {E : Prop} (hgd : o.guard = none) (s x : Operand)
    (ho : o.op = .call { callee := .builtin .append, args := #[s, x], argTypes := #[24, 24] })
    (B : Nat) (v : Value) (l : List (Int × Int)) (hs : a.eval s = v) (hown : ownsS w B v l) (ad : Addr) (m c : Nat) (l2 : List (Int × Int)) (hx : a.eval x = .slice (some ad) m c) (hl2 : l2.length = m) (hrd : RdS w (some ad) l2)
    (hv : (∃ b off n c, v = .slice (some ⟨b, off, none⟩) n c) ∨ 0 < m) (hvb : ∀ k, v.ownBlock = some k → k < w.heap.size) (r : Nat) (hr : l.length + m = r) (hn : r ≤ 1000000) (hB : B ≤ w.heap.size)
    (h : ∀ b off cap w', ownsS w' B (.slice (some ⟨b, off, none⟩) r cap) (l ++ l2) → Below B w w' → (∀ k, k < w.heap.size → v.ownBlock ≠ some k → w'.heap[k]? = w.heap[k]?) → b < w'.heap.size → K' (a.put o.dst (.slice (some ⟨b, off, none⟩) r cap)) w') :
    if Region.wanted o (yielded ops a.tmps) = true then Oper.wp Try.prog o a w K' Q else E := by
  subst hr
  exact stepAppendSl hgd s x ho B v l hs hown ad m c l2 hx hl2 hrd hv hvb hn hB fun b off cap w' h1 h2 h3 h4 _ => h b off cap w' h1 h2 h3 h4
theorem RdS_stay {w w' : World} {b o : Nat} {l : List (Int × Int)} {v : Value} (h : RdS w (some ⟨b, o, none⟩) l) (hs : w.heap.size ≤ w'.heap.size) (hk : ∀ k, k < w.heap.size → v.ownBlock ≠ some k → w'.heap[k]? = w.heap[k]?) (hne : v.ownBlock ≠ some b) : RdS w' (some ⟨b, o, none⟩) l := by
  rcases h with h | ⟨b', off, he, hlt, hc⟩
  · exact .inl h
  · cases he
    have hb := hk b hlt hne
    exact .inr ⟨b, o, rfl, Nat.lt_of_lt_of_le hlt hs, fun j hj => ⟨(World.cell?_of_block hb).trans (hc j hj).1, (World.cell?_of_block hb).trans (hc j hj).2⟩⟩
theorem RdS_newR (W : World) (x y : Int) (T : TypeId) : RdS (W.alloc (.cells #[.int .i64 x, .int .i64 y] T)).drew (some ⟨W.heap.size, 0, none⟩) [(x, y)] := RdS_below (RdS_new W x y T) (Below.refl _ _).drew
theorem RdS_newB (W : World) (x y : Int) (T : TypeId) (o : Obj) : RdS ((W.alloc (.cells #[.int .i64 x, .int .i64 y] T)).alloc o).drew (some ⟨W.heap.size, 0, none⟩) [(x, y)] := RdS_below (RdS_new W x y T) (Go.Joins.below_alloc1 _ _).drew
theorem updS_some (b s : List (Int × Int)) : updS (some b) s = if swF s < swF b then some s else some b := rfl
theorem foldTake (R : List (List (Int × Int))) (j : Nat) (hj : j < R.length) : (R.take (j + 1)).foldl updS none = updS ((R.take j).foldl updS none) (R.getD j []) := by
  rw [List.take_add_one, List.getElem?_eq_getElem hj, List.foldl_append]
  simp [hj]
theorem lsO_fold (l : List (Int × Int)) : (seqS (sortS l)).foldl updS none = lsO l := by
  have e : (fun x : List (Int × Int) => [] ++ x) = id := funext fun x => List.nil_append x
  unfold lsO stF
  rw [e, List.map_id]
set_option maxHeartbeats 1600000 in
set_option maxRecDepth 100000 in
theorem LeastSwitchesS_any (k : Int) (ao : Option Addr) (n cap : Nat) (l : List (Int × Int)) (w : World) (hr : RdS w ao l) (hn : l.length = n) (hm : n ≤ 1048576) :
    Calls Try.prog 6 #[.int .i64 k, .slice ao n cap] w fun e w' => ∃ bo cb, e = .returned (.tuple #[.slice bo (lsL k l).length cb, .int .i64 (lsN k l), .bool (lsB k l)]) ∧ RdS w' bo (lsL k l) ∧ Below w.heap.size w w' := by
  unfold lsL lsN lsB
  have hsm := goodS_small (k := k) (l := l)
  have HG := Lib.hid (fun W h => l8Good_any k ao n cap l W h hn (by unfold maxLen; omega))
  generalize goodS k l = b at *
  have hd6 : decide ((6 : Int) < (n : Int)) = !decide (l.length ≤ 6) := by rw [hn, Bool.eq_iff_iff]; simp; omega
  generalize hd : decide (l.length ≤ 6) = d at *
  rcases b with _ | _
  · have hA1 := @cellAlloc; have hA2 := @frozenAlloc; have hA3 := @setCellAlloc; go_enter Try.func6, Try.ntmps6
    go_wp2_with (go_at_call 26; refine (HG.out _ hr).mono ?_; rintro e w1 ⟨rfl, hb1⟩)
    go_ret3
    exact ⟨_, ⟨0, rfl⟩, .inl rfl, belowThen hb1 (Go.Joins.below_alloc1 _ _)⟩
  rcases d with _ | _
  · simp only [Bool.not_false] at hd6
    have hA1 := @cellAlloc; have hA2 := @frozenAlloc; have hA3 := @setCellAlloc; go_enter Try.func6, Try.ntmps6
    go_wp2_with (go_at_call 26; refine (HG.out _ hr).mono ?_; rintro e w1 ⟨rfl, hb1⟩)
    go_ret3
    exact ⟨_, ⟨0, rfl⟩, .inl rfl, belowThen hb1 (Go.Joins.below_alloc1 _ _)⟩
  simp only [Bool.not_true] at hd6
  rw [decide_eq_true_eq] at hd
  have hs := hsm rfl
  simp only [Bool.and_self, if_true]
  have hs2 : smallS (sortS l) := fun x hx => hs x ((sortS_perm l).subset hx)
  have hls := sortS_length l
  have hall := insL_all l
  have hfo := lsO_fold l
  have HSS := Lib.hid (fun s (h : s ∈ seqS (sortS l)) => And.intro (show smallS s from fun x hx => hs2 x (((seqS_perm l.length _ hls s).1 h).subset hx)) (show s.length = l.length from by have := ((seqS_perm l.length _ hls s).1 h).length_eq; omega))
  have hcnt := seqS_count l.length (sortS l) hls
  have hfp := fact_pos l.length
  have hf720 : fact l.length ≤ 720 := by
    have : ∀ x : Fin 7, fact x.val ≤ 720 := by decide
    exact this ⟨l.length, by omega⟩
  have HSQ := Lib.hid (fun (fo : Option Addr) (c : Nat) (W : World) h1 h2 => seqOk_all n fo n c (sortS l) W (hls.trans hn) rfl (by omega) h1 h2)
  obtain ⟨R, hR⟩ : ∃ R, seqS (sortS l) = R := ⟨_, rfl⟩
  rw [hR] at HSS hcnt HSQ hfo
  have HA := Lib.hid hall
  have HFO := Lib.hid hfo
  have HN := Lib.hid hn
  have hRl : 1 ≤ R.length ∧ R.length ≤ 720 := by omega
  clear hs hs2 hsm hls hall hfo hcnt hfp hf720 hR hn
  have hA1 := @cellAlloc; have hA2 := @frozenAlloc; have hA3 := @setCellAlloc; go_enter Try.func6, Try.ntmps6
  go_wp2_with (first
    | (go_at_call 26; refine (HG.out _ hr).mono ?_; rintro e w1 ⟨rfl, hb1⟩))
  go_loopw [7, 8] (fun v i wr => ∃ j : Nat, j ≤ n ∧ i = .int .i64 j ∧ Below w.heap.size w wr ∧ ∃ g off c, v = .slice (some ⟨g, off, none⟩) j c ∧ ownsS wr w.heap.size v (insL l j) ∧ g < wr.heap.size ∧ j ≤ c ∧ c ≤ 9223372036854775807) (fun _ i _ => n - (intOf i).toNat)
  case atStart => exact ⟨0, by omega, rfl, belowThen hb1 (Go.Joins.below_alloc1 _ _), _, 0, 0, rfl, by rw [insL_zero]; exact ownsS_zero _ _ _, by simp, Nat.le_refl _, by omega⟩
  case round =>
    obtain ⟨j, hj, rfl, hbw, g, off, c, rfl, hown, hgl, hjc, hcm⟩ := hrel
    by_cases hlt : j < n
    · have hdj : decide ((j : Int) < (n : Int)) = true := by simp; omega
      rcases RdS_below hr hbw with h | ⟨b, o, rfl, hbl, hc⟩
      · have := HN.out; rw [h] at this; simp at this; omega
      obtain ⟨hc0, hc1⟩ := hc j (by rw [HN.out]; exact hlt)
      have hsucc := insL_succ l j (by rw [HN.out]; exact hlt)
      have hlenj := insL_length l j (by rw [HN.out]; omega)
      obtain ⟨⟨x0, x1⟩, hx⟩ : ∃ x, l.getD j (0, 0) = x := ⟨_, rfl⟩
      rw [hx] at hc0 hc1 hsucc
      simp only at hc0 hc1
      unfold insS at hsucc
      generalize insL l j = S at *
      have hple := posS_le (x0, x1) S
      have hpb := posS_before (x0, x1) S
      have hpa := posS_at (x0, x1) S
      generalize posS (x0, x1) S = p at *
      rw [hlenj] at hple hpa
      have HSU := Lib.hid hsucc
      have HP := Lib.hid (And.intro hpb hpa)
      have HLJ := Lib.hid hlenj
      have HLA := Lib.hid (fun y W => l8Less_any (x0, x1) y W)
      have hrs := RdS_owns hown
      clear hc hx hsucc hpb hpa hlenj
      go_wp2_with fail
      obtain ⟨wo, hwo⟩ : ∃ wo : World, wo = wr := ⟨_, rfl⟩
      subst hwo
      go_loopw [9] (fun i wq => ∃ q : Nat, q ≤ p ∧ i = .int .i64 q ∧ Below wo.heap.size wo wq) (fun i _ => n - (intOf i).toNat)
      case atStart => exact ⟨0, by omega, rfl, Below.refl _ _⟩
      case round =>
        obtain ⟨q, hq, rfl, hbq⟩ := hrel
        have hblq : b < wr.heap.size := Nat.lt_of_lt_of_le hbl hbq.size
        have hc0q := (hbq.cell (p := ⟨b, o + j * 2, none⟩) hbl).trans hc0
        have hc1q := (hbq.cell (p := ⟨b, o + j * 2 + 1, none⟩) hbl).trans hc1
        have hrsq := RdS_below hrs hbq
        by_cases hqp : q < p
        · have hdq : decide ((q : Int) < (j : Int)) = true := by simp; omega
          rcases hrsq with h | ⟨b', o', he, hgl', hcs⟩
          · have := HLJ.out; rw [h] at this; simp at this; omega
          cases he
          obtain ⟨hy0, hy1⟩ := hcs q (by rw [HLJ.out]; omega)
          have hno := HP.out.1 q hqp
          have HC := Lib.hid (HLA.out (S.getD q (0, 0)))
          generalize S.getD q (0, 0) = y at hy0 hy1 hno HC
          obtain ⟨y0, y1⟩ := y
          rw [hno] at HC
          simp only at hy0 hy1 HC
          have hqj : q < j := by omega
          clear hcs hno
          go_wp2_with fail
          go_region_held3 (fun w' => w'.cell? ⟨b, o + j * 2, none⟩ = some (.int .i64 x0) ∧ w'.cell? ⟨b, o + j * 2 + 1, none⟩ = some (.int .i64 x1) ∧ w'.cell? ⟨g, off + q * 2, none⟩ = some (.int .i64 y0) ∧ w'.cell? ⟨g, off + q * 2 + 1, none⟩ = some (.int .i64 y1) ∧ Below wr.heap.size wr w') (first | assumption | exact ⟨hc0q, hc1q, hy0, hy1, (Below.refl _ _).drew⟩ | exact keepS4 hblq hgl' ‹_› ‹_›) (first | (go_at_call 27; refine (HC.out _).mono ?_; rintro e w2 ⟨rfl, hb5⟩))
          rename_i hH
          have hbn := hH.2.2.2.2
          clear hH
          go_wp2
          go_roundw
          case rel => exact ⟨q + 1, by omega, by go_num, belowThen hbq hbn⟩
          case measure => simp [intOf]; omega
        · have hqe : q = p := by omega
          subst hqe
          have ht := Lib.hid (RdS_take hrsq q (by rw [HLJ.out]; omega))
          obtain ⟨A, hA, hsrc⟩ : ∃ A : Addr, (if c = q then some (⟨g, off, none⟩ : Addr) else some ⟨g, off + q * 2, none⟩) = some A ∧ Hid (RdS wr (some A) (S.drop q)) := by
            by_cases h : c = q
            · exact ⟨_, by rw [if_pos h], .inl (List.drop_eq_nil_of_le (by rw [HLJ.out]; omega))⟩
            · exact ⟨_, by rw [if_neg h], RdS_drop hrsq _ (by rw [HLJ.out]; omega)⟩
          have HTL := Lib.hid (And.intro (show (S.take q).length = q by rw [List.length_take, HLJ.out]; omega) (show (S.drop q).length = j - q by rw [List.length_drop, HLJ.out]))
          rcases Nat.lt_or_ge q j with hqj | hqj
          case' inl =>
            have hdq : decide ((q : Int) < (j : Int)) = true := by simp; omega
            rcases hrsq with h | ⟨b', o', he, hgl', hcs⟩
            · have := HLJ.out; rw [h] at this; simp at this; omega
            cases he
            obtain ⟨hy0, hy1⟩ := hcs q (by rw [HLJ.out]; omega)
            have hno := HP.out.2 hqj
            have HC := Lib.hid (HLA.out (S.getD q (0, 0)))
            generalize S.getD q (0, 0) = y at hy0 hy1 hno HC
            obtain ⟨y0, y1⟩ := y
            rw [hno] at HC
            simp only at hy0 hy1 HC
            clear hcs hno
            go_wp2_with fail
            go_region_held3 (fun w' => w'.cell? ⟨b, o + j * 2, none⟩ = some (.int .i64 x0) ∧ w'.cell? ⟨b, o + j * 2 + 1, none⟩ = some (.int .i64 x1) ∧ w'.cell? ⟨g, off + q * 2, none⟩ = some (.int .i64 y0) ∧ w'.cell? ⟨g, off + q * 2 + 1, none⟩ = some (.int .i64 y1) ∧ Below wr.heap.size wr w') (first | assumption | exact ⟨hc0q, hc1q, hy0, hy1, (Below.refl _ _).drew⟩ | exact keepS4 hblq hgl' ‹_› ‹_›) (first | (go_at_call 27; refine (HC.out _).mono ?_; rintro e w2 ⟨rfl, hb5⟩))
            rename_i hH
            have hbn := hH.2.2.2.2
            clear hH hy0 hy1 hb5 hgl'
            go_wp2_with fail
            obtain ⟨W0, hW0⟩ : ∃ W0 : World, W0 = w2 := ⟨_, rfl⟩
            subst hW0
          case' inr =>
            have hnq : ¬ (q < j) := by omega
            have hnqi : ¬ ((q : Int) < (j : Int)) := by omega
            have hdq : decide ((q : Int) < (j : Int)) = false := by simp; omega
            have hdq2 : decide (q < j) = false := by simp; omega
            go_wp2_with fail
            go_quiet (fail)
            go_wp2_with fail
            generalize hW0 : wr.drewN _ = W0
            have hbn : Below wr.heap.size wr W0 := by rw [← hW0]; exact Go.Joins.below_draws _ _ _
            clear hnq hnqi hdq2 hW0
          all_goals
            have htW := Lib.hid (RdS_below ht.out hbn)
            have hsW := Lib.hid (RdS_below hsrc.out hbn)
            have hblW : b < W0.heap.size := Nat.lt_of_lt_of_le hblq hbn.size
            have hc0W := (hbn.cell (p := ⟨b, o + j * 2, none⟩) hblq).trans hc0q
            have hc1W := (hbn.cell (p := ⟨b, o + j * 2 + 1, none⟩) hblq).trans hc1q
            have HS := Lib.hid (fun W (h : Below W0.heap.size W0 W) => And.intro ((h.cell (p := ⟨b, o + j * 2, none⟩) hblW).trans hc0W) ((h.cell (p := ⟨b, o + j * 2 + 1, none⟩) hblW).trans hc1W))
            have hbz : Below W0.heap.size W0 W0.drew := (Below.refl _ _).drew
            have hs0 := HS.out W0.drew hbz
            have hqc : q ≤ c := by omega
            have hqj3 : q ≤ j := by omega
            have hj6 : j ≤ 6 := by have := HN.out; omega
            have t1 : True := trivial
            clear hdq hqj hc0 hc1 hc0q hc1q hrs
            try clear hrsq
            go_wp2_with fail
            go_region_held3? (fun W => W.cell? ⟨b, o + j * 2, none⟩ = some (.int .i64 x0) ∧ W.cell? ⟨b, o + j * 2 + 1, none⟩ = some (.int .i64 x1))
              (first | (with_reducible exact hs0) | (with_reducible exact HS.out _ (hbz)) | (with_reducible exact HS.out _ (belowThen hbz (Go.Joins.below_alloc1 _ _))) | (with_reducible exact HS.out _ ((Go.Joins.below_alloc1 W0 _).drew)) | (with_reducible exact HS.out _ ((belowThen (Go.Joins.below_alloc1 W0 _) (Go.Joins.below_alloc1 _ _)).drew)) | (with_reducible exact HS.out _ (belowThen (Go.Joins.below_alloc1 W0 _).drew (Go.Joins.below_alloc1 _ _))) | (with_reducible exact HS.out _ (belowThen (belowThen hbz (Go.Joins.below_alloc1 _ _)) (Go.Joins.below_alloc1 _ _))))
              (first
                | (clear t1; refine stepAppendSr (by rfl) _ _ (by rfl) W0.heap.size (.slice (some ⟨W0.heap.size, 0, none⟩) 0 0) [] (by rfl) (ownsS_zero _ _ _) ⟨g, off, none⟩ q c (S.take q) (by rfl) HTL.out.1 (RdS_below htW.out (by first | (with_reducible exact hbz) | (with_reducible exact belowThen hbz (Go.Joins.below_alloc1 _ _)) | (with_reducible exact (Go.Joins.below_alloc1 W0 _).drew) | (with_reducible exact (belowThen (Go.Joins.below_alloc1 W0 _) (Go.Joins.below_alloc1 _ _)).drew) | (with_reducible exact belowThen (Go.Joins.below_alloc1 W0 _).drew (Go.Joins.below_alloc1 _ _)) | (with_reducible exact belowThen (belowThen hbz (Go.Joins.below_alloc1 _ _)) (Go.Joins.below_alloc1 _ _)))) (.inl ⟨_, _, _, _, rfl⟩) (by intro k hk; simp [Value.ownBlock] at hk; subst hk; first | (simp; done) | (simp; omega)) q (by simp) (by omega) (by first | (with_reducible exact (hbz).size) | (with_reducible exact (belowThen hbz (Go.Joins.below_alloc1 _ _)).size) | (with_reducible exact ((Go.Joins.below_alloc1 W0 _).drew).size) | (with_reducible exact ((belowThen (Go.Joins.below_alloc1 W0 _) (Go.Joins.below_alloc1 _ _)).drew).size) | (with_reducible exact (belowThen (Go.Joins.below_alloc1 W0 _).drew (Go.Joins.below_alloc1 _ _)).size) | (with_reducible exact (belowThen (belowThen hbz (Go.Joins.below_alloc1 _ _)) (Go.Joins.below_alloc1 _ _)).size)) ?_; intro g1 o1 c1 w3 ho1 hb1 hk1 hg1; have hbz := Below.trans (by first | (with_reducible exact hbz) | (with_reducible exact belowThen hbz (Go.Joins.below_alloc1 _ _)) | (with_reducible exact (Go.Joins.below_alloc1 W0 _).drew) | (with_reducible exact (belowThen (Go.Joins.below_alloc1 W0 _) (Go.Joins.below_alloc1 _ _)).drew) | (with_reducible exact belowThen (Go.Joins.below_alloc1 W0 _).drew (Go.Joins.below_alloc1 _ _)) | (with_reducible exact belowThen (belowThen hbz (Go.Joins.below_alloc1 _ _)) (Go.Joins.below_alloc1 _ _))) hb1; rw [List.nil_append] at ho1; (first | (with_reducible have hlit := RdS_stay (RdS_new _ x0 x1 _) hb1.size hk1 (by simp [Value.ownBlock])) | (with_reducible have hlit := RdS_stay (RdS_newR _ x0 x1 _) hb1.size hk1 (by simp [Value.ownBlock])); rw [heapAlloc] at hlit | (with_reducible have hlit := RdS_stay (RdS_newB W0 x0 x1 _ _) hb1.size hk1 (by simp [Value.ownBlock])) | skip); have t2 : True := trivial)
                | (clear t1; refine stepAppendSr (by rfl) _ _ (by rfl) W0.heap.size (.slice (some ⟨W0.heap.size + 1, 0, none⟩) 0 0) [] (by rfl) (ownsS_zero _ _ _) ⟨g, off, none⟩ q c (S.take q) (by rfl) HTL.out.1 (RdS_below htW.out (by first | (with_reducible exact hbz) | (with_reducible exact belowThen hbz (Go.Joins.below_alloc1 _ _)) | (with_reducible exact (Go.Joins.below_alloc1 W0 _).drew) | (with_reducible exact (belowThen (Go.Joins.below_alloc1 W0 _) (Go.Joins.below_alloc1 _ _)).drew) | (with_reducible exact belowThen (Go.Joins.below_alloc1 W0 _).drew (Go.Joins.below_alloc1 _ _)) | (with_reducible exact belowThen (belowThen hbz (Go.Joins.below_alloc1 _ _)) (Go.Joins.below_alloc1 _ _)))) (.inl ⟨_, _, _, _, rfl⟩) (by intro k hk; simp [Value.ownBlock] at hk; subst hk; first | (simp; done) | (simp; omega)) q (by simp) (by omega) (by first | (with_reducible exact (hbz).size) | (with_reducible exact (belowThen hbz (Go.Joins.below_alloc1 _ _)).size) | (with_reducible exact ((Go.Joins.below_alloc1 W0 _).drew).size) | (with_reducible exact ((belowThen (Go.Joins.below_alloc1 W0 _) (Go.Joins.below_alloc1 _ _)).drew).size) | (with_reducible exact (belowThen (Go.Joins.below_alloc1 W0 _).drew (Go.Joins.below_alloc1 _ _)).size) | (with_reducible exact (belowThen (belowThen hbz (Go.Joins.below_alloc1 _ _)) (Go.Joins.below_alloc1 _ _)).size)) ?_; intro g1 o1 c1 w3 ho1 hb1 hk1 hg1; have hbz := Below.trans (by first | (with_reducible exact hbz) | (with_reducible exact belowThen hbz (Go.Joins.below_alloc1 _ _)) | (with_reducible exact (Go.Joins.below_alloc1 W0 _).drew) | (with_reducible exact (belowThen (Go.Joins.below_alloc1 W0 _) (Go.Joins.below_alloc1 _ _)).drew) | (with_reducible exact belowThen (Go.Joins.below_alloc1 W0 _).drew (Go.Joins.below_alloc1 _ _)) | (with_reducible exact belowThen (belowThen hbz (Go.Joins.below_alloc1 _ _)) (Go.Joins.below_alloc1 _ _))) hb1; rw [List.nil_append] at ho1; (first | (with_reducible have hlit := RdS_stay (RdS_new _ x0 x1 _) hb1.size hk1 (by simp [Value.ownBlock])) | (with_reducible have hlit := RdS_stay (RdS_newR _ x0 x1 _) hb1.size hk1 (by simp [Value.ownBlock])); rw [heapAlloc] at hlit | (with_reducible have hlit := RdS_stay (RdS_newB W0 x0 x1 _ _) hb1.size hk1 (by simp [Value.ownBlock])) | skip); have t2 : True := trivial)
                | (clear t2; refine stepAppendSr (by rfl) _ _ (by rfl) W0.heap.size (.slice (some ⟨g1, o1, none⟩) q c1) (S.take q) (by rfl) (by first | (with_reducible exact ho1) | (with_reducible exact ownsS_below ho1 (Go.Joins.below_alloc1 _ _) (Nat.le_refl _))) _ 1 1 [(x0, x1)] (by rfl) rfl (by first | (with_reducible exact hlit) | (with_reducible exact RdS_new _ _ _ _)) (.inr (by omega)) (by intro k hk; simp [Value.ownBlock] at hk; subst hk; first | exact hg1 | (simp; omega)) (q + 1) (by rw [HTL.out.1]) (by omega) (by first | (with_reducible exact (hbz).size) | (with_reducible exact (belowThen hbz (Go.Joins.below_alloc1 _ _)).size) | (with_reducible exact ((Go.Joins.below_alloc1 W0 _).drew).size) | (with_reducible exact ((belowThen (Go.Joins.below_alloc1 W0 _) (Go.Joins.below_alloc1 _ _)).drew).size) | (with_reducible exact (belowThen (Go.Joins.below_alloc1 W0 _).drew (Go.Joins.below_alloc1 _ _)).size) | (with_reducible exact (belowThen (belowThen hbz (Go.Joins.below_alloc1 _ _)) (Go.Joins.below_alloc1 _ _)).size)) ?_; intro g2 o2 c2 w4 ho2 hb2 hk2 hg2; have hbz := Below.trans (by first | (with_reducible exact hbz) | (with_reducible exact belowThen hbz (Go.Joins.below_alloc1 _ _)) | (with_reducible exact (Go.Joins.below_alloc1 W0 _).drew) | (with_reducible exact (belowThen (Go.Joins.below_alloc1 W0 _) (Go.Joins.below_alloc1 _ _)).drew) | (with_reducible exact belowThen (Go.Joins.below_alloc1 W0 _).drew (Go.Joins.below_alloc1 _ _)) | (with_reducible exact belowThen (belowThen hbz (Go.Joins.below_alloc1 _ _)) (Go.Joins.below_alloc1 _ _))) hb2; have t3 : True := trivial)
                | (clear t3; refine stepAppendSr (by rfl) _ _ (by rfl) W0.heap.size (.slice (some ⟨g2, o2, none⟩) (q + 1) c2) (S.take q ++ [(x0, x1)]) (by rfl) ho2 A (j - q) _ (S.drop q) (by rfl) HTL.out.2 (RdS_below hsW.out (by first | (with_reducible exact hbz) | (with_reducible exact belowThen hbz (Go.Joins.below_alloc1 _ _)) | (with_reducible exact (Go.Joins.below_alloc1 W0 _).drew) | (with_reducible exact (belowThen (Go.Joins.below_alloc1 W0 _) (Go.Joins.below_alloc1 _ _)).drew) | (with_reducible exact belowThen (Go.Joins.below_alloc1 W0 _).drew (Go.Joins.below_alloc1 _ _)) | (with_reducible exact belowThen (belowThen hbz (Go.Joins.below_alloc1 _ _)) (Go.Joins.below_alloc1 _ _)))) (.inl ⟨_, _, _, _, rfl⟩) (by intro k hk; simp [Value.ownBlock] at hk; subst hk; exact hg2) (j + 1) (by rw [List.length_append, HTL.out.1]; simp; omega) (by omega) (by first | (with_reducible exact (hbz).size) | (with_reducible exact (belowThen hbz (Go.Joins.below_alloc1 _ _)).size) | (with_reducible exact ((Go.Joins.below_alloc1 W0 _).drew).size) | (with_reducible exact ((belowThen (Go.Joins.below_alloc1 W0 _) (Go.Joins.below_alloc1 _ _)).drew).size) | (with_reducible exact (belowThen (Go.Joins.below_alloc1 W0 _).drew (Go.Joins.below_alloc1 _ _)).size) | (with_reducible exact (belowThen (belowThen hbz (Go.Joins.below_alloc1 _ _)) (Go.Joins.below_alloc1 _ _)).size)) ?_; intro g3 o3 c3 w5 ho3 hb3 hk3 hg3; have hbz := Below.trans (by first | (with_reducible exact hbz) | (with_reducible exact belowThen hbz (Go.Joins.below_alloc1 _ _)) | (with_reducible exact (Go.Joins.below_alloc1 W0 _).drew) | (with_reducible exact (belowThen (Go.Joins.below_alloc1 W0 _) (Go.Joins.below_alloc1 _ _)).drew) | (with_reducible exact belowThen (Go.Joins.below_alloc1 W0 _).drew (Go.Joins.below_alloc1 _ _)) | (with_reducible exact belowThen (belowThen hbz (Go.Joins.below_alloc1 _ _)) (Go.Joins.below_alloc1 _ _))) hb3))
            all_goals
              have hbf := hbw.trans ((belowThen (belowThen hbq hbn) hbz).mono hbw.size)
              have hbs := hbf.size
              have hcap := ownsS_cap ho3 (by omega)
              have hown5 := ownsS_below ho3 (Below.refl _ _) (show w.heap.size ≤ W0.heap.size from (hbw.trans ((belowThen hbq hbn).mono hbw.size)).size)
              rw [List.append_assoc, List.singleton_append] at hown5
              have HSO := HSU.out
              rw [← HSO] at hown5
              clear HSO hbs
              go_wp2
              go_roundw
              case rel => exact ⟨j + 1, by omega, by go_num, hbf, g3, o3, c3, rfl, hown5, hg3, hcap.1, hcap.2⟩
              case measure => simp [intOf]; omega
    · have hjn : j = n := by omega
      subst hjn
      have hA := HA.out
      rw [HN.out] at hA
      rw [hA] at hown
      clear hA
      have hrs := RdS_owns hown
      have H0 : Hid ((R.take 1).foldl updS none = some (R.getD 0 [])) := Lib.hid (foldTake R 0 (by omega))
      have HM0 : Hid (R.getD 0 [] ∈ R) := Lib.hid (by rw [List.getD_eq_getElem?_getD, List.getElem?_eq_getElem (by omega)]; exact List.getElem_mem _)
      obtain ⟨s0, hs0⟩ : ∃ s, R.getD 0 [] = s := ⟨_, rfl⟩
      rw [hs0] at H0 HM0
      go_wp2_with (go_at_call 28; refine (HSQ.out _ c _ (fun _ => ⟨g, off, rfl, hjc, hcm⟩) hrs).mono ?_; rintro e w2 ⟨b2, o2, c2, rfl, hrd2, hb2g, hb2⟩; obtain ⟨A0, cp0, hcr0, hT0⟩ := hrd2.2 0 (by omega); rw [hs0] at hcr0 hT0; rw [Nat.add_zero] at hcr0)
      have hbw2 := hbw.trans (hb2.mono hbw.size)
      have HRD := Lib.hid hrd2
      obtain ⟨w9, hw9⟩ : ∃ w9 : World, w9 = wr := ⟨_, rfl⟩
      subst hw9
      have hb2l := hrd2.1
      have hR1 := hRl.1
      have hR2 := hRl.2
      clear hrd2 hown hrs hs0 hcr0
      go_loopw [11, 12] (fun v i wr => ∃ q : Nat, 1 ≤ q ∧ q ≤ R.length ∧ i = .int .i64 q ∧ Below w2.heap.size w2 wr ∧ ∃ Ab cb bst, v = .slice (some Ab) (List.length bst) cb ∧ RdT w2 (some Ab) bst ∧ Hid ((R.take q).foldl updS none = some bst) ∧ Hid (bst ∈ R)) (fun _ i _ => R.length - (intOf i).toNat)
      case atStart => exact ⟨1, Nat.le_refl _, hR1, rfl, Below.refl _ _, A0, cp0, s0, rfl, hT0, H0, HM0⟩
      case round =>
        obtain ⟨q, hq1, hqR, rfl, hbq, Ab, cb, bst, rfl, hTb, hfold, hmem⟩ := hrel
        by_cases hlq : q < R.length
        · have hdq : decide ((q : Int) < (R.length : Int)) = true := by simp; omega
          obtain ⟨As, cs, hcs, hTs⟩ := (RdSS_below HRD.out hbq).2 q hlq
          have hTbq := RdT_below hTb hbq
          have hft := foldTake R q hlq
          rw [hfold.out, updS_some] at hft
          have HM : Hid (R.getD q [] ∈ R) := Lib.hid (by rw [List.getD_eq_getElem?_getD, List.getElem?_eq_getElem hlq]; exact List.getElem_mem _)
          have hT2 : RdT w2 (some As) (R.getD q []) := by
            obtain ⟨A', c', h1, h2⟩ := HRD.out.2 q hlq
            have h3 := (hbq.cell (p := ⟨b2, o2 + q, none⟩) hb2l).trans h1
            rw [hcs] at h3
            simp only [Option.some.injEq, Value.slice.injEq] at h3
            rw [h3.1]
            exact h2
          obtain ⟨s, hs⟩ : ∃ s, R.getD q [] = s := ⟨_, rfl⟩
          rw [hs] at hcs hTs hft HM hT2
          have hss := HSS.out s HM.out
          have hsb := HSS.out bst hmem.out
          have H1 := Lib.hid (fun W h => l8Switches_any (some As) s.length cs s W h rfl (by have := hss.2; omega) hss.1)
          have H2 := Lib.hid (fun W h => l8Switches_any (some Ab) bst.length cb bst W h rfl (by have := hsb.2; omega) hsb.1)
          have hb2q : b2 < wr.heap.size := Nat.lt_of_lt_of_le hb2l hbq.size
          obtain ⟨na, hna⟩ : ∃ x, swF s = x := ⟨_, rfl⟩
          obtain ⟨nb, hnb⟩ : ∃ x, swF bst = x := ⟨_, rfl⟩
          rw [hna] at H1 hft
          rw [hnb] at H2 hft
          have HTs := Lib.hid (RdT_rd hTs)
          have HTb := Lib.hid (RdT_rd hTbq)
          have t1 : True := trivial
          clear hss hsb hna hnb hTs hTbq hs
          by_cases hab : na < nb
          · have hdab : decide ((na : Int) < (nb : Int)) = true := by simp; omega
            rw [if_pos hab] at hft
            have HFT := Lib.hid hft
            clear hft
            go_wp2_with (first
              | (go_at_call 29; clear t1; refine (H1.out _ HTs.out).mono ?_; rintro e w4 ⟨rfl, hb4⟩)
              | (go_at_call 29; refine (H2.out _ (RdS_below HTb.out hb4)).mono ?_; rintro e w5 ⟨rfl, hb5⟩; have hcs5 := ((belowThen hb4 hb5).cell (p := ⟨b2, o2 + q, none⟩) hb2q).trans hcs))
            go_roundw
            case rel => exact ⟨q + 1, by omega, by omega, by go_num, belowThen hbq (belowThen hb4 hb5), As, cs, s, rfl, hT2, HFT, HM⟩
            case measure => simp [intOf]; omega
          · have hdab : decide ((na : Int) < (nb : Int)) = false := by simp; omega
            rw [if_neg hab] at hft
            have HFT := Lib.hid hft
            clear hft
            go_wp2_with (first
              | (go_at_call 29; clear t1; refine (H1.out _ HTs.out).mono ?_; rintro e w4 ⟨rfl, hb4⟩)
              | (go_at_call 29; refine (H2.out _ (RdS_below HTb.out hb4)).mono ?_; rintro e w5 ⟨rfl, hb5⟩))
            go_roundw
            case rel => exact ⟨q + 1, by omega, by omega, by go_num, belowThen hbq (belowThen hb4 hb5), Ab, cb, bst, rfl, hTb, HFT, hmem⟩
            case measure => simp [intOf]; omega
        · have hqe : q = R.length := by omega
          subst hqe
          have hO := hfold.out
          rw [List.take_length, HFO.out] at hO
          have hsb := HSS.out bst hmem.out
          have H2 := Lib.hid (fun W h => l8Switches_any (some Ab) bst.length cb bst W h rfl (by have := hsb.2; omega) hsb.1)
          have HO := Lib.hid hO
          have hTbq := RdT_rd (RdT_below hTb hbq)
          clear hsb hO
          go_wp2_with (go_at_call 29; refine (H2.out _ hTbq).mono ?_; rintro e w4 ⟨rfl, hb4⟩)
          go_ret3
          rw [HO.out]
          exact ⟨some Ab, cb, rfl, RdS_below hTbq hb4, belowThen (hbw2.trans (hbq.mono hbw2.size)) hb4⟩
end Go.Proofs.Ytjcbffkdemadnaa
