/- Contracts of the functions that turn and mirror rows. -/
import Derived.Test.YtfdmcnnjifggnabGreatDoorMoved
import Derived.Test.YtfdmcnnjifggnabGreatDoorWLit
import Derived.Test.YtfdmcnnjifggnabGreatDoorMarks
import Derived.Lib.Hide
import Derived.OwnWalk
import Derived.BigRegion
namespace Go.Proofs.YtfdmcnnjifggnabGreatDoor
open Go.RowKit

/-- The row backwards, each cell changed. -/
def backL (f : Nat → Nat) (L : List Int) : List Int := (L.map fun x => ((f x.toNat : Nat) : Int)).reverse
theorem backL_length (f : Nat → Nat) (L : List Int) : (backL f L).length = L.length := by simp [backL]
theorem backL_mem (f : Nat → Nat) (hf : ∀ c, f c < 128) (L : List Int) : ∀ x ∈ backL f L, inB 0 127 x = true := by
  intro x hx
  unfold backL at hx
  rw [List.mem_reverse, List.mem_map] at hx
  obtain ⟨y, _, rfl⟩ := hx
  have := hf y.toNat
  rw [inB_iff]; omega
/-- The last k cells of the row, changed and backwards. -/
theorem backL_succ (f : Nat → Nat) (L : List Int) (k : Nat) (hk : k < L.length) : (backL f L).take (k + 1) = (backL f L).take k ++ [((f (L.getD (L.length - 1 - k) 0).toNat : Nat) : Int)] := by
  rw [List.take_succ_eq_append_getElem (by rw [backL_length]; exact hk)]
  congr 2
  unfold backL
  rw [List.getElem_reverse, List.getElem_map]
  simp only [List.length_map, List.getD_eq_getElem?_getD]
  rw [List.getElem?_eq_getElem (by omega)]
  rfl
set_option maxHeartbeats 800000 in
theorem l2MirrorRow_any (ao : Option Addr) (n ca : Nat) (L : List Int) (w : World) (hr : RdI w ao L) (hn : L.length = n) (hm : n ≤ 1000) (hL : ∀ x ∈ L, inB 0 127 x = true) :
    Calls Tryz.prog 60 #[.slice ao n ca] w (RetIntsL (backL mirC L) w) := by
  have HN := Lib.hid hn
  have HL := Lib.hid hL
  have hbl := backL_length mirC L
  rw [hn] at hbl
  have HS := Lib.hid (fun k h => backL_succ mirC L k h)
  generalize backL mirC L = M at hbl HS ⊢
  have HM := Lib.hid hbl
  clear hn hL hbl
  have hA1 := @cellAlloc; have hA2 := @frozenAlloc; have hA3 := @setCellAlloc; go_enter Tryz.func60, Tryz.ntmps60
  go_wp2
  go_loopw [3, 4] (fun v i wr => ∃ m : Nat, m ≤ n ∧ i = .int .i64 ((m : Int) - 1) ∧ ownsInts wr w.heap.size v (M.take (n - m)) ∧ Below w.heap.size w wr) (fun _ i _ => (intOf i + 1).toNat)
  case atStart => exact ⟨n, Nat.le_refl _, rfl, by rw [Nat.sub_self]; exact ownsInts_zero _ _ _, Go.Joins.below_alloc1 _ _⟩
  case round =>
    obtain ⟨m, hk, rfl, hown, hbw⟩ := hrel
    rcases m with _ | q
    · rw [Nat.sub_zero, List.take_of_length_le (by rw [HM.out]; omega)] at hown
      obtain ⟨co, cc, rfl, -⟩ := ownsInts_shape hown
      go_wp2
      go_ret
      exact ⟨co, cc, rfl, hown, hbw⟩
    · rw [show ((q + 1 : Nat) : Int) - 1 = (q : Int) by omega]
      rcases RdI_below hr hbw with h | ⟨b1, o1, rfl, hb1, hc1⟩
      · have := HN.out; rw [h] at this; simp at this; omega
      have hx := hc1 q (by rw [HN.out]; omega)
      obtain ⟨c, hc, hc2⟩ := cellNat (HL.out _ (memGetD (by rw [HN.out]; omega : q < L.length)))
      have hsucc := HS.out (n - (q + 1)) (by rw [HN.out]; omega)
      rw [HN.out, show n - 1 - (n - (q + 1)) = q by omega, hc, Int.toNat_natCast, show n - (q + 1) + 1 = n - q by omega] at hsucc
      rw [hc] at hx
      have HC := Lib.hid (fun W => l2Mirror_any c hc2 W)
      have hlen : (M.take (n - (q + 1))).length = n - (q + 1) := by rw [List.length_take, HM.out]; omega
      generalize mirC c = z at hsucc HC
      have HSu := Lib.hid hsucc
      clear hsucc hc1 hc
      generalize M.take (n - (q + 1)) = T at HSu hown hlen
      have hqlt : (q : Int) < (n : Int) := by omega
      go_wp2_with (first | (go_at_call 88; refine (HC.out _).mono ?_; rintro e w2 ⟨rfl, hb2⟩) | (at_builtin; go_must (refine wpAppendInt w2 (by rfl) _ _ (by rfl) w.heap.size _ _ (by rfl) (ownsInts_below hown hb2 (Nat.le_refl _)) (z : Int) (by rfl) (by omega) (Nat.le_trans hbw.size hb2.size) ?_; intro co cc w4 hv4 hb4)))
      go_roundw
      case rel => exact ⟨q, by omega, by first | rfl | go_num, by rw [HSu.out]; rw [hlen] at hv4; exact hv4, (belowThen hbw hb2).trans hb4⟩
      case measure => first | (simp [intOf]; done) | (simp [intOf]; omega)
set_option maxHeartbeats 800000 in
theorem l2TurnRow_any (ao : Option Addr) (n ca : Nat) (L : List Int) (w : World) (hr : RdI w ao L) (hn : L.length = n) (hm : n ≤ 1000) (hL : ∀ x ∈ L, inB 0 127 x = true) :
    Calls Tryz.prog 52 #[.slice ao n ca] w (RetIntsL (backL turC L) w) := by
  have HN := Lib.hid hn
  have HL := Lib.hid hL
  have hbl := backL_length turC L
  rw [hn] at hbl
  have HS := Lib.hid (fun k h => backL_succ turC L k h)
  generalize backL turC L = M at hbl HS ⊢
  have HM := Lib.hid hbl
  clear hn hL hbl
  have hA1 := @cellAlloc; have hA2 := @frozenAlloc; have hA3 := @setCellAlloc; go_enter Tryz.func52, Tryz.ntmps52
  go_wp2
  go_loopw [3, 4] (fun v i wr => ∃ m : Nat, m ≤ n ∧ i = .int .i64 ((m : Int) - 1) ∧ ownsInts wr w.heap.size v (M.take (n - m)) ∧ Below w.heap.size w wr) (fun _ i _ => (intOf i + 1).toNat)
  case atStart => exact ⟨n, Nat.le_refl _, rfl, by rw [Nat.sub_self]; exact ownsInts_zero _ _ _, Go.Joins.below_alloc1 _ _⟩
  case round =>
    obtain ⟨m, hk, rfl, hown, hbw⟩ := hrel
    rcases m with _ | q
    · rw [Nat.sub_zero, List.take_of_length_le (by rw [HM.out]; omega)] at hown
      obtain ⟨co, cc, rfl, -⟩ := ownsInts_shape hown
      go_wp2
      go_ret
      exact ⟨co, cc, rfl, hown, hbw⟩
    · rw [show ((q + 1 : Nat) : Int) - 1 = (q : Int) by omega]
      rcases RdI_below hr hbw with h | ⟨b1, o1, rfl, hb1, hc1⟩
      · have := HN.out; rw [h] at this; simp at this; omega
      have hx := hc1 q (by rw [HN.out]; omega)
      obtain ⟨c, hc, hc2⟩ := cellNat (HL.out _ (memGetD (by rw [HN.out]; omega : q < L.length)))
      have hsucc := HS.out (n - (q + 1)) (by rw [HN.out]; omega)
      rw [HN.out, show n - 1 - (n - (q + 1)) = q by omega, hc, Int.toNat_natCast, show n - (q + 1) + 1 = n - q by omega] at hsucc
      rw [hc] at hx
      have HC := Lib.hid (fun W => l2Turn_any c hc2 W)
      have hlen : (M.take (n - (q + 1))).length = n - (q + 1) := by rw [List.length_take, HM.out]; omega
      generalize turC c = z at hsucc HC
      have HSu := Lib.hid hsucc
      clear hsucc hc1 hc
      generalize M.take (n - (q + 1)) = T at HSu hown hlen
      have hqlt : (q : Int) < (n : Int) := by omega
      go_wp2_with (first | (go_at_call 84; refine (HC.out _).mono ?_; rintro e w2 ⟨rfl, hb2⟩) | (at_builtin; go_must (refine wpAppendInt w2 (by rfl) _ _ (by rfl) w.heap.size _ _ (by rfl) (ownsInts_below hown hb2 (Nat.le_refl _)) (z : Int) (by rfl) (by omega) (Nat.le_trans hbw.size hb2.size) ?_; intro co cc w4 hv4 hb4)))
      go_roundw
      case rel => exact ⟨q, by omega, by first | rfl | go_num, by rw [HSu.out]; rw [hlen] at hv4; exact hv4, (belowThen hbw hb2).trans hb4⟩
      case measure => first | (simp [intOf]; done) | (simp [intOf]; omega)
/-- The list with the first i and the last i numbers exchanged. -/
def revL (L : List Int) (i : Nat) : List Int := (List.range L.length).map fun j => if j < i ∨ L.length ≤ j + i then L.getD (L.length - 1 - j) 0 else L.getD j 0
theorem revL_length (L : List Int) (i : Nat) : (revL L i).length = L.length := by simp [revL]
theorem revL_getD (L : List Int) (i j : Nat) (hj : j < L.length) : (revL L i).getD j 0 = if j < i ∨ L.length ≤ j + i then L.getD (L.length - 1 - j) 0 else L.getD j 0 := by
  unfold revL
  rw [List.getD_eq_getElem?_getD, List.getElem?_map, List.getElem?_range hj]
  rfl
theorem list_ext_getD {A B : List Int} (h : A.length = B.length) (hg : ∀ j, j < A.length → A.getD j 0 = B.getD j 0) : A = B := by
  apply List.ext_getElem h
  intro j h1 h2
  have := hg j h1
  rw [List.getD_eq_getElem?_getD, List.getD_eq_getElem?_getD, List.getElem?_eq_getElem h1, List.getElem?_eq_getElem h2] at this
  exact this
theorem revL_zero (L : List Int) : revL L 0 = L := by
  apply list_ext_getD (revL_length L 0)
  intro j hj
  rw [revL_length] at hj
  rw [revL_getD L 0 j hj, if_neg (by omega)]
theorem getD_set (L : List Int) (i j : Nat) (x : Int) (hi : i < L.length) : (L.set i x).getD j 0 = if i = j then x else L.getD j 0 := by
  simp only [List.getD_eq_getElem?_getD, List.getElem?_set]
  by_cases h : i = j
  · subst h; simp [hi]
  · simp [h]
theorem revL_step (L : List Int) (i : Nat) (hi : i < L.length - 1 - i) : ((revL L i).set i (L.getD (L.length - 1 - i) 0)).set (L.length - 1 - i) (L.getD i 0) = revL L (i + 1) := by
  apply list_ext_getD (by simp [revL_length])
  intro j hj
  simp only [List.length_set, revL_length] at hj
  rw [getD_set _ _ _ _ (by simp [revL_length]; omega), getD_set _ _ _ _ (by simp [revL_length]; omega), revL_getD L i j hj, revL_getD L (i + 1) j hj]
  by_cases h1 : L.length - 1 - i = j
  · rw [if_pos h1, if_pos (by omega)]
    congr 1; omega
  · rw [if_neg h1]
    by_cases h2 : i = j
    · rw [if_pos h2, if_pos (by omega), h2]
    · rw [if_neg h2]
      by_cases h3 : j < i ∨ L.length ≤ j + i
      · rw [if_pos h3, if_pos (by omega)]
      · rw [if_neg h3, if_neg (by omega)]
theorem revL_end (L : List Int) (i : Nat) (hi : L.length - 1 - i ≤ i) : revL L i = L.reverse := by
  apply list_ext_getD (by simp [revL_length])
  intro j hj
  rw [revL_length] at hj
  rw [revL_getD L i j hj]
  have e : L.reverse.getD j 0 = L.getD (L.length - 1 - j) 0 := by
    rw [List.getD_eq_getElem?_getD, List.getElem?_reverse hj, ← List.getD_eq_getElem?_getD]
  rw [e]
  by_cases h3 : j < i ∨ L.length ≤ j + i
  · rw [if_pos h3]
  · rw [if_neg h3]
    congr 1; omega
set_option maxHeartbeats 1600000 in
theorem Reverse_any (B : Nat) (ao : Option Addr) (n ca : Nat) (L : List Int) (w : World) (ho : ownsInts w B (.slice ao n ca) L) (hn : L.length = n) (hm : n ≤ 1000) :
    Calls Tryz.prog 80 #[.slice ao n ca] w fun e w' => e = .returned (.tuple #[]) ∧ ownsInts w' B (.slice ao n ca) L.reverse ∧ Below B w w' := by
  have HN := Lib.hid hn
  have HZ := Lib.hid (revL_zero L)
  have HL := Lib.hid (revL_length L)
  have HS := Lib.hid (fun i h => revL_step L i h)
  have HG := Lib.hid (fun i j h => revL_getD L i j h)
  have HE := Lib.hid (fun i h => revL_end L i h)
  clear hn
  go_enter Tryz.func80, Tryz.ntmps80
  go_wp2
  go_loopw [2, 3] (fun a b wr => ∃ i : Nat, (2 * i ≤ n ∨ i = 0) ∧ a = .int .i64 i ∧ b = .int .i64 ((n : Int) - 1 - i) ∧ ownsInts wr B (.slice ao n ca) (revL L i) ∧ Below B w wr) (fun a _ _ => n - (intOf a).toNat)
  case atStart => exact ⟨0, .inr rfl, rfl, by simp, by rw [HZ.out]; exact ho, Below.refl _ _⟩
  case round =>
    obtain ⟨i, hi, rfl, rfl, hown, hbw⟩ := hrel
    clear ho
    by_cases hlt : i < n - 1 - i
    · have hl : (revL L i).length = n := by rw [HL.out i, HN.out]
      obtain ⟨ao', cap', he, h0 | ⟨g, rfl, hBg, hg, _, hc⟩⟩ := ownsInts_shape hown
      · rw [h0] at hl; simp at hl; omega
      simp only [Value.slice.injEq] at he
      obtain ⟨rfl, -, -⟩ := he
      have hx := hc i (by omega)
      have hy := hc (n - 1 - i) (by omega)
      have hf1 := ownsInts_frozen hown (by omega) i
      have hf2 := ownsInts_frozen hown (by omega) (n - 1 - i)
      rw [HG.out i i (by rw [HN.out]; omega), if_neg (by rw [HN.out]; omega)] at hx
      rw [HG.out i (n - 1 - i) (by rw [HN.out]; omega), if_neg (by rw [HN.out]; omega)] at hy
      have hst := HS.out i (by rw [HN.out]; exact hlt)
      rw [HN.out] at hst
      have hown1 := ownsInts_set (ownsInts_set hown hl i (L.getD (n - 1 - i) 0)) (by rw [List.length_set, hl]) (n - 1 - i) (L.getD i 0)
      rw [hst] at hown1
      have hbs : Below B w ((wr.setCell ⟨g, i, none⟩ (.int .i64 (L.getD (n - 1 - i) 0))).setCell ⟨g, n - 1 - i, none⟩ (.int .i64 (L.getD i 0))) := (hbw.setCell (by exact hBg) _).setCell (by exact hBg) _
      generalize L.getD (n - 1 - i) 0 = y at *
      generalize L.getD i 0 = x at *
      have hne : ¬ i = n - 1 - i := by omega
      have hne2 : ¬ n - 1 - i = i := by omega
      have h1 : (i : Int) < (n : Int) - 1 - (i : Int) := by omega
      have h2 : (i : Int) < (n : Int) := by omega
      have h3 : (n : Int) - 1 - (i : Int) < (n : Int) := by omega
      have h4 : (0 : Int) ≤ (n : Int) - 1 - (i : Int) := by omega
      have h5 : ((n : Int) - 1 - (i : Int)).toNat = n - 1 - i := by omega
      clear hc hst hl hown
      go_wp2_with fail
      go_region
      have hown2 := ownsInts_below (C := B) hown1 ((Below.refl _ _).drew) (Nat.le_refl _)
      have hbs2 := Below.drew hbs
      go_wp2
      go_roundw
      case rel => exact ⟨i + 1, by omega, by go_num, by first | (go_num; done) | (show Value.int _ _ = Value.int _ _; congr 1; omega), hown2, hbs2⟩
      case measure => first | (simp [intOf]; done) | (simp [intOf]; omega)
    · have hr := HE.out i (by rw [HN.out]; omega)
      rw [hr] at hown
      have h1 : ¬ (i : Int) < (n : Int) - 1 - (i : Int) := by omega
      go_wp2
      first | (refine bodyPost_ret (results_none rfl _ _ _) rfl ?_) | ((try simp only [Exit.inBlock, Exit.then]); refine bodyPost_end (results_none rfl _ _ _) rfl ?_)
      exact ⟨rfl, hown, hbw⟩
set_option maxHeartbeats 1600000 in
theorem backwards_any (K : Nat) (f : Nat → Nat) (hf : ∀ c, f c < 128) (ao : Option Addr) (n ca : Nat) (L : List Int) (w : World) (hr : RdI w ao L) (hn : L.length = n) (hm : n ≤ 1000) (hL : ∀ x ∈ L, inB 0 127 x = true)
    (hK : ∀ (args : Array Value) (W : World), (callFunc K args).run Tryz.prog W = .ok (.enter K args) W)
    (hC : ∀ (c : Nat) (W : World), c < 128 → Calls Tryz.prog K #[.int .i64 c] W fun e w' => e = .returned (.int .i64 (f c)) ∧ Below W.heap.size W w') :
    Calls Tryz.prog 48 #[.slice ao n ca, .func (.func K) #[] #[]] w (RetIntsL (backL f L) w) := by
  have HN := Lib.hid hn
  have HL := Lib.hid hL
  have HC := Lib.hid hC
  have hmap : ∀ k, k < L.length → (L.map fun x => ((f x.toNat : Nat) : Int)).take (k + 1) = (L.map fun x => ((f x.toNat : Nat) : Int)).take k ++ [((f (L.getD k 0).toNat : Nat) : Int)] := by
    intro k hk
    rw [List.take_succ_eq_append_getElem (by simpa using hk), List.getElem_map, List.getD_eq_getElem?_getD, List.getElem?_eq_getElem hk]
    rfl
  have HMap := Lib.hid hmap
  have hbk : backL f L = (L.map fun x => ((f x.toNat : Nat) : Int)).reverse := rfl
  have hml : (L.map fun x => ((f x.toNat : Nat) : Int)).length = n := by rw [List.length_map, hn]
  rw [hbk]
  generalize (L.map fun x => ((f x.toNat : Nat) : Int)) = M at HMap hml ⊢
  have HM := Lib.hid hml
  clear hn hL hC hmap hml hbk
  go_enter Tryz.func48, Tryz.ntmps48
  go_wp2
  go_loopw [5, 10] (fun v i wr => ∃ k : Nat, k ≤ n ∧ i = .int .i64 k ∧ ownsInts wr w.heap.size v (M.take k) ∧ Below w.heap.size w wr) (fun _ i _ => n - (intOf i).toNat)
  case atStart => exact ⟨0, by omega, rfl, ownsInts_nil _ _, Below.refl _ _⟩
  case round =>
    obtain ⟨k, hk, rfl, hown, hbw⟩ := hrel
    by_cases hlt : k < n
    · rcases RdI_below hr hbw with h | ⟨b1, o1, rfl, hb1, hc1⟩
      · have := HN.out; rw [h] at this; simp at this; omega
      have hx := hc1 k (by rw [HN.out]; omega)
      obtain ⟨c, hc, hc2⟩ := cellNat (HL.out _ (memGetD (by rw [HN.out]; omega : k < L.length)))
      have hsucc := HMap.out k (by rw [HN.out]; exact hlt)
      rw [hc, Int.toNat_natCast] at hsucc
      rw [hc] at hx
      have HCc := Lib.hid (fun W => HC.out c W hc2)
      have hlen : (M.take k).length = k := by rw [List.length_take, HM.out]; omega
      generalize f c = z at hsucc HCc
      have HSu := Lib.hid hsucc
      clear hsucc hc1 hc
      generalize M.take k = T at HSu hown hlen
      go_wp2_with fail
      refine (HCc.out _).mono ?_
      rintro e w2 ⟨rfl, hb2⟩
      go_wp2_with (first | (at_builtin; go_must (refine wpAppendInt w2 (by rfl) _ _ (by rfl) w.heap.size _ _ (by rfl) (ownsInts_below hown hb2 (Nat.le_refl _)) (z : Int) (by rfl) (by omega) (Nat.le_trans hbw.size hb2.size) ?_; intro co cc w4 hv4 hb4)))
      go_roundw
      case rel => exact ⟨k + 1, by omega, by go_num, by rw [HSu.out]; rw [hlen] at hv4; exact hv4, (belowThen hbw hb2).trans hb4⟩
      case measure => simp [intOf]; omega
    · have hkn : k = n := by omega
      subst hkn
      rw [List.take_of_length_le (by rw [HM.out]; omega)] at hown
      obtain ⟨co, cc, hv, -⟩ := ownsInts_shape hown
      subst hv
      have HR := Lib.hid (Reverse_any w.heap.size co M.length cc M wr hown rfl (by rw [HM.out]; exact hm))
      go_wp2_with (first | (go_at_call 80; refine HR.out.mono ?_; rintro e w2 ⟨rfl, hown2, hb2⟩))
      go_ret
      exact ⟨co, cc, by rw [List.length_reverse]; rfl, by rw [List.length_reverse]; exact hown2, hbw.trans hb2⟩
end Go.Proofs.YtfdmcnnjifggnabGreatDoor
