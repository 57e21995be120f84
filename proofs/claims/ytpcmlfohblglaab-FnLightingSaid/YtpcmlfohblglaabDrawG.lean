/- The draws of goals and of cells on the way to them: what they draw are lists of numbers of the call's own, whatever the code. -/
import Derived.Test.YtpcmlfohblglaabCur
import Derived.Test.YtpcmlfohblglaabFind
import Derived.Test.YtpcmlfohblglaabOrder
import Derived.Test.YtpcmlfohblglaabWay
import Derived.Lib.Hide
namespace Go.Proofs.Ytpcmlfohblglaab
open Go.RowKit

/-- A short list of the call's own is returned. -/
def RetOwn (k : Nat) (W : World) (e : Ending) (w' : World) : Prop := ∃ (ao : Option Addr) (cap : Nat) (L : List Int), e = .returned (.slice ao L.length cap) ∧ L.length ≤ k ∧ ownsInts w' W.heap.size (.slice ao L.length cap) L
theorem own_first {w : World} {B n cap : Nat} {ao : Option Addr} {L : List Int} (h : ownsInts w B (.slice ao n cap) L) (hn : 0 < L.length) : ∃ g, ao = some ⟨g, 0, none⟩ ∧ B ≤ g ∧ g < w.heap.size ∧ ∀ j, j < L.length → w.cell? ⟨g, j, none⟩ = some (.int .i64 (L.getD j 0)) := by
  obtain ⟨ao', cap', he, h0 | ⟨g, rfl, h1, h2, h3, h4⟩⟩ := ownsInts_shape h
  · rw [h0] at hn; simp at hn
  · simp only [Value.slice.injEq] at he
    obtain ⟨rfl, -, -⟩ := he
    exact ⟨g, rfl, h1, h2, h4⟩
set_option maxHeartbeats 3200000 in
theorem orderO {w0 W : World} {b m : Nat} (h : CurO w0 W b m) (hm : m ≤ 999000) : Calls Try.prog 50 #[.pointer (some ⟨b, 0, none⟩)] W fun e w' => RetOwn 11 W e w' ∧ CurO w0 w' b (m + 100) := by
  have hbB : b < W.heap.size := h.1.lt
  have hs := CurO.start h.1
  have hA1 := @cellAlloc; have hA2 := @frozenAlloc; have hA3 := @setCellAlloc; go_enter Try.func50, Try.ntmps50
  go_wp2_with (first
    | (go_at_call 23; refine (amongB _ _ _ _ (CurO.alloc hs _) (by simp) (by omega) (by rfl) (by decide) (by decide) (by rfl)).mono ?_; rintro e w1 ⟨⟨z, hz, rfl⟩, hc1⟩; have hz2 : 0 ≤ z ∧ z ≤ 10 := (by simp [intOf] at hz; omega); clear hz))
  obtain ⟨k0, rfl⟩ := Int.eq_ofNat_of_zero_le hz2.1
  go_loopw [3, 4] (fun v i wr => ∃ (k : Nat) (L : List Int), k ≤ 10 ∧ L.length + k ≤ 10 ∧ i = .int .i64 k ∧ ownsInts wr W.heap.size v L ∧ CurO W wr b (m + 30 - 2 * k)) (fun _ i _ => (intOf i).toNat)
  case atStart => exact ⟨k0, [], by omega, by show 0 + k0 ≤ 10; omega, rfl, ownsInts_zero _ _ _, hc1.mono (by omega)⟩
  case round =>
    obtain ⟨k, L, hk, hLk, rfl, hown, hcu⟩ := hrel
    have hwr := hcu.2.size
    clear hc1
    by_cases h0 : k = 0
    · subst h0
      obtain ⟨ao, cap, rfl, hsh⟩ := ownsInts_shape hown
      by_cases hLne : L = []
      · have hL0 := hLne
        subst hL0
        clear hsh
        go_wp2_with (first
          | (go_at_call 25; first
            | (refine (oneO _ (CurO.self (CurO.alloc hcu5 _)) (by omega)).mono ?_; rintro e w6 ⟨⟨q6, rfl⟩, hc6⟩; have hown6 := ownsG_onlyC (ownsInts_new w5 [3, 1, 4, 5, 9, 2, 6, 8, 7, 0] W.heap.size (by omega) (by decide)) hbB hc6.2; have hcu6 := (CurO.alloc hcu5 _).trans hc6; have hs6 := hc6.2.size; obtain ⟨g6, hg6e, hg6b, hg6, hx6⟩ := own_first hown6 (by decide); have hx60 := hx6 0 (by decide); replace hg6e : w5.heap.size = g6 := (by simpa using hg6e); subst hg6e)
            | (refine (oneO _ (CurO.self hcu) (by omega)).mono ?_; rintro e w5 ⟨⟨q5, rfl⟩, hc5⟩; have hcu5 := hcu.trans hc5; have hs5 := hc5.2.size; have hown5 := ownsG_onlyC hown hbB hc5.2))
          | (go_at_call 23; refine (amongA _ _ _ (CurO.self hcu6) (by omega) (by rfl) (by decide) (by decide) (by rfl)).mono ?_; rintro e w7 ⟨⟨y, hy, rfl⟩, hc7⟩; have hown7 := ownsG_onlyC hown6 hbB hc7.2; have hcu7 := hcu6.trans hc7; have hs7 := hc7.2.size)
          | (at_builtin; refine wpAppendInt w7 (by rfl) _ _ (by rfl) W.heap.size _ _ (by rfl) hown7 y (by rfl) (by first | decide | omega) (by have := hcu7.2.size; omega) ?_; intro co cc w8 hv8 hb8; have hcu8 := hcu7.appended hb8 (Nat.le_refl _) hbB (by have := hcu7.2.size; omega)))
        all_goals go_ret
        all_goals first
          | exact ⟨⟨co, cc, [3, 1, 4, 5, 9, 2, 6, 8, 7, 0] ++ [y], rfl, by simp, hv8⟩, (h.trans hcu8).mono (by omega)⟩
          | exact ⟨⟨co, cc, L ++ [y], by rw [List.length_append]; rfl, (by have h9 : (L ++ [y]).length = L.length + 1 := List.length_append; omega), by rw [List.length_append]; exact hv8⟩, (h.trans hcu8).mono (by omega)⟩
          | exact ⟨⟨_, _, [3, 1, 4, 5, 9, 2, 6, 8, 7, 0], rfl, by decide, hown6⟩, (h.trans hcu6).mono (by omega)⟩
          | exact ⟨⟨_, _, L, rfl, by omega, hown6⟩, (h.trans hcu6).mono (by omega)⟩
          | exact ⟨⟨_, _, L, rfl, by omega, hown5⟩, (h.trans hcu5).mono (by omega)⟩
          | exact ⟨⟨_, _, [], rfl, by decide, hown5⟩, (h.trans hcu5).mono (by omega)⟩
      · obtain hL0 | ⟨g, rfl, hBg, hg, hlc, hcell⟩ := hsh
        · exact absurd hL0 hLne
        have hLp : 0 < L.length := by
          rcases Nat.eq_zero_or_pos L.length with h9 | h9
          · exact absurd (List.eq_nil_of_length_eq_zero h9) hLne
          · exact h9
        clear hcell
        go_wp2_with (first
          | (go_at_call 25; first
            | (refine (oneO _ (CurO.self hcu5) (by omega)).mono ?_; rintro e w6 ⟨⟨q6, rfl⟩, hc6⟩; have hown6 := ownsG_onlyC hown5 hbB hc6.2; have hcu6 := hcu5.trans hc6; have hs6 := hc6.2.size; obtain ⟨g6, hg6e, hg6b, hg6, hx6⟩ := own_first hown6 hLp; have hx60 := hx6 0 hLp; replace hg6e : g = g6 := (by simpa using hg6e); subst hg6e)
            | (refine (oneO _ (CurO.self (CurO.alloc hcu5 _)) (by omega)).mono ?_; rintro e w6 ⟨⟨q6, rfl⟩, hc6⟩; have hown6 := ownsG_onlyC (ownsInts_new w5 [3, 1, 4, 5, 9, 2, 6, 8, 7, 0] W.heap.size (by omega) (by decide)) hbB hc6.2; have hcu6 := (CurO.alloc hcu5 _).trans hc6; have hs6 := hc6.2.size; obtain ⟨g6, hg6e, hg6b, hg6, hx6⟩ := own_first hown6 (by decide); have hx60 := hx6 0 (by decide); replace hg6e : w5.heap.size = g6 := (by simpa using hg6e); subst hg6e)
            | (refine (oneO _ (CurO.self hcu) (by omega)).mono ?_; rintro e w5 ⟨⟨q5, rfl⟩, hc5⟩; have hcu5 := hcu.trans hc5; have hs5 := hc5.2.size; have hown5 := ownsG_onlyC hown hbB hc5.2))
          | (go_at_call 23; refine (amongA _ _ _ (CurO.self hcu6) (by omega) (by rfl) (by decide) (by decide) (by rfl)).mono ?_; rintro e w7 ⟨⟨y, hy, rfl⟩, hc7⟩; have hown7 := ownsG_onlyC hown6 hbB hc7.2; have hcu7 := hcu6.trans hc7; have hs7 := hc7.2.size)
          | (at_builtin; refine wpAppendInt w7 (by rfl) _ _ (by rfl) W.heap.size _ _ (by rfl) hown7 y (by rfl) (by first | decide | omega) (by have := hcu7.2.size; omega) ?_; intro co cc w8 hv8 hb8; have hcu8 := hcu7.appended hb8 (Nat.le_refl _) hbB (by have := hcu7.2.size; omega)))
        all_goals go_ret
        all_goals first
          | exact ⟨⟨co, cc, [3, 1, 4, 5, 9, 2, 6, 8, 7, 0] ++ [y], rfl, by simp, hv8⟩, (h.trans hcu8).mono (by omega)⟩
          | exact ⟨⟨co, cc, L ++ [y], by rw [List.length_append]; rfl, (by have h9 : (L ++ [y]).length = L.length + 1 := List.length_append; omega), by rw [List.length_append]; exact hv8⟩, (h.trans hcu8).mono (by omega)⟩
          | exact ⟨⟨_, _, [3, 1, 4, 5, 9, 2, 6, 8, 7, 0], rfl, by decide, hown6⟩, (h.trans hcu6).mono (by omega)⟩
          | exact ⟨⟨_, _, L, rfl, by omega, hown6⟩, (h.trans hcu6).mono (by omega)⟩
          | exact ⟨⟨_, _, L, rfl, by omega, hown5⟩, (h.trans hcu5).mono (by omega)⟩
          | exact ⟨⟨_, _, [], rfl, by decide, hown5⟩, (h.trans hcu5).mono (by omega)⟩
    · have hpos : (0 : Int) < (k : Int) := by omega
      obtain ⟨ao, cap, rfl, -⟩ := ownsInts_shape hown
      go_wp2_with (first
        | (go_at_call 49; refine (pickO _ (CurO.self hcu) (by omega)).mono ?_; rintro e w2 ⟨⟨x, hx, hxn, rfl⟩, hc2⟩; have hown2 := ownsG_onlyC hown hbB hc2.2; have hcu2 := hcu.trans hc2; have hs2 := hc2.2.size)
        | (go_at_call 51; refine (l1Has_any _ _ _ L x _ (RdI_owns hown2) rfl (by unfold maxLen; omega)).mono ?_; rintro e w' ⟨rfl, rfl⟩)
        | (at_builtin; refine wpAppendInt w2 (by rfl) _ _ (by rfl) W.heap.size _ _ (by rfl) hown2 (x : Int) (by rfl) (by omega) (by omega) ?_; intro co cc w4 hv4 hb4; have hcu4 := hcu2.appended hb4 (Nat.le_refl _) hbB (by omega)))
      · go_roundw
        case rel => exact ⟨k - 1, L ++ [(x : Int)], by omega, by simp; omega, by go_num, hv4, hcu4.mono (by omega)⟩
        case measure => simp [intOf]; omega
      · go_roundw
        case rel => exact ⟨k - 1, L, by omega, by omega, by go_num, hown2, hcu2.mono (by omega)⟩
        case measure => simp [intOf]; omega
set_option maxHeartbeats 3200000 in
theorem goalO {w0 W : World} {b m : Nat} (h : CurO w0 W b m) (hm : m ≤ 998000) : Calls Try.prog 22 #[.pointer (some ⟨b, 0, none⟩)] W fun e w' => RetOwn 11 W e w' ∧ CurO w0 w' b (m + 200) := by
  have hbB : b < W.heap.size := h.1.lt
  have hs := CurO.start h.1
  have hA1 := @cellAlloc; have hA2 := @frozenAlloc; have hA3 := @setCellAlloc; go_enter Try.func22, Try.ntmps22
  go_wp2_with (first
    | (go_at_call 49; first
      | (refine (pickO 4 (CurO.self hc1) (by omega)).mono ?_; rintro e w2 ⟨⟨y, hy, hyn, rfl⟩, hc2⟩; have hy4 := hyn (by decide); have hcu2 := hc1.trans hc2; have hs2 := hc2.2.size)
      | (refine (pickO 6 (CurO.alloc hs _) (by omega)).mono ?_; rintro e w1 ⟨⟨x, hx, hxn, rfl⟩, hc1⟩; have hs1 := hc1.2.size))
    | (go_at_call 50; refine (orderO hc1.self (by omega)).mono ?_; rintro e w3 ⟨⟨ao3, cap3, L3, rfl, hL3, hown3⟩, hc3⟩; have hcu3 := hc1.trans hc3))
  · go_ret
    exact ⟨⟨_, _, [0, 1, 2, 3, 4, 5, 6, 7, 8, 9], rfl, by decide, ownsInts_new w1 [0, 1, 2, 3, 4, 5, 6, 7, 8, 9] W.heap.size hs1 (by decide)⟩, ((h.trans hc1).alloc _).mono (by omega)⟩
  · go_ret
    exact ⟨⟨_, _, L3, rfl, hL3, ownsInts_le hown3 hs1⟩, (h.trans hcu3).mono (by omega)⟩
  · clear hc1 hc2
    go_loopw [3, 4] (fun v i wr => ∃ (k : Nat) (L : List Int), k ≤ 4 ∧ L.length + k ≤ 4 ∧ i = .int .i64 k ∧ ownsInts wr W.heap.size v L ∧ CurO W wr b (m + 30 - 2 * k)) (fun _ i _ => (intOf i).toNat)
    case atStart => exact ⟨y + 1, [], by omega, by show 0 + (y + 1) ≤ 4; omega, by go_num, ownsInts_zero _ _ _, hcu2.mono (by omega)⟩
    case round =>
      obtain ⟨k, L, hk, hLk, rfl, hown, hcu⟩ := hrel
      have hwr := hcu.2.size
      clear hcu2 hs2 hs1
      obtain ⟨ao, cap, rfl, -⟩ := ownsInts_shape hown
      by_cases h0 : k = 0
      · subst h0
        go_wp2
        go_ret
        exact ⟨⟨_, _, L, rfl, by omega, hown⟩, (h.trans hcu).mono (by omega)⟩
      · have hpos : (0 : Int) < (k : Int) := by omega
        go_wp2_with (first
          | (go_at_call 23; refine (amongA _ _ _ (CurO.self hcu) (by omega) (by rfl) (by decide) (by decide) (by rfl)).mono ?_; rintro e w5 ⟨⟨z, hz, rfl⟩, hc5⟩; have hown5 := ownsG_onlyC hown hbB hc5.2; have hcu5 := hcu.trans hc5; have hs5 := hc5.2.size)
          | (go_at_call 51; refine (l1Has_any _ _ _ L z _ (RdI_owns hown5) rfl (by unfold maxLen; omega)).mono ?_; rintro e w' ⟨rfl, rfl⟩)
          | (at_builtin; refine wpAppendInt w5 (by rfl) _ _ (by rfl) W.heap.size _ _ (by rfl) hown5 z (by rfl) (by omega) (by omega) ?_; intro co cc w4 hv4 hb4; have hcu4 := hcu5.appended hb4 (Nat.le_refl _) hbB (by omega)))
        · go_roundw
          case rel => exact ⟨k - 1, L ++ [z], by omega, by simp; omega, by go_num, hv4, hcu4.mono (by omega)⟩
          case measure => simp [intOf]; omega
        · go_roundw
          case rel => exact ⟨k - 1, L, by omega, by omega, by go_num, hown5, hcu5.mono (by omega)⟩
          case measure => simp [intOf]; omega
theorem RdI_onlyC {b : Nat} {w w' : World} {ao : Option Addr} {L : List Int} (h : RdI w ao L) (hc : ∀ c o, ao = some ⟨c, o, none⟩ → c ≠ b) (ho : OnlyC b w w') : RdI w' ao L := by
  rcases h with h | ⟨k, o, rfl, hlt, hcell⟩
  · exact .inl h
  · exact .inr ⟨k, o, rfl, Nat.lt_of_lt_of_le hlt ho.size, fun j hj => (ho.cell hlt (hc k o rfl)).trans (hcell j hj)⟩
set_option maxHeartbeats 3200000 in
theorem onWayO {w0 W : World} {b m : Nat} (h : CurO w0 W b m) (hm : m ≤ 998000) (ao : Option Addr) (n cap : Nat) (L : List Int) (hr : RdI W ao L) (hn : L.length = n) (hn2 : n ≤ 100) (hnc : n ≤ cap) (hne : L ≠ [] → ∀ c o, ao = some ⟨c, o, none⟩ → c ≠ b) :
    Calls Try.prog 24 #[.pointer (some ⟨b, 0, none⟩), .slice ao n cap] W fun e w' => (∃ x : Int, e = .returned (.int .i64 x)) ∧ CurO w0 w' b (m + 60) := by
  have hs := CurO.start h.1
  have HG := Lib.hid (l11Goal_any ao n cap L W hr hn (by unfold maxLen; omega) hnc)
  generalize hq : (orderB L && decide (0 < n)) = q at HG
  rcases q with _ | _
  · clear hq
    have hA1 := @cellAlloc; have hA2 := @frozenAlloc; have hA3 := @setCellAlloc; go_enter Try.func24, Try.ntmps24
    go_wp2_with (first
      | (go_at_call 45; refine HG.out.mono ?_; rintro e w1 ⟨rfl, hb1⟩; have hc1 := hs.then hb1)
      | (go_at_call 42; refine (cellO hc1 (by omega)).mono ?_; rintro e w2 ⟨⟨x, rfl⟩, hc2⟩))
    go_ret
    exact ⟨⟨_, rfl⟩, (h.trans hc2).mono (by omega)⟩
  · rw [Bool.and_eq_true] at hq
    have hD := orderB_dig hq.1
    have hn0 : 0 < n := by simpa using hq.2
    clear hq
    rcases hr with h9 | ⟨g, o, rfl, hg, hcell⟩
    · rw [h9] at hn; simp at hn; omega
    have hgb : g ≠ b := hne (by intro h9; rw [h9] at hn; simp at hn; omega) g o rfl
    have hat : ∀ j : Nat, j < n → ∃ d : Nat, d < 10 ∧ W.cell? ⟨g, o + j, none⟩ = some (.int .i64 d) := fun j hj => by
      have hj2 : j < L.length := by omega
      have h1 := hD (L.getD j 0) (by rw [List.getD_eq_getElem?_getD, List.getElem?_eq_getElem hj2]; exact List.getElem_mem _)
      rw [inB_iff] at h1
      obtain ⟨d, hd⟩ := Int.eq_ofNat_of_zero_le h1.1
      exact ⟨d, by omega, by rw [hcell j hj2, hd]⟩
    have HAt := Lib.hid hat
    clear hat hcell hD hne hn
    have hA1 := @cellAlloc; have hA2 := @frozenAlloc; have hA3 := @setCellAlloc; go_enter Try.func24, Try.ntmps24
    go_wp2_with (first
      | (go_at_call 45; refine HG.out.mono ?_; rintro e w1 ⟨rfl, hb1⟩; have hc1 := hs.then hb1)
      | (go_at_call 25; refine (oneO _ hc1 (by omega)).mono ?_; rintro e w2 ⟨⟨q, rfl⟩, hc2⟩)
      | (go_at_call 42; refine (cellO hc2 (by omega)).mono ?_; rintro e w3 ⟨⟨x, rfl⟩, hc3⟩)
      | (go_at_call 49; refine (pickO _ hc2 (by omega)).mono ?_; rintro e w3 ⟨⟨x, hx, hxn, rfl⟩, hc3⟩; have hx2 := hxn (by omega); have hx3 : x < n := (by omega); obtain ⟨d, hd, hdc⟩ := HAt.out x hx3; have hdc3 := (hc3.2.cell hg hgb).trans hdc; clear hxn hdc)
      | (go_at_call 52; refine (l2Digit_any d hd _).mono ?_; rintro e w4 ⟨rfl, hb4⟩; have hc4 := hc3.then hb4)
      | (go_at_call 23; refine (amongA _ _ _ hc4 (by omega) (by rfl) (by decide) (by decide) (by rfl)).mono ?_; rintro e w5 ⟨⟨z, hz, rfl⟩, hc5⟩))
    · go_ret
      exact ⟨⟨_, rfl⟩, (h.trans hc3).mono (by omega)⟩
    · go_ret
      exact ⟨⟨_, rfl⟩, (h.trans hc5).mono (by omega)⟩
/-- A short list is returned, which lies in new memory. -/
theorem RetOwn_new {k : Nat} {w W : World} {e : Ending} {w' : World} (h : RetOwn k W e w') (hw : w.heap.size ≤ W.heap.size) : RetOwn k w e w' := by
  obtain ⟨ao, cap, L, h1, h2, h3⟩ := h
  exact ⟨ao, cap, L, h1, h2, ownsInts_le h3 hw⟩
theorem own_ne {w : World} {B b n cap : Nat} {ao : Option Addr} {L : List Int} (h : ownsInts w B (.slice ao n cap) L) (hb : b < B) (hL : L ≠ []) : ∀ c o, ao = some ⟨c, o, none⟩ → c ≠ b := by
  obtain ⟨g, rfl, hg, -⟩ := own_first h (by rcases Nat.eq_zero_or_pos L.length with h9 | h9; exact absurd (List.eq_nil_of_length_eq_zero h9) hL; exact h9)
  intro c o he
  have he' : g = c ∧ 0 = o := by simpa using he
  omega
theorem own_cap {w : World} {B n cap : Nat} {ao : Option Addr} {L : List Int} (h : ownsInts w B (.slice ao n cap) L) : L.length ≤ cap ∨ L = [] := by
  obtain ⟨ao', cap', he, h0 | ⟨g, rfl, h1, h2, h3, h4⟩⟩ := ownsInts_shape h
  · exact .inr h0
  · simp only [Value.slice.injEq] at he
    exact .inl (by omega)
theorem DrawIsGoal_any (ao : Option Addr) (n cap : Nat) (w : World) (h : RdY w ao n) : Calls Try.prog 19 #[.slice ao n cap] w fun e w' => RetOwn 11 w e w' ∧ Below w.heap.size w w' := by
  have hc0 := Cur_new w ao n cap 47 h
  go_enter Try.func19, Try.ntmps19
  go_wp2_with (go_at_call 22; refine (goalO (by assumption) (by omega)).mono ?_; rintro e w1 ⟨⟨ao1, cap1, L1, rfl, hL1, hown1⟩, hc1⟩)
  go_ret
  exact ⟨⟨_, _, L1, rfl, hL1, ownsInts_le hown1 (by simp)⟩, CurO.new hc1⟩
/-- A number and a short list are returned. -/
def RetIntOwn (k : Nat) (W : World) (e : Ending) (w' : World) : Prop := ∃ (x : Int) (ao : Option Addr) (cap : Nat) (L : List Int), e = .returned (.tuple #[.int .i64 x, .slice ao L.length cap]) ∧ L.length ≤ k ∧ ownsInts w' W.heap.size (.slice ao L.length cap) L
set_option maxHeartbeats 800000 in
theorem DrawLightableBars_any (ao : Option Addr) (n cap : Nat) (w : World) (h : RdY w ao n) : Calls Try.prog 35 #[.slice ao n cap] w fun e w' => RetIntOwn 11 w e w' ∧ Below w.heap.size w w' := by
  have hc0 := Cur_new w ao n cap 47 h
  go_enter Try.func35, Try.ntmps35
  go_wp2_with (first
    | (go_at_call 22; refine (goalO hc0 (by omega)).mono ?_; rintro e w1 ⟨⟨ao1, cap1, L1, rfl, hL1, hown1⟩, hc1⟩)
    | (go_at_call 24; refine (onWayO hc1.self (by omega) ao1 _ cap1 L1 (RdI_owns hown1) rfl (by omega) (by rcases own_cap hown1 with h9 | h9; exact h9; rw [h9]; exact Nat.zero_le _) (own_ne hown1 (by simp))).mono ?_; rintro e w2 ⟨⟨x, rfl⟩, hc2⟩; have hown2 := ownsG_onlyC hown1 (by simp) hc2.2; have hcu2 := hc1.trans hc2))
  go_ret2
  exact ⟨⟨x, ao1, cap1, L1, rfl, hL1, ownsInts_le hown2 (by simp)⟩, CurO.new hcu2⟩
theorem DrawCellNumber_any (ao : Option Addr) (n cap : Nat) (w : World) (h : RdY w ao n) : Calls Try.prog 11 #[.slice ao n cap] w fun e w' => RetIntOwn 11 w e w' ∧ Below w.heap.size w w' := by
  have HL := Lib.hid (DrawLightableBars_any ao n cap w h)
  go_enter Try.func11, Try.ntmps11
  go_wp2_with (go_at_call 35; refine HL.out.mono ?_; rintro e w1 ⟨⟨x, ao1, cap1, L1, rfl, hL1, hown1⟩, hb1⟩)
  go_ret2
  exact ⟨⟨x, ao1, cap1, L1, rfl, hL1, hown1⟩, hb1⟩
set_option maxHeartbeats 800000 in
theorem DrawIsOnWay_any (ao : Option Addr) (n cap : Nat) (w : World) (h : RdY w ao n) : Calls Try.prog 16 #[.slice ao n cap] w fun e w' => RetIntOwn 11 w e w' ∧ Below w.heap.size w w' := by
  have hc0 := Cur_new w ao n cap 47 h
  go_enter Try.func16, Try.ntmps16
  go_wp2_with (first
    | (go_at_call 22; refine (goalO hc0 (by omega)).mono ?_; rintro e w1 ⟨⟨ao1, cap1, L1, rfl, hL1, hown1⟩, hc1⟩)
    | (go_at_call 25; refine (oneO _ hc1.self (by omega)).mono ?_; rintro e w3 ⟨⟨q, rfl⟩, hc3⟩; have hown3 := ownsG_onlyC hown1 (by simp) hc3.2; have hcu3 := hc1.trans hc3)
    | (go_at_call 42; refine (cellO hcu3.self (by omega)).mono ?_; rintro e w2 ⟨⟨x, rfl⟩, hc2⟩; have hown2 := ownsG_onlyC hown3 (by simp) hc2.2; have hcu2 := hcu3.trans hc2)
    | (go_at_call 24; refine (onWayO hcu3.self (by omega) ao1 _ cap1 L1 (RdI_owns hown3) rfl (by omega) (by rcases own_cap hown3 with h9 | h9; exact h9; rw [h9]; exact Nat.zero_le _) (own_ne hown3 (by simp))).mono ?_; rintro e w2 ⟨⟨x, rfl⟩, hc2⟩; have hown2 := ownsG_onlyC hown3 (by simp) hc2.2; have hcu2 := hcu3.trans hc2))
  all_goals go_ret2
  all_goals exact ⟨⟨x, ao1, cap1, L1, rfl, hL1, ownsInts_le hown2 (by simp)⟩, CurO.new hcu2⟩
end Go.Proofs.Ytpcmlfohblglaab
