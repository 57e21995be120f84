/- The draws of frames: what they draw are a number and a short list of Slots of the call's own, whatever the code. -/
import Derived.Test.YtjcbffkdemadnaaCur
import Derived.Test.YtjcbffkdemadnaaAppSl
import Derived.Test.YtjcbffkdemadnaaMost
import Derived.Test.YtjcbffkdemadnaaSlotP
import Derived.Lib.Hide
import Derived.Deep.RegionWith
namespace Go.Proofs.Ytjcbffkdemadnaa
open Go.RowKit

def lenX : Value → Nat
  | .slice _ n _ => n
  | _ => 0
theorem l1Least_any (x a : Int) (w : World) : Calls Try.prog 85 #[.int .i64 x, .int .i64 a] w
    fun e w' => e = .returned (.int .i64 (min x a)) ∧ w = w' := by
  go_enter Try.func85, Try.ntmps85
  go_wp2
  all_goals go_ret
  all_goals refine ⟨ret_int ?_, rfl⟩
  all_goals omega
/-- A Slot in a block of its own. -/
def BoxS (W : World) (B : Nat) (x y : Int) : Prop := W.cell? ⟨B, 0, none⟩ = some (.int .i64 x) ∧ W.cell? ⟨B, 1, none⟩ = some (.int .i64 y) ∧ W.frozen? ⟨B, 0, none⟩ = false ∧ W.frozen? ⟨B, 1, none⟩ = false ∧ B < W.heap.size
theorem BoxS_only {W W' : World} {B b : Nat} {x y : Int} (h : BoxS W B x y) (hne : B ≠ b) (ho : OnlyC b W W') : BoxS W' B x y := by
  obtain ⟨h1, h2, h3, h4, h5⟩ := h
  exact ⟨(ho.cell h5 hne).trans h1, (ho.cell h5 hne).trans h2, (ho.frozen h5 hne).trans h3, (ho.frozen h5 hne).trans h4, Nat.lt_of_lt_of_le h5 ho.size⟩
theorem BoxS_new (W : World) (x y : Int) (T : TypeId) : BoxS (W.alloc (.cells #[.int .i64 x, .int .i64 y] T)) W.heap.size x y :=
  ⟨World.cell?_alloc_at _ _ _ _ rfl, World.cell?_alloc_at _ _ _ _ rfl, World.frozen?_alloc_at _ _ _ _ rfl, World.frozen?_alloc_at _ _ _ _ rfl, by simp⟩
/-- The reader, a list that is gathered, a Slot. -/
structure StF (W0 w : World) (b m g off n c B : Nat) (L : List (Int × Int)) (x y : Int) : Prop where
  cur : CurO W0 w b m
  own : ownsS w W0.heap.size (.slice (some ⟨g, off, none⟩) n c) L
  box : BoxS w B x y
  lt : g < B
  ne : b < W0.heap.size
  ge : W0.heap.size ≤ B
theorem StF.only {W0 w w' : World} {b m m' g off n c B : Nat} {L : List (Int × Int)} {x y : Int} (h : StF W0 w b m g off n c B L x y) (k : CurO w w' b m') : StF W0 w' b m' g off n c B L x y :=
  ⟨h.cur.trans k, ownsG_onlyC h.own h.ne k.2, BoxS_only h.box (by have := h.ne; have := h.ge; omega) k.2, h.lt, h.ne, h.ge⟩
theorem pickF (z : Int) {W0 w : World} {b m g off n c B : Nat} {L : List (Int × Int)} {x y : Int} (h : StF W0 w b m g off n c B L x y) (hm : m ≤ 999990) : Calls Try.prog 65 #[.pointer (some ⟨b, 0, none⟩), .int .i64 z] w
    fun e w' => (∃ x : Nat, x < 65536 ∧ (1 ≤ z → (x : Int) < z) ∧ e = .returned (.int .i64 x)) ∧ StF W0 w' b (m + 2) g off n c B L x y :=
  (pickO z h.cur.self hm).mono fun e w' k => ⟨k.1, h.only k.2⟩
theorem oneF (z : Int) {W0 w : World} {b m g off n c B : Nat} {L : List (Int × Int)} {x y : Int} (h : StF W0 w b m g off n c B L x y) (hm : m ≤ 999990) : Calls Try.prog 64 #[.pointer (some ⟨b, 0, none⟩), .int .i64 z] w
    fun e w' => (∃ q : Bool, e = .returned (.bool q)) ∧ StF W0 w' b (m + 2) g off n c B L x y :=
  (oneO z h.cur.self hm).mono fun e w' k => ⟨k.1, h.only k.2⟩
theorem digitF (d : Nat) (hd : d < 10) {W0 w : World} {b m g off n c B : Nat} {L : List (Int × Int)} {x y : Int} (h : StF W0 w b m g off n c B L x y) : Calls Try.prog 86 #[.int .i64 d] w
    fun e w' => e = .returned (.int .i64 (digC d)) ∧ StF W0 w' b m g off n c B L x y :=
  (l2Digit_any d hd w).mono fun e w' k => ⟨k.1, h.only (h.cur.self.then k.2)⟩
theorem StF.drew {W0 w : World} {b m g off n c B : Nat} {L : List (Int × Int)} {x y : Int} (h : StF W0 w b m g off n c B L x y) : StF W0 w.drew b m g off n c B L x y := h.only (h.cur.self.then (Below.refl _ _).drew)
theorem StF.mono {W0 w : World} {b m m' g off n c B : Nat} {L : List (Int × Int)} {x y : Int} (h : StF W0 w b m g off n c B L x y) (hm : m ≤ m') : StF W0 w b m' g off n c B L x y := ⟨h.cur.mono hm, h.own, h.box, h.lt, h.ne, h.ge⟩
theorem ownsS_other {w : World} {B g off n c B8 j : Nat} {L : List (Int × Int)} {v : Value} (h : ownsS w B (.slice (some ⟨g, off, none⟩) n c) L) (hne : g ≠ B8) : ownsS (w.setCell ⟨B8, j, none⟩ v) B (.slice (some ⟨g, off, none⟩) n c) L := by
  rcases h with h | h
  · refine .inl ⟨h.1, ?_⟩
    rcases h.2 with h2 | ⟨g', cap, cur, hv1, hBg, hg, r⟩
    · exact .inl h2
    · cases hv1
      exact .inr ⟨_, _, cur, rfl, hBg, by rw [Below.heap_setCell _ _ _ _ hne]; exact hg, r⟩
  · exact .inr h
theorem StF.set {W0 w : World} {b m g off n c B : Nat} {L : List (Int × Int)} {x y : Int} (h : StF W0 w b m g off n c B L x y) (x' y' : Int) : StF W0 ((w.setCell ⟨B, 0, none⟩ (.int .i64 x')).setCell ⟨B, 1, none⟩ (.int .i64 y')) b m g off n c B L x' y' := by
  obtain ⟨h1, h2, h3, h4, h5⟩ := h.box
  refine ⟨h.cur.appended (((Below.refl W0.heap.size w).setCell h.ge _).setCell h.ge _) (Nat.le_refl _) h.ne h.cur.2.size, ownsS_other (ownsS_other h.own (Nat.ne_of_lt h.lt)) (Nat.ne_of_lt h.lt), ?_, h.lt, h.ne, h.ge⟩
  have c1 : (w.setCell ⟨B, 0, none⟩ (.int .i64 x')).cell? ⟨B, 1, none⟩ = some (.int .i64 y) := by rw [World.cell?_setCell_other _ _ _ _ (by simp)]; exact h2
  refine ⟨?_, World.cell?_setCell_same _ _ _ c1, by simp [h3], by simp [h4], by simpa using h5⟩
  rw [World.cell?_setCell_other _ _ _ _ (by simp)]
  exact World.cell?_setCell_same _ _ _ h1
/-- A number and Slots of the call's own are returned. -/
def RetFr (q : Nat) (W : World) (e : Ending) (w' : World) : Prop := ∃ (k : Int) (g off cap : Nat) (l : List (Int × Int)), e = .returned (.tuple #[.int .i64 k, .slice (some ⟨g, off, none⟩) l.length cap]) ∧ 0 ≤ k ∧ k ≤ 7 ∧ l.length ≤ q ∧ ownsS w' W.heap.size (.slice (some ⟨g, off, none⟩) l.length cap) l ∧ g < w'.heap.size
set_option maxHeartbeats 3200000 in
set_option maxRecDepth 100000 in
theorem frameO {w0 W : World} {b m : Nat} (h : CurO w0 W b m) (hm : m ≤ 999000) : Calls Try.prog 63 #[.pointer (some ⟨b, 0, none⟩)] W fun e w' => RetFr 13 W e w' ∧ CurO w0 w' b (m + 200) := by
  have hbB : b < W.heap.size := h.1.lt
  have hs := CurO.start h.1
  have t1 : True := trivial
  have hA1 := @cellAlloc; have hA2 := @frozenAlloc; have hA3 := @setCellAlloc; go_enter Try.func63, Try.ntmps63
  go_wp2_with (first
    | (go_at_call 84; clear t1; refine (amongA _ _ _ hs (by omega) (by rfl) (by decide) (by decide) (by rfl)).mono ?_; rintro e w1 ⟨⟨z, hz, rfl⟩, hc1⟩; have hz2 : 0 ≤ z ∧ z ≤ 7 := (by simp [intOf] at hz; omega); clear hz; obtain ⟨k0, rfl⟩ := Int.eq_ofNat_of_zero_le hz2.1; have hmn : min (k0 : Int) 6 = ((min k0 6 : Nat) : Int) := (by omega); have hmx : max (1 : Int) ((min k0 6 : Nat) : Int) = ((max 1 (min k0 6) : Nat) : Int) := (by omega); have HMN := Lib.hid hmn; have HMX := Lib.hid hmx; clear hmn hmx)
    | (go_at_call 85; refine (l1Least_any _ _ _).mono ?_; rw [HMN.out]; rintro e w' ⟨rfl, rfl⟩)
    | (go_at_call 49; refine (l1Most_any _ _ _).mono ?_; rw [HMX.out]; rintro e w' ⟨rfl, rfl⟩)
    | (go_at_call 84; refine (amongB _ _ _ _ (CurO.self (hc1.alloc _)) (by simp) (by omega) (by rfl) (by decide) (by decide) (by rfl)).mono ?_; rintro e w2 ⟨⟨y, hy, rfl⟩, hc2⟩; have hs2 := hc2.2.size; replace hc2 := (hc1.alloc _).trans hc2; have hy2 : 0 ≤ y ∧ y ≤ 6 := (by simp [intOf] at hy; omega); clear hy; obtain ⟨n0, rfl⟩ := Int.eq_ofNat_of_zero_le hy2.1))
  obtain ⟨t, ht⟩ : ∃ t, max 1 (min k0 6) = t := ⟨_, rfl⟩
  have ht6 : 1 ≤ t ∧ t ≤ 6 := by omega
  rw [ht]
  obtain ⟨hsh, hsh2, hsh3⟩ := shlS t ht6.2
  have hk7 := hz2.2
  rw [heapAlloc] at hs2
  have hw1 := hc1.2.size
  clear ht HMN HMX hz2
  obtain ⟨mm, hmm⟩ : ∃ mm, (2 ^ t : Nat) = mm := ⟨_, rfl⟩
  rw [hmm] at hsh hsh2 hsh3
  clear hmm
  go_loopw [5, 7] (fun v i wr => ∃ (nn g off c : Nat) (L : List (Int × Int)), nn ≤ 6 ∧ L.length + nn ≤ 6 ∧ i = .int .i64 nn ∧ v = .slice (some ⟨g, off, none⟩) L.length c ∧ ownsS wr W.heap.size (.slice (some ⟨g, off, none⟩) L.length c) L ∧ g < wr.heap.size ∧ CurO W wr b (m + 100 - 12 * nn)) (fun _ i _ => (intOf i).toNat)
  case atStart => exact ⟨n0, w1.heap.size, 0, 0, [], by omega, by show 0 + n0 ≤ 6; omega, rfl, rfl, ownsS_zero _ _ _, by omega, hc2.mono (by omega)⟩
  case round =>
    obtain ⟨nn, g, off, c, L, hnn, hLn, rfl, rfl, hown, hgl, hcu⟩ := hrel
    have hwr := hcu.2.size
    clear hc1 hc2 hs2 hw1
    by_cases h0 : nn = 0
    · subst h0
      have hL6 : L.length ≤ 6 := by omega
      have hd0 : decide ((0 : Int) < ((0 : Nat) : Int)) = false := by decide
      go_wp2_with (first
        | (go_at_call 65; refine (pickO _ (CurO.self hcu) (by omega)).mono ?_; rintro e w3 ⟨⟨x, hx, hxn, rfl⟩, hc3⟩; clear hxn; have hown3 : ownsS w3 W.heap.size (.slice (some ⟨g, off, none⟩) L.length c) L := ownsG_onlyC hown hbB hc3.2; have hs3 := hc3.2.size; have hcu3 := hcu.trans hc3)
        | (go_at_call 84; refine (amongA _ _ _ (CurO.self hcu3) (by omega) (by rfl) (by decide) (by decide) (by rfl)).mono ?_; rintro e w4 ⟨⟨z, hz, rfl⟩, hc4⟩; clear hz; have hown4 : ownsS w4 W.heap.size (.slice (some ⟨g, off, none⟩) L.length c) L := ownsG_onlyC hown3 hbB hc4.2; have hs4 := hc4.2.size; have hcu4 := hcu3.trans hc4)
        | (at_builtin; refine wpAppendSl (w4.alloc (.cells #[.int .i64 0, .int .i64 z] 48)) (by rfl) _ _ (by rfl) W.heap.size (.slice (some ⟨g, off, none⟩) L.length c) L (by rfl) (ownsS_below hown4 (Go.Joins.below_alloc1 _ _) (Nat.le_refl _)) ⟨w4.heap.size, 0, none⟩ 1 1 [(0, z)] (by rfl) rfl (RdS_new _ _ _ _) (.inl ⟨_, _, _, _, rfl⟩) (by intro k hk; simp [Value.ownBlock] at hk; subst hk; simp; omega) (by omega) (by simp; omega) ?_; intro g6 o6 c6 w6 ho6 hb6 _ hg6 _; have hcu6 := (hcu4.alloc _).appended hb6 (Nat.le_refl _) hbB (by simp; omega))
        | (at_builtin; refine wpAppendSl (w3.alloc (.cells #[.int .i64 (mm : Int), .int .i64 0] 48)) (by rfl) _ _ (by rfl) W.heap.size (.slice (some ⟨g, off, none⟩) L.length c) L (by rfl) (ownsS_below hown3 (Go.Joins.below_alloc1 _ _) (Nat.le_refl _)) ⟨w3.heap.size, 0, none⟩ 1 1 [((mm : Int), 0)] (by rfl) rfl (RdS_new _ _ _ _) (.inl ⟨_, _, _, _, rfl⟩) (by intro k hk; simp [Value.ownBlock] at hk; subst hk; simp; omega) (by omega) (by simp; omega) ?_; intro g6 o6 c6 w6 ho6 hb6 _ hg6 _; have hcu6 := (hcu3.alloc _).appended hb6 (Nat.le_refl _) hbB (by simp; omega)))
      · go_ret2
        exact ⟨⟨_, g6, o6, c6, L ++ [((mm : Int), 0)], by rw [List.length_append]; rfl, by omega, by omega, by simp; omega, by simpa using ho6, hg6⟩, (h.trans hcu6).mono (by omega)⟩
      · go_ret2
        exact ⟨⟨_, g6, o6, c6, L ++ [(0, z)], by rw [List.length_append]; rfl, by omega, by omega, by simp; omega, by simpa using ho6, hg6⟩, (h.trans hcu6).mono (by omega)⟩
      · have hg3 : g < w3.heap.size := by omega
        clear hown
        simp only [show ((x : Int) == 0) = false from by assumption, show ((x : Int) == 1) = false from by assumption, show ((x : Int) == 2) = true from by assumption]
        go_loopw [5] (fun v wq => ∃ (g off c : Nat) (L : List (Int × Int)), L.length ≤ 13 ∧ v = .slice (some ⟨g, off, none⟩) L.length c ∧ ownsS wq W.heap.size (.slice (some ⟨g, off, none⟩) L.length c) L ∧ g < wq.heap.size ∧ CurO W wq b (m + 110)) (fun v _ => 13 - lenX v)
        case atStart => exact ⟨g, off, c, L, by omega, rfl, hown3, hg3, hcu3.mono (by omega)⟩
        case round =>
          clear hown3 hcu3 hgl hg3 hL6 hLn
          obtain ⟨g, off, c, L, hL13, rfl, hown, hgl, hcu⟩ := hrel
          have hwr := hcu.2.size
          by_cases hlt : L.length < 13
          · have hdl : decide ((L.length : Int) < 13) = true := by simp; omega
            go_wp2_with (at_builtin; refine wpAppendSl (wr.alloc (.cells #[.int .i64 1, .int .i64 1] 48)) (by rfl) _ _ (by rfl) W.heap.size (.slice (some ⟨g, off, none⟩) L.length c) L (by rfl) (ownsS_below hown (Go.Joins.below_alloc1 _ _) (Nat.le_refl _)) ⟨wr.heap.size, 0, none⟩ 1 1 [(1, 1)] (by rfl) rfl (RdS_new _ _ _ _) (.inl ⟨_, _, _, _, rfl⟩) (by intro k hk; simp [Value.ownBlock] at hk; subst hk; simp; omega) (by omega) (by simp; omega) ?_; intro g6 o6 c6 w6 ho6 hb6 _ hg6 _; have hcu6 := (hcu.alloc _).appended hb6 (Nat.le_refl _) hbB (by simp; omega))
            go_roundw
            case rel => exact ⟨g6, o6, c6, L ++ [(1, 1)], by simp; omega, by simp, by simpa using ho6, hg6, hcu6⟩
            case measure => simp [lenX]; omega
          · have hdl : decide ((L.length : Int) < 13) = false := by simp; omega
            go_wp2
            go_ret2
            exact ⟨⟨_, g, off, c, L, rfl, by omega, by omega, hL13, hown, hgl⟩, (h.trans hcu).mono (by omega)⟩
      · have hg3 : g < w3.heap.size := by omega
        clear hown
        simp only [show ((x : Int) == 0) = false from by assumption, show ((x : Int) == 1) = false from by assumption, show ((x : Int) == 2) = false from by assumption, show ((x : Int) == 3) = true from by assumption]
        go_loopw [5] (fun v wq => ∃ (g off c : Nat) (L : List (Int × Int)), L.length ≤ 13 ∧ v = .slice (some ⟨g, off, none⟩) L.length c ∧ ownsS wq W.heap.size (.slice (some ⟨g, off, none⟩) L.length c) L ∧ g < wq.heap.size ∧ CurO W wq b (m + 110)) (fun v _ => 8 - lenX v)
        case atStart => exact ⟨g, off, c, L, by omega, rfl, hown3, hg3, hcu3.mono (by omega)⟩
        case round =>
          clear hown3 hcu3 hgl hg3 hL6 hLn
          obtain ⟨g, off, c, L, hL13, rfl, hown, hgl, hcu⟩ := hrel
          have hwr := hcu.2.size
          by_cases hlt : L.length < 8
          · have hdl : decide ((L.length : Int) < 8) = true := by simp; omega
            go_wp2_with (at_builtin; refine wpAppendSl (wr.alloc (.cells #[.int .i64 1, .int .i64 2] 48)) (by rfl) _ _ (by rfl) W.heap.size (.slice (some ⟨g, off, none⟩) L.length c) L (by rfl) (ownsS_below hown (Go.Joins.below_alloc1 _ _) (Nat.le_refl _)) ⟨wr.heap.size, 0, none⟩ 1 1 [(1, 2)] (by rfl) rfl (RdS_new _ _ _ _) (.inl ⟨_, _, _, _, rfl⟩) (by intro k hk; simp [Value.ownBlock] at hk; subst hk; simp; omega) (by omega) (by simp; omega) ?_; intro g6 o6 c6 w6 ho6 hb6 _ hg6 _; have hcu6 := (hcu.alloc _).appended hb6 (Nat.le_refl _) hbB (by simp; omega))
            go_roundw
            case rel => exact ⟨g6, o6, c6, L ++ [(1, 2)], by simp; omega, by simp, by simpa using ho6, hg6, hcu6⟩
            case measure => simp [lenX]; omega
          · have hdl : decide ((L.length : Int) < 8) = false := by simp; omega
            go_wp2
            go_ret2
            exact ⟨⟨_, g, off, c, L, rfl, by omega, by omega, hL13, hown, hgl⟩, (h.trans hcu).mono (by omega)⟩
      · go_ret2
        exact ⟨⟨_, g, off, c, L, rfl, by omega, by omega, by omega, hown3, by omega⟩, (h.trans hcu3).mono (by omega)⟩
    · have hpos : (0 : Int) < (nn : Int) := by omega
      have t2 : True := trivial
      have t3 : True := trivial
      have hL6 : L.length ≤ 5 := by omega
      go_wp2_with (first
        | (go_at_call 65; clear t2; refine (pickO _ (CurO.self hcu) (by omega)).mono ?_; rintro e w3 ⟨⟨x, hx, hxn, rfl⟩, hc3⟩; clear hxn; have hown3 := ownsG_onlyC hown hbB hc3.2; have hs3 := hc3.2.size; have hcu3 := hcu.trans hc3)
        | (go_at_call 65; clear t3; refine (pickO _ (CurO.self hcu3) (by omega)).mono ?_; rintro e w4 ⟨⟨y, hy, hyn, rfl⟩, hc4⟩; clear hyn; have hown4 : ownsS w4 W.heap.size (.slice (some ⟨g, off, none⟩) L.length c) L := ownsG_onlyC hown3 hbB hc4.2; have hs4 := hc4.2.size; have hcu4 := hcu3.trans hc4; have hgB : g < w4.heap.size := (by omega); have hBW : W.heap.size ≤ w4.heap.size := (by omega); have hB4 := Lib.hid (And.intro hgB hBW))
        | (go_at_call 64; refine (oneF _ (StF.mk (hcu4.alloc _) (ownsS_below hown4 (Go.Joins.below_alloc1 _ _) (Nat.le_refl _)) (BoxS_new _ _ _ _) hB4.out.1 hbB hB4.out.2) (by omega)).mono ?_; rintro e w5 ⟨⟨q5, rfl⟩, hst⟩; have hbox := Lib.hid hst.box; obtain ⟨x1, x2, x3, x4, x5⟩ := hst.box; have hs5 := hst.cur.2.size)
        | (at_builtin; refine wpAppendSl (w5.alloc (.cells #[.int .i64 (x : Int), .int .i64 (y : Int)] 48)) (by rfl) _ _ (by rfl) W.heap.size (.slice (some ⟨g, off, none⟩) L.length c) L (by rfl) (ownsS_below hst.own (Go.Joins.below_alloc1 _ _) (Nat.le_refl _)) ⟨w5.heap.size, 0, none⟩ 1 1 [((x : Int), (y : Int))] (by rfl) rfl (RdS_new _ _ _ _) (.inl ⟨_, _, _, _, rfl⟩) (by intro k hk; simp [Value.ownBlock] at hk; subst hk; simp; omega) (by omega) (by simp; omega) ?_; intro g6 o6 c6 w6 ho6 hb6 _ hg6 _; have hcu6 := (hst.cur.alloc _).appended hb6 (Nat.le_refl _) hbB (by simp; omega)))
      · have hstd := hst.drew
        go_region_with (first
          | (go_at_call 65; refine (pickF _ (by assumption) (by omega)).mono ?_; rintro e w' ⟨⟨x', hx', hxn', rfl⟩, hst'⟩; have hxn2 := hxn' (by first | decide | omega); clear hxn'; obtain ⟨x1, x2, x3, x4, x5⟩ := hst'.box)
          | (go_at_call 86; refine (digitF _ (by omega) (by assumption)).mono ?_; rintro e w' ⟨rfl, hst'⟩; obtain ⟨x1, x2, x3, x4, x5⟩ := hst'.box))
        all_goals
          generalize hwz : World.setCell (World.setCell _ _ _) _ _ = wz
          have hz : ∃ x' y' : Int, StF W wz b (m + 112 - 12 * nn) g off L.length c w4.heap.size L x' y' := by
            rw [← hwz]
            exact ⟨_, _, (StF.set (by assumption) _ _).mono (by omega)⟩
          clear hwz hst hstd x1 x2 x3 x4 x5 hbox
          obtain ⟨x9, y9, hstz⟩ := hz
          obtain ⟨x1, x2, x3, x4, x5⟩ := hstz.box
          have hsz := hstz.cur.2.size
          go_wp2_with (at_builtin; refine wpAppendSl (wz.alloc (.cells #[.int .i64 x9, .int .i64 y9] 48)) (by rfl) _ _ (by rfl) W.heap.size (.slice (some ⟨g, off, none⟩) L.length c) L (by rfl) (ownsS_below hstz.own (Go.Joins.below_alloc1 _ _) (Nat.le_refl _)) ⟨wz.heap.size, 0, none⟩ 1 1 [(x9, y9)] (by rfl) rfl (RdS_new _ _ _ _) (.inl ⟨_, _, _, _, rfl⟩) (by intro k hk; simp [Value.ownBlock] at hk; subst hk; simp; omega) (by omega) (by simp; omega) ?_; intro g6 o6 c6 w6 ho6 hb6 _ hg6 _; have hcu6 := (hstz.cur.alloc _).appended hb6 (Nat.le_refl _) hbB (by simp; omega))
          go_roundw
          case rel => exact ⟨nn - 1, g6, o6, c6, L ++ [(x9, y9)], by omega, by simp; omega, by go_num, by simp, by simpa using ho6, hg6, hcu6.mono (by omega)⟩
          case measure => simp [intOf]; omega
      · go_roundw
        case rel => exact ⟨nn - 1, g6, o6, c6, L ++ [((x : Int), (y : Int))], by omega, by simp; omega, by go_num, by simp, by simpa using ho6, hg6, hcu6.mono (by omega)⟩
        case measure => simp [intOf]; omega
end Go.Proofs.Ytjcbffkdemadnaa
