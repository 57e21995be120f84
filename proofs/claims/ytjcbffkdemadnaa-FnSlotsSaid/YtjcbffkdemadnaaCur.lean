/- The reader of choices that the draws share: it makes no fault, and writes its own block alone. -/
import Derived.Test.YtjcbffkdemadnaaRd
import Derived.Test.YtjcbffkdemadnaaDigit
import Derived.Lib.Hide
import Derived.Deep.QuietTactic
import Derived.BigQuiet
namespace Go.Proofs.Ytjcbffkdemadnaa
open Go.RowKit

/-- Old blocks but b are as they were. -/
def OnlyC (b : Nat) (w w' : World) : Prop := w'.os = w.os ∧ w'.tape = w.tape ∧ w'.output = w.output ∧ w.heap.size ≤ w'.heap.size ∧ ∀ k, k < w.heap.size → k ≠ b → w'.heap[k]? = w.heap[k]?
theorem OnlyC.refl (b : Nat) (w : World) : OnlyC b w w := ⟨rfl, rfl, rfl, Nat.le_refl _, fun _ _ _ => rfl⟩
theorem OnlyC.size {b : Nat} {w w' : World} (h : OnlyC b w w') : w.heap.size ≤ w'.heap.size := h.2.2.2.1
theorem OnlyC.trans {b : Nat} {w1 w2 w3 : World} (h : OnlyC b w1 w2) (k : OnlyC b w2 w3) : OnlyC b w1 w3 :=
  ⟨k.1.trans h.1, k.2.1.trans h.2.1, k.2.2.1.trans h.2.2.1, Nat.le_trans h.size k.size, fun i hi hn => (k.2.2.2.2 i (Nat.lt_of_lt_of_le hi h.size) hn).trans (h.2.2.2.2 i hi hn)⟩
theorem OnlyC.of {b : Nat} {w w' : World} (h : Below w.heap.size w w') : OnlyC b w w' := ⟨h.os, h.tape, h.output, h.size, fun k hk _ => h.block k hk⟩
theorem OnlyC.then {b : Nat} {w1 w2 w3 : World} (h : OnlyC b w1 w2) (k : Below w2.heap.size w2 w3) : OnlyC b w1 w3 := h.trans (OnlyC.of k)
theorem OnlyC.below {b B : Nat} {w w' : World} (h : OnlyC b w w') (hB : B ≤ b) (hb : b < w.heap.size) : Below B w w' := ⟨h.1, h.2.1, h.2.2.1, h.size, fun k hk => h.2.2.2.2 k (by omega) (by omega)⟩
theorem OnlyC.setCell {b : Nat} {w w' : World} (h : OnlyC b w w') (j : Nat) (v : Value) : OnlyC b w (w'.setCell ⟨b, j, none⟩ v) :=
  ⟨h.1, h.2.1, h.2.2.1, by rw [heapSet]; exact h.size, fun k hk hn => by rw [← h.2.2.2.2 k hk hn]; exact Below.heap_setCell _ _ _ _ hn⟩
theorem OnlyC.cell {b : Nat} {w w' : World} (h : OnlyC b w w') {k j : Nat} (hk : k < w.heap.size) (hn : k ≠ b) : w'.cell? ⟨k, j, none⟩ = w.cell? ⟨k, j, none⟩ := World.cell?_of_block (h.2.2.2.2 k hk hn)
theorem OnlyC.frozen {b : Nat} {w w' : World} (h : OnlyC b w w') {k j : Nat} (hk : k < w.heap.size) (hn : k ≠ b) : w'.frozen? ⟨k, j, none⟩ = w.frozen? ⟨k, j, none⟩ := World.frozen?_of_block (h.2.2.2.2 k hk hn)
theorem RdI_only {b : Nat} {w w' : World} {c : Nat} {L : List Int} (h : RdI w (some ⟨c, 0, none⟩) L) (hc : c ≠ b) (ho : OnlyC b w w') : RdI w' (some ⟨c, 0, none⟩) L := by
  rcases h with h | ⟨k, o, he, hlt, hcell⟩
  · exact .inl h
  · have he' : c = k ∧ 0 = o := by simpa using he
    obtain ⟨rfl, rfl⟩ := he'
    exact .inr ⟨c, 0, rfl, Nat.lt_of_lt_of_le hlt ho.size, fun j hj => (ho.cell hlt hc).trans (hcell j hj)⟩
/-- A slice of bytes is read, whatever it holds. -/
def RdY (w : World) (ao : Option Addr) (n : Nat) : Prop := n ≤ maxLen ∧ (n = 0 ∨ ∃ c o, ao = some ⟨c, o, none⟩ ∧ c < w.heap.size ∧ ∀ j, j < n → ∃ x : Nat, x < 256 ∧ w.cell? ⟨c, o + j, none⟩ = some (.int .u8 x))
theorem RdY_below {w w' : World} {ao : Option Addr} {n : Nat} (h : RdY w ao n) (hb : Below w.heap.size w w') : RdY w' ao n := by
  refine ⟨h.1, ?_⟩
  rcases h.2 with h | ⟨c, o, rfl, hlt, hc⟩
  · exact .inl h
  · exact .inr ⟨c, o, rfl, Nat.lt_of_lt_of_le hlt hb.size, fun j hj => by
      obtain ⟨x, hx, h2⟩ := hc j hj
      exact ⟨x, hx, (hb.cell (p := ⟨c, o + j, none⟩) hlt).trans h2⟩⟩
/-- The reader lies in block b, and has read at most m bytes. -/
def Cur (w : World) (b m : Nat) : Prop := b < w.heap.size ∧ ∃ (ao : Option Addr) (n cap p : Nat) (s : Int), p ≤ m ∧ w.cell? ⟨b, 0, none⟩ = some (.slice ao n cap) ∧ w.cell? ⟨b, 1, none⟩ = some (.int .i64 p) ∧ w.cell? ⟨b, 2, none⟩ = some (.int .u64 s) ∧ (∀ j, w.frozen? ⟨b, j, none⟩ = false) ∧
  n ≤ maxLen ∧ (n = 0 ∨ ∃ c o, ao = some ⟨c, o, none⟩ ∧ c < w.heap.size ∧ c < b ∧ ∀ j, j < n → ∃ x : Nat, x < 256 ∧ w.cell? ⟨c, o + j, none⟩ = some (.int .u8 x))
theorem Cur.mono {w : World} {b m m' : Nat} (h : Cur w b m) (hm : m ≤ m') : Cur w b m' := by
  obtain ⟨h1, ao, n, cap, p, s, h2, h3⟩ := h
  exact ⟨h1, ao, n, cap, p, s, Nat.le_trans h2 hm, h3⟩
theorem Cur.below {w w' : World} {b m : Nat} (h : Cur w b m) (hb : Below w.heap.size w w') : Cur w' b m := by
  obtain ⟨h1, ao, n, cap, p, s, h2, h3, h4, h5, h6, h7, h8⟩ := h
  refine ⟨Nat.lt_of_lt_of_le h1 hb.size, ao, n, cap, p, s, h2, (hb.cell (p := ⟨b, 0, none⟩) h1).trans h3, (hb.cell (p := ⟨b, 1, none⟩) h1).trans h4, (hb.cell (p := ⟨b, 2, none⟩) h1).trans h5, fun j => (hb.frozen (p := ⟨b, j, none⟩) h1).trans (h6 j), h7, ?_⟩
  rcases h8 with h8 | ⟨c, o, rfl, hc, hn, hx⟩
  · exact .inl h8
  · exact .inr ⟨c, o, rfl, Nat.lt_of_lt_of_le hc hb.size, hn, fun j hj => by
      obtain ⟨x, hx1, hx2⟩ := hx j hj
      exact ⟨x, hx1, (hb.cell (p := ⟨c, o + j, none⟩) hc).trans hx2⟩⟩
theorem Cur.lt {w : World} {b m : Nat} (h : Cur w b m) : b < w.heap.size := h.1
def lowN (y : Int) : Nat := (BitVec.ofInt 64 y).toNat &&& 255
theorem lowN_lt (y : Int) : lowN y < 256 := Nat.lt_of_le_of_lt Nat.and_le_right (by decide)
theorem and255 (y : Int) : wrap64 (bits .and .u64 y 255) = (lowN y : Int) := by
  have h : lowN y ≤ 255 := Nat.and_le_right
  have e : bits .and .u64 y 255 = (lowN y : Int) := by
    show IntKind.u64.wrap ((BitVec.ofInt 64 y &&& BitVec.ofInt 64 255).toNat : Int) = _
    rw [BitVec.toNat_and, show (BitVec.ofInt 64 255).toNat = 255 by decide]
    show IntKind.u64.wrap (lowN y : Int) = _
    generalize lowN y = z at h
    unfold IntKind.wrap
    simp [IntKind.signed, IntKind.bits]
    omega
  rw [e]
  exact IntWalk.wrap64_in _ ⟨by omega, by omega⟩
theorem RdC_only {b c o n : Nat} {w w' : World} (ho : OnlyC b w w') (hc : c < w.heap.size) (hn : c ≠ b) (hx : ∀ j, j < n → ∃ x : Nat, x < 256 ∧ w.cell? ⟨c, o + j, none⟩ = some (.int .u8 x)) : ∀ j, j < n → ∃ x : Nat, x < 256 ∧ w'.cell? ⟨c, o + j, none⟩ = some (.int .u8 x) := fun j hj => by
  obtain ⟨x, h1, h2⟩ := hx j hj
  exact ⟨x, h1, (ho.cell hc hn).trans h2⟩
theorem Cur.step {w : World} {b m : Nat} {ao : Option Addr} {n cap p : Nat} {s : Int} (k1 k2 : Nat) (s' : Int) (h1 : b < w.heap.size) (h2 : p ≤ m) (h3 : w.cell? ⟨b, 0, none⟩ = some (.slice ao n cap)) (h4 : w.cell? ⟨b, 1, none⟩ = some (.int .i64 p)) (h5 : w.cell? ⟨b, 2, none⟩ = some (.int .u64 s)) (h6 : ∀ j, w.frozen? ⟨b, j, none⟩ = false)
    (h7 : n ≤ maxLen) (h8 : n = 0 ∨ ∃ c o, ao = some ⟨c, o, none⟩ ∧ c < w.heap.size ∧ c < b ∧ ∀ j, j < n → ∃ x : Nat, x < 256 ∧ w.cell? ⟨c, o + j, none⟩ = some (.int .u8 x)) :
    Cur ((((w.drewN k1).setCell ⟨b, 1, none⟩ (.int .i64 ((p : Int) + 1))).setCell ⟨b, 2, none⟩ (.int .u64 s')).drewN k2) b (m + 1) ∧ OnlyC b w ((((w.drewN k1).setCell ⟨b, 1, none⟩ (.int .i64 ((p : Int) + 1))).setCell ⟨b, 2, none⟩ (.int .u64 s')).drewN k2) := by
  have ho : OnlyC b w ((((w.drewN k1).setCell ⟨b, 1, none⟩ (.int .i64 ((p : Int) + 1))).setCell ⟨b, 2, none⟩ (.int .u64 s')).drewN k2) :=
    (((OnlyC.of (Go.Joins.below_draws _ w k1)).setCell 1 _).setCell 2 _).then (Go.Joins.below_draws _ _ k2)
  refine ⟨⟨Nat.lt_of_lt_of_le h1 ho.size, ao, n, cap, p + 1, s', by omega, ?_, ?_, ?_, fun j => ?_, h7, ?_⟩, ho⟩
  · show (((w.drewN k1).setCell ⟨b, 1, none⟩ _).setCell ⟨b, 2, none⟩ _).cell? ⟨b, 0, none⟩ = _
    rw [World.cell?_setCell_other _ _ _ _ (by simp), World.cell?_setCell_other _ _ _ _ (by simp)]
    exact h3
  · show (((w.drewN k1).setCell ⟨b, 1, none⟩ _).setCell ⟨b, 2, none⟩ _).cell? ⟨b, 1, none⟩ = _
    rw [World.cell?_setCell_other _ _ _ _ (by simp)]
    exact World.cell?_setCell_same _ _ _ h4
  · show (((w.drewN k1).setCell ⟨b, 1, none⟩ _).setCell ⟨b, 2, none⟩ _).cell? ⟨b, 2, none⟩ = _
    exact World.cell?_setCell_same _ _ _ (by rw [World.cell?_setCell_other _ _ _ _ (by simp)]; exact h5)
  · show (((w.drewN k1).setCell ⟨b, 1, none⟩ _).setCell ⟨b, 2, none⟩ _).frozen? ⟨b, j, none⟩ = _
    rw [World.frozen?_setCell, World.frozen?_setCell]
    exact h6 j
  · rcases h8 with h8 | ⟨c, o, rfl, hc, hn, hx⟩
    · exact .inl h8
    · exact .inr ⟨c, o, rfl, Nat.lt_of_lt_of_le hc ho.size, hn, RdC_only ho hc (Nat.ne_of_lt hn) hx⟩
set_option maxHeartbeats 1600000 in
theorem next_any (b m : Nat) (w : World) (h : Cur w b m) (hm : m ≤ 1000000) : Calls Try.prog 87 #[.pointer (some ⟨b, 0, none⟩)] w
    fun e w' => (∃ x : Nat, x < 256 ∧ e = .returned (.int .i64 x)) ∧ Cur w' b (m + 1) ∧ OnlyC b w w' := by
  obtain ⟨h1, ao, n, cap, p, s, h2, h3, h4, h5, h6, h7, h8⟩ := h
  have f1 := h6 1
  have f2 := h6 2
  have hA1 := @cellAlloc; have hA2 := @frozenAlloc; have hA3 := @setCellAlloc; go_enter Try.func87, Try.ntmps87
  go_wp2_with fail
  by_cases hlt : p < n
  · have hd : decide ((p : Int) < (n : Int)) = true := by simp; omega
    have hd2 : decide ((p : Int) + 1 ≤ (n : Int)) = true := by simp; omega
    rcases h8 with h8 | ⟨c, o, rfl, hc, hcb, hx⟩
    · omega
    obtain ⟨x, hx1, hx2⟩ := hx p hlt
    have hne : ¬ c = b := Nat.ne_of_lt hcb
    have hne2 : ¬ b = c := fun h => hne h.symm
    have hx3 := hx
    clear hx
    have HX := Lib.hid hx3
    clear hx3
    go_quiet (fail)
    go_wp2_with fail
    go_quiet (fail)
    go_wp2_with fail
    go_quiet (fail)
    go_wp2
    go_ret
    exact ⟨⟨x, hx1, rfl⟩, Cur.step _ _ _ h1 h2 h3 h4 h5 h6 h7 (.inr ⟨c, o, rfl, hc, hcb, HX.out⟩)⟩
  · have hd : decide ((p : Int) < (n : Int)) = false := by simp; omega
    have hd2 : decide ((p : Int) + 1 ≤ (n : Int)) = false := by simp; omega
    go_quiet (fail)
    go_wp2_with fail
    go_quiet (fail)
    go_wp2
    go_ret
    exact ⟨⟨lowN _, lowN_lt _, ret_int (and255 _)⟩, Cur.step _ _ _ h1 h2 h3 h4 h5 h6 h7 h8⟩
theorem mod_fact (A : Nat) (n : Int) (hA : A < 65536) (hn : 1 < n) : ∃ r : Nat, r < 65536 ∧ (r : Int) < n ∧ (A : Int) % n = r := by
  obtain ⟨N, rfl⟩ := Int.eq_ofNat_of_zero_le (show 0 ≤ n by omega)
  refine ⟨A % N, Nat.lt_of_le_of_lt (Nat.mod_le _ _) hA, ?_, by rw [Int.natCast_emod]⟩
  have := Nat.mod_lt A (show N > 0 by omega)
  omega
set_option maxHeartbeats 800000 in
theorem pick_any (n : Int) (b m : Nat) (w : World) (h : Cur w b m) (hm : m ≤ 999990) : Calls Try.prog 65 #[.pointer (some ⟨b, 0, none⟩), .int .i64 n] w
    fun e w' => (∃ x : Nat, x < 65536 ∧ (1 ≤ n → (x : Int) < n) ∧ e = .returned (.int .i64 x)) ∧ Cur w' b (m + 2) ∧ OnlyC b w w' := by
  have HN := Lib.hid (fun m W h h2 => next_any b m W h h2)
  by_cases h1 : n ≤ 1
  · clear HN
    go_enter Try.func65, Try.ntmps65
    go_wp2
    go_ret
    exact ⟨⟨0, by omega, by omega, rfl⟩, h.mono (by omega), OnlyC.refl _ _⟩
  · by_cases h2 : n > 200
    · go_enter Try.func65, Try.ntmps65
      go_wp2_with (go_at_call 87; first
        | (refine (HN.out m w h (by omega)).mono ?_; rintro e w1 ⟨⟨x, hx, rfl⟩, hc1, ho1⟩)
        | (refine (HN.out (m + 1) _ hc1 (by omega)).mono ?_; rintro e w2 ⟨⟨y, hy, rfl⟩, hc2, ho2⟩))
      go_ret
      obtain ⟨r, hr1, hr2, hr3⟩ := mod_fact (x * 256 + y) n (by omega) (by omega)
      rw [show ((x * 256 + y : Nat) : Int) = (x : Int) * 256 + y by omega] at hr3
      exact ⟨⟨r, hr1, fun _ => hr2, ret_int hr3⟩, hc2, ho1.trans ho2⟩
    · go_enter Try.func65, Try.ntmps65
      go_wp2_with (go_at_call 87; (refine (HN.out m w h (by omega)).mono ?_; rintro e w1 ⟨⟨x, hx, rfl⟩, hc1, ho1⟩))
      go_ret
      obtain ⟨r, hr1, hr2, hr3⟩ := mod_fact x n (by omega) (by omega)
      exact ⟨⟨r, hr1, fun _ => hr2, ret_int hr3⟩, hc1.mono (by omega), ho1⟩
theorem one_any (n : Int) (b m : Nat) (w : World) (h : Cur w b m) (hm : m ≤ 999990) : Calls Try.prog 64 #[.pointer (some ⟨b, 0, none⟩), .int .i64 n] w
    fun e w' => (∃ q : Bool, e = .returned (.bool q)) ∧ Cur w' b (m + 2) ∧ OnlyC b w w' := by
  have HN := Lib.hid (pick_any n b m w h hm)
  go_enter Try.func64, Try.ntmps64
  go_wp2_with (go_at_call 65; refine HN.out.mono ?_; rintro e w1 ⟨⟨x, hx, -, rfl⟩, hc1, ho1⟩)
  go_ret
  exact ⟨⟨_, rfl⟩, hc1, ho1⟩
set_option maxHeartbeats 800000 in
theorem among_any (c k cap : Nat) (L : List Int) (b m : Nat) (w : World) (h : Cur w b m) (hm : m ≤ 999990) (hL : L.length = k) (hk : 0 < k) (hk2 : k ≤ 1000) (hcb : c ≠ b) (hr : RdI w (some ⟨c, 0, none⟩) L) :
    Calls Try.prog 84 #[.pointer (some ⟨b, 0, none⟩), .slice (some ⟨c, 0, none⟩) k cap] w
    fun e w' => (∃ x : Int, x ∈ L ∧ e = .returned (.int .i64 x)) ∧ Cur w' b (m + 2) ∧ OnlyC b w w' := by
  have HN := Lib.hid (pick_any (k : Int) b m w h hm)
  have HR := Lib.hid hr
  have HL := Lib.hid hL
  clear hr hL
  go_enter Try.func84, Try.ntmps84
  go_wp2_with (
    go_at_call 65
    refine HN.out.mono ?_
    rintro e w1 ⟨⟨x, hx, hxk, rfl⟩, hc1, ho1⟩
    have hxk2 := hxk (by omega)
    have hr1 := RdI_only HR.out hcb ho1
    have hxl : x < L.length := by rw [HL.out]; omega
    have hcell : w1.cell? ⟨c, x, none⟩ = some (.int .i64 (L.getD x 0)) := by
      rcases hr1 with h9 | ⟨c', o', he, hlt, hcell⟩
      · rw [h9] at hxl; simp at hxl
      · have he' : c = c' ∧ 0 = o' := by simpa using he
        obtain ⟨rfl, rfl⟩ := he'
        simpa using hcell x hxl
    clear hr1 hxk)
  go_ret
  exact ⟨⟨_, List.getElem_mem hxl, rfl⟩, hc1, ho1⟩
/-- The reader, and that no old block but its own has changed since w0. -/
def CurO (w0 w : World) (b m : Nat) : Prop := Cur w b m ∧ OnlyC b w0 w
theorem CurO.start {w : World} {b m : Nat} (h : Cur w b m) : CurO w w b m := ⟨h, OnlyC.refl _ _⟩
theorem CurO.then {w0 w w' : World} {b m : Nat} (h : CurO w0 w b m) (k : Below w.heap.size w w') : CurO w0 w' b m := ⟨h.1.below k, h.2.then k⟩
theorem CurO.alloc {w0 w : World} {b m : Nat} (h : CurO w0 w b m) (o : Obj) : CurO w0 (w.alloc o) b m := h.then (Go.Joins.below_alloc1 _ _)
theorem CurO.mono {w0 w : World} {b m m' : Nat} (h : CurO w0 w b m) (hm : m ≤ m') : CurO w0 w b m' := ⟨h.1.mono hm, h.2⟩
theorem RdI_new (W : World) (L : List Int) (T : TypeId) : RdI (W.alloc (.cells (L.map (Value.int .i64)).toArray T)) (some ⟨W.heap.size, 0, none⟩) L := by
  refine .inr ⟨W.heap.size, 0, rfl, by simp, fun j hj => ?_⟩
  rw [Nat.zero_add, World.cell?_alloc_at _ _ _ _ rfl]
  simp [hj]
theorem pickO (n : Int) {w0 W : World} {b m : Nat} (h : CurO w0 W b m) (hm : m ≤ 999990) : Calls Try.prog 65 #[.pointer (some ⟨b, 0, none⟩), .int .i64 n] W
    fun e w' => (∃ x : Nat, x < 65536 ∧ (1 ≤ n → (x : Int) < n) ∧ e = .returned (.int .i64 x)) ∧ CurO w0 w' b (m + 2) :=
  (pick_any n b m W h.1 hm).mono fun e w' k => ⟨k.1, k.2.1, h.2.trans k.2.2⟩
theorem oneO (n : Int) {w0 W : World} {b m : Nat} (h : CurO w0 W b m) (hm : m ≤ 999990) : Calls Try.prog 64 #[.pointer (some ⟨b, 0, none⟩), .int .i64 n] W
    fun e w' => (∃ q : Bool, e = .returned (.bool q)) ∧ CurO w0 w' b (m + 2) :=
  (one_any n b m W h.1 hm).mono fun e w' k => ⟨k.1, k.2.1, h.2.trans k.2.2⟩
theorem amongO (L : List Int) (T : TypeId) {w0 W : World} {b m : Nat} (h : CurO w0 W b m) (hm : m ≤ 999990) (hL : 0 < L.length) (hL2 : L.length ≤ 1000) :
    Calls Try.prog 84 #[.pointer (some ⟨b, 0, none⟩), .slice (some ⟨W.heap.size, 0, none⟩) L.length L.length] (W.alloc (.cells (L.map (Value.int .i64)).toArray T))
    fun e w' => (∃ x : Int, x ∈ L ∧ e = .returned (.int .i64 x)) ∧ CurO w0 w' b (m + 2) :=
  (among_any W.heap.size L.length L.length L b m _ (h.alloc _).1 hm rfl hL hL2 (by have := h.1.lt; omega) (RdI_new W L T)).mono fun e w' k => ⟨k.1, k.2.1, (h.alloc _).2.trans k.2.2⟩
def isI : Value → Bool
  | .int .i64 _ => true
  | _ => false
theorem isI_all (l : List Value) (h : l.all isI = true) : (l.map intOf).map (Value.int .i64) = l := by
  induction l with
  | nil => rfl
  | cons a l ih =>
    simp only [List.all_cons, Bool.and_eq_true] at h
    simp only [List.map_cons]
    rw [ih h.2]
    congr 1
    have h1 := h.1
    unfold isI at h1
    split at h1
    · rfl
    · cases h1
/-- One of some numbers that are written out. -/
theorem amongA (A : Array Value) (k : Nat) (T : TypeId) {w0 W : World} {b m : Nat} (h : CurO w0 W b m) (hm : m ≤ 999990) (hk : A.size = k) (hk0 : 0 < k) (hk1 : k ≤ 1000) (hA : A.toList.all isI = true) :
    Calls Try.prog 84 #[.pointer (some ⟨b, 0, none⟩), .slice (some ⟨W.heap.size, 0, none⟩) k k] (W.alloc (.cells A T))
    fun e w' => (∃ x : Int, x ∈ A.toList.map intOf ∧ e = .returned (.int .i64 x)) ∧ CurO w0 w' b (m + 2) := by
  have hl : (A.toList.map intOf).length = k := by rw [List.length_map]; exact hk
  have h2 := amongO (A.toList.map intOf) T h hm (by omega) (by omega)
  rw [isI_all _ hA, hl] at h2
  exact h2
/-- The same, with the block's number as the walk writes it. -/
theorem amongB (g : Nat) (A : Array Value) (k : Nat) (T : TypeId) {w0 W : World} {b m : Nat} (h : CurO w0 W b m) (hg : g = W.heap.size) (hm : m ≤ 999990) (hk : A.size = k) (hk0 : 0 < k) (hk1 : k ≤ 1000) (hA : A.toList.all isI = true) :
    Calls Try.prog 84 #[.pointer (some ⟨b, 0, none⟩), .slice (some ⟨g, 0, none⟩) k k] (W.alloc (.cells A T))
    fun e w' => (∃ x : Int, x ∈ A.toList.map intOf ∧ e = .returned (.int .i64 x)) ∧ CurO w0 w' b (m + 2) := by
  subst hg; exact amongA A k T h hm hk hk0 hk1 hA
theorem results_three {fn : Func} {t u v : Tmp} (h : fn.results = #[.tmp t, .tmp u, .tmp v]) (tmps : Array Value) (P : Program) (w : World) :
    (results fn tmps).run P w = .ok (.tuple #[tmps.getD t undef, tmps.getD u undef, tmps.getD v undef]) w := by simp [results, h]
theorem results_four {fn : Func} {t u v x : Tmp} (h : fn.results = #[.tmp t, .tmp u, .tmp v, .tmp x]) (tmps : Array Value) (P : Program) (w : World) :
    (results fn tmps).run P w = .ok (.tuple #[tmps.getD t undef, tmps.getD u undef, tmps.getD v undef, tmps.getD x undef]) w := by simp [results, h]
/-- A reader is made of a code. -/
theorem Cur_new (w : World) (ao : Option Addr) (n cap : Nat) (T : TypeId) (h : RdY w ao n) : CurO w (w.alloc (.cells #[.slice ao n cap, .int .i64 0, .int .u64 0] T)) w.heap.size 0 := by
  refine ⟨⟨by simp, ao, n, cap, 0, 0, Nat.le_refl _, World.cell?_alloc_at _ _ _ _ rfl, World.cell?_alloc_at _ _ _ _ rfl, World.cell?_alloc_at _ _ _ _ rfl, fun j => World.frozen?_alloc_at _ _ _ _ rfl, h.1, ?_⟩, OnlyC.of (Go.Joins.below_alloc1 _ _)⟩
  rcases h.2 with h | ⟨c, o, rfl, hc, hx⟩
  · exact .inl h
  · refine .inr ⟨c, o, rfl, by simp; omega, by omega, fun j hj => ?_⟩
    obtain ⟨x, hx1, hx2⟩ := hx j hj
    exact ⟨x, hx1, ((Go.Joins.below_alloc1 w _).cell (p := ⟨c, o + j, none⟩) hc).trans hx2⟩
/-- What is changed behind a reader that was made is new. -/
theorem CurO.new {w w' : World} {m : Nat} (h : CurO w w' w.heap.size m) : Below w.heap.size w w' := ⟨h.2.1, h.2.2.1, h.2.2.2.1, h.2.size, fun k hk => h.2.2.2.2.2 k hk (by omega)⟩
/-- What a call of the reader's has appended to slices of its own changes nothing else. -/
theorem CurO.appended {w0 w w' : World} {b m B : Nat} (h : CurO w0 w b m) (k : Below B w w') (hB : w0.heap.size ≤ B) (hb : b < B) (hB2 : B ≤ w.heap.size) : CurO w0 w' b m := by
  obtain ⟨⟨h1, ao, n, cap, p, s, h2, h3, h4, h5, h6, h7, h8⟩, ho⟩ := h
  refine ⟨⟨Nat.lt_of_lt_of_le h1 k.size, ao, n, cap, p, s, h2, (k.cell (p := ⟨b, 0, none⟩) hb).trans h3, (k.cell (p := ⟨b, 1, none⟩) hb).trans h4, (k.cell (p := ⟨b, 2, none⟩) hb).trans h5, fun j => (k.frozen (p := ⟨b, j, none⟩) hb).trans (h6 j), h7, ?_⟩, ?_⟩
  · rcases h8 with h8 | ⟨c, o, rfl, hc, hn, hx⟩
    · exact .inl h8
    · exact .inr ⟨c, o, rfl, Nat.lt_of_lt_of_le hc k.size, hn, fun j hj => by
        obtain ⟨x, hx1, hx2⟩ := hx j hj
        exact ⟨x, hx1, (k.cell (p := ⟨c, o + j, none⟩) (by show c < B; omega)).trans hx2⟩⟩
  · exact ⟨k.os.trans ho.1, k.tape.trans ho.2.1, k.output.trans ho.2.2.1, Nat.le_trans ho.size k.size, fun i hi hn => (k.block i (by omega)).trans (ho.2.2.2.2 i hi hn)⟩
theorem CurO.trans {w0 w1 w2 : World} {b m m' : Nat} (h : CurO w0 w1 b m) (k : CurO w1 w2 b m') : CurO w0 w2 b m' := ⟨k.1, h.2.trans k.2⟩
theorem CurO.self {w0 w : World} {b m : Nat} (h : CurO w0 w b m) : CurO w w b m := ⟨h.1, OnlyC.refl _ _⟩
/-- What is owned above the reader stays. -/
theorem ownsG_onlyC {w w' : World} {b B : Nat} {e : TypeId} {size : Nat} {v : Value} {n : Nat} {xs : List Value} (h : ownsG w B e size v n xs) (hb : b < B) (ho : OnlyC b w w') : ownsG w' B e size v n xs := by
  rcases h with h | h
  · refine .inl ⟨h.1, ?_⟩
    rcases h.2 with h2 | ⟨g, cap, cur, rfl, hBg, hg, r⟩
    · exact .inl h2
    · exact .inr ⟨g, cap, cur, rfl, hBg, by rw [ho.2.2.2.2 g (Array.getElem?_eq_some_iff.1 hg).1 (by omega)]; exact hg, r⟩
  · exact .inr h
theorem ownsInts_new (W : World) (L : List Int) (B : Nat) (hB : B ≤ W.heap.size) (hL : L.length ≤ 1000) : ownsInts (W.alloc (.cells (L.map (Value.int .i64)).toArray 3)) B (.slice (some ⟨W.heap.size, 0, none⟩) L.length L.length) L := by
  have h := World.ownsRow_lit (base := B) (e := 3) (size := 1) W (L.map (Value.int .i64)).toArray L.length hB (by unfold maxLen; omega) (by simp)
  refine .inl ?_
  simpa using h
end Go.Proofs.Ytjcbffkdemadnaa
