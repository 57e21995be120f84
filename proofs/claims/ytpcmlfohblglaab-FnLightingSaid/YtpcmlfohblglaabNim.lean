/- Rows of cells on the way to a goal, and the exclusive or of their numbers: contracts. -/
import Derived.Test.YtpcmlfohblglaabAll
import Derived.Test.YtpcmlfohblglaabValI
import Derived.Test.YtpcmlfohblglaabRow
import Derived.Lib.Hide
namespace Go.Proofs.Ytpcmlfohblglaab
open Go.RowKit

/-- The goal and the row are valid, and all cells are on the way. -/
def goodRow (R L : List Int) (m : Nat) : Bool := (orderB L && decide (0 < m)) && rowB R && R.all (fun c => wayB c L)
theorem goodRow_dig {R L : List Int} {m : Nat} (h : goodRow R L m = true) : allDig L := orderB_dig (by unfold goodRow at h; simp only [Bool.and_eq_true] at h; exact h.1.1.1)
theorem goodRow_row {R L : List Int} {m : Nat} (h : goodRow R L m = true) : rowB R = true := by unfold goodRow at h; simp only [Bool.and_eq_true] at h; exact h.1.2
theorem goodRow_mem {R L : List Int} {m : Nat} (h : goodRow R L m = true) : ∀ x ∈ R, inB 0 127 x = true ∧ wayB x L = true := by
  intro x hx
  have h1 := goodRow_row h
  unfold goodRow at h
  unfold rowB at h1
  simp only [Bool.and_eq_true, List.all_eq_true] at h h1
  exact ⟨h1.2 x hx, h.2 x hx⟩
set_option maxHeartbeats 800000 in
theorem l11Row_any (ao : Option Addr) (n cap : Nat) (R : List Int) (bo : Option Addr) (m capL : Nat) (L : List Int) (w : World) (hr : RdI w ao R) (hn : R.length = n) (hm : n ≤ maxLen) (_ : n ≤ cap) (hrL : RdI w bo L) (hnL : L.length = m) (hmL : m ≤ maxLen) (hcapL : m ≤ capL) :
    Calls Try.prog 30 #[.slice ao n cap, .slice bo m capL] w fun e w' => e = .returned (.bool (goodRow R L m)) ∧ Below w.heap.size w w' := by
  obtain ⟨res, hres⟩ : ∃ res, goodRow R L m = res := ⟨_, rfl⟩
  rw [hres]
  unfold goodRow at hres
  have HG := Lib.hid (fun W h => l11Goal_any bo m capL L W h hnL hmL hcapL)
  have hD := orderB_dig (L := L)
  have HRow := Lib.hid (fun W h => l2Row_any ao n cap R W h hn hm)
  have hat := rowB_at (L := R)
  have hln := rowB_len (L := R)
  have HN := Lib.hid hn
  have HNL := Lib.hid hnL
  rw [hn] at hat hln
  generalize hg : (orderB L && decide (0 < m)) = g at hres HG
  generalize rowB R = q at hres HRow hat hln
  clear hn hnL
  rcases g with _ | _
  · rw [Bool.false_and, Bool.false_and] at hres
    subst hres
    clear hat hln hD hg
    go_enter Try.func30, Try.ntmps30
    go_wp2_with (first | (go_at_call 45; refine (HG.out _ hrL).mono ?_; rintro e w1 ⟨rfl, hb1⟩))
    go_ret
    exact ⟨rfl, hb1⟩
  · have hD2 : allDig L := hD (by simp only [Bool.and_eq_true] at hg; exact hg.1)
    have HD := Lib.hid hD2
    clear hD hD2 hg
    rcases q with _ | _
    · rw [Bool.true_and, Bool.false_and] at hres
      subst hres
      clear hat hln
      go_enter Try.func30, Try.ntmps30
      go_wp2_with (first | (go_at_call 45; refine (HG.out _ hrL).mono ?_; rintro e w1 ⟨rfl, hb1⟩) | (go_at_call 58; refine (HRow.out _ (RdI_below hr hb1)).mono ?_; rintro e w' ⟨rfl, rfl⟩))
      go_ret
      exact ⟨rfl, hb1⟩
    · rw [Bool.true_and, Bool.true_and] at hres
      have HRes := Lib.hid hres
      have HAt := Lib.hid (hat rfl)
      have hn6 := hln rfl
      clear hat hln hres
      go_enter Try.func30, Try.ntmps30
      go_wp2_with (first | (go_at_call 45; refine (HG.out _ hrL).mono ?_; rintro e w1 ⟨rfl, hb1⟩) | (go_at_call 58; refine (HRow.out _ (RdI_below hr hb1)).mono ?_; rintro e w' ⟨rfl, rfl⟩))
      go_loopw [5] (fun i wr => ∃ k : Nat, k ≤ n ∧ i = .int .i64 k ∧ Hid ((R.take k).all (fun c => wayB c L) = true) ∧ Below w.heap.size w wr) (fun i _ => n - (intOf i).toNat)
      case atStart => exact ⟨0, by omega, rfl, rfl, hb1⟩
      case round =>
        obtain ⟨k, hk, rfl, hall, hbw⟩ := hrel
        by_cases hlt : k < n
        · rcases RdI_below hr hbw with h | ⟨b1, o1, rfl, hb1', hc1⟩
          · have := HN.out; rw [h] at this; simp at this; omega
          have hx := hc1 k (by rw [HN.out]; omega)
          have hsucc := all_take_succ (fun c => wayB c L) R k (by rw [HN.out]; omega)
          have hbad := all_bad (fun c => wayB c L) R k (by rw [HN.out]; omega)
          have hin := HAt.out k hlt
          generalize R.getD k 0 = y at hx hsucc hbad hin
          have HW := Lib.hid (fun W h => l11Way_any y hin bo m capL L W h HNL.out hmL HD.out)
          generalize wayB y L = t at hsucc hbad HW
          clear hc1 hin
          rcases t with _ | _
          · have h2 := HRes.out
            rw [hbad rfl] at h2
            subst h2
            clear hbad hsucc
            go_wp2_with (first | (go_at_call 47; refine (HW.out _ (RdI_below hrL hbw)).mono ?_; rintro e w2 ⟨rfl, hb2⟩))
            go_ret
            exact ⟨rfl, belowThen hbw hb2⟩
          · have HS := Lib.hid hsucc
            clear hbad hsucc
            go_wp2_with (first | (go_at_call 47; refine (HW.out _ (RdI_below hrL hbw)).mono ?_; rintro e w2 ⟨rfl, hb2⟩))
            go_roundw
            case rel => exact ⟨k + 1, by omega, by go_num, (by show _ = _; rw [HS.out, hall.out]; rfl), belowThen hbw hb2⟩
            case measure => simp [intOf]; omega
        · have hkn : k = n := by omega
          subst hkn
          have hall' := hall.out
          rw [List.take_of_length_le (by rw [HN.out]; omega)] at hall'
          have h2 := HRes.out
          rw [hall'] at h2
          subst h2
          clear hall hall'
          go_wp2
          go_ret
          exact ⟨rfl, hbw⟩
theorem enters_rowWay : Enters 55 := fun _ _ => by simp [go_sem, Try.func55]
theorem rowWayFn_any (c : Int) (b : Nat) (bo : Option Addr) (m capL : Nat) (L : List Int) (w : World) (hb : b < w.heap.size) (hcell : w.cell? ⟨b, 0, none⟩ = some (.slice bo m capL)) (hrL : RdI w bo L) (hnL : L.length = m) (hmL : m ≤ maxLen) (hD : allDig L) :
    Calls Try.prog 55 #[.int .i64 c, .pointer (some ⟨b, 0, none⟩)] w fun e w' => e = .returned (.bool (wayB c L)) ∧ Below w.heap.size w w' := by
  have HW := Lib.hid (isOnWay_any c bo m capL L w hrL hnL hmL hD)
  clear hrL hnL hD
  have hA1 := @cellAlloc; have hA2 := @frozenAlloc; have hA3 := @setCellAlloc; go_enter Try.func55, Try.ntmps55
  go_wp2_with (first | (go_at_call 44; refine HW.out.mono ?_; rintro e w2 ⟨rfl, hb2⟩))
  go_ret
  exact ⟨rfl, hb2⟩
set_option maxHeartbeats 800000 in
theorem isPlayableRow_any (ao : Option Addr) (n cap : Nat) (R : List Int) (bo : Option Addr) (m capL : Nat) (L : List Int) (w : World) (hr : RdI w ao R) (hn : R.length = n) (hm : n ≤ maxLen) (_ : n ≤ cap) (hrL : RdI w bo L) (hnL : L.length = m) (hmL : m ≤ maxLen) (hcapL : m ≤ capL) :
    Calls Try.prog 26 #[.slice ao n cap, .slice bo m capL] w fun e w' => e = .returned (.bool (goodRow R L m)) ∧ Below w.heap.size w w' := by
  have hmf : ∀ (fn : Fn) (first cap : Array Value) (w : World), (Instr.makeFunc fn first cap).run Try.prog w = .ok (.func fn first cap) w := fun _ _ _ _ => rfl
  obtain ⟨res, hres⟩ : ∃ res, goodRow R L m = res := ⟨_, rfl⟩
  rw [hres]
  unfold goodRow at hres
  have HG := Lib.hid (fun W h => IsGoalI_any bo m capL L W h hnL hmL hcapL)
  have hD := orderB_dig (L := L)
  have HRow := Lib.hid (fun W h => IsRow_any ao n cap R W h hn hm)
  have HN := Lib.hid hn
  have HNL := Lib.hid hnL
  generalize hg : (orderB L && decide (0 < m)) = g at hres HG
  generalize rowB R = q at hres HRow
  have hr0 : ∀ t, RdI (w.alloc (.cells #[.slice bo m capL] t)) ao R := fun t => RdI_below hr (Go.Joins.below_alloc1 _ _)
  have hrL0 : ∀ t, RdI (w.alloc (.cells #[.slice bo m capL] t)) bo L := fun t => RdI_below hrL (Go.Joins.below_alloc1 _ _)
  clear hn hnL hr hrL
  rcases g with _ | _
  · rw [Bool.false_and, Bool.false_and] at hres
    subst hres
    clear hD hg
    have hA1 := @cellAlloc; have hA2 := @frozenAlloc; have hA3 := @setCellAlloc; go_enter Try.func26, Try.ntmps26
    go_wp2_with (first | (go_at_call 20; refine (HG.out _ (hrL0 _)).mono ?_; rintro e w' ⟨rfl, rfl⟩))
    go_ret
    exact ⟨rfl, Go.Joins.below_alloc1 _ _⟩
  · have hD2 : allDig L := hD (by simp only [Bool.and_eq_true] at hg; exact hg.1)
    have HD := Lib.hid hD2
    clear hD hD2 hg
    rcases q with _ | _
    · rw [Bool.true_and, Bool.false_and] at hres
      subst hres
      have hA1 := @cellAlloc; have hA2 := @frozenAlloc; have hA3 := @setCellAlloc; go_enter Try.func26, Try.ntmps26
      go_wp2_with (first | (go_at_call 20; refine (HG.out _ (hrL0 _)).mono ?_; rintro e w' ⟨rfl, rfl⟩) | (go_at_call 53; refine (HRow.out _ (hr0 _)).mono ?_; rintro e w1 ⟨rfl, hb1⟩))
      go_ret
      exact ⟨rfl, belowThen (Go.Joins.below_alloc1 _ _) hb1⟩
    · rw [Bool.true_and, Bool.true_and] at hres
      subst hres
      have hF : ∀ (t : TypeId) (w1 : World), Below (w.alloc (.cells #[.slice bo m capL] t)).heap.size (w.alloc (.cells #[.slice bo m capL] t)) w1 → ∀ (x : Int) (W : World), x ∈ R → Below w1.heap.size w1 W → Calls Try.prog 55 #[.int .i64 x, .pointer (some ⟨w.heap.size, 0, none⟩)] W fun e w' => e = .returned (.bool (wayB x L)) ∧ Below W.heap.size W w' := by
        intro t w1 h1 x W _ h2
        have h3 := belowThen h1 h2
        have hs := h3.size
        rw [heapAlloc] at hs
        exact rowWayFn_any x w.heap.size bo m capL L W (by omega) ((h3.cell (p := ⟨w.heap.size, 0, none⟩) (by simp)).trans (World.cell?_alloc_at _ _ _ _ rfl)) (RdI_below (hrL0 t) h3) HNL.out hmL HD.out
      have HF := Lib.hid hF
      clear hF
      have hA1 := @cellAlloc; have hA2 := @frozenAlloc; have hA3 := @setCellAlloc; go_enter Try.func26, Try.ntmps26
      go_wp2_with (first | (go_at_call 20; refine (HG.out _ (hrL0 _)).mono ?_; rintro e w' ⟨rfl, rfl⟩) | (go_at_call 53; refine (HRow.out _ (hr0 _)).mono ?_; rintro e w1 ⟨rfl, hb1⟩) | (go_at_call 54; refine (areAllC_any 55 (.pointer (some ⟨w.heap.size, 0, none⟩)) (fun c => wayB c L) _ _ _ R _ (RdI_below (hr0 _) hb1) HN.out hm enters_rowWay (HF.out _ w1 hb1)).mono ?_; rintro e w2 ⟨rfl, hb2⟩))
      go_ret
      exact ⟨rfl, belowThen (Go.Joins.below_alloc1 _ _) (belowThen hb1 hb2)⟩
/-- The number of a cell. -/
def numC (L : List Int) (c : Int) : Nat := (valC L knF c.toNat).num
theorem numC_lt (L : List Int) (c : Int) (h : inB 0 127 c = true) : numC L c < 8 := by
  rw [inB_iff] at h
  have := known_num_le L c.toNat (by omega)
  unfold numC; omega
/-- The exclusive or of the numbers of the first k cells. -/
def nimP (L R : List Int) (k : Nat) : Nat := (R.take k).foldl (fun s c => s ^^^ numC L c) 0
def nimN (L R : List Int) : Nat := nimP L R R.length
theorem nimP_succ (L R : List Int) (k : Nat) (h : k < R.length) : nimP L R (k + 1) = nimP L R k ^^^ numC L (R.getD k 0) := by
  unfold nimP
  rw [List.take_add_one, List.getElem?_eq_getElem h, List.foldl_append, List.getD_eq_getElem?_getD, List.getElem?_eq_getElem h]
  rfl
theorem nimP_lt (L R : List Int) (hR : ∀ x ∈ R, inB 0 127 x = true) (k : Nat) : nimP L R k < 8 := by
  unfold nimP
  have : ∀ (l : List Int) (s : Nat), (∀ x ∈ l, inB 0 127 x = true) → s < 8 → l.foldl (fun s c => s ^^^ numC L c) s < 8 := by
    intro l
    induction l with
    | nil => intro s _ hs; exact hs
    | cons a l ih => intro s hl hs; exact ih _ (fun x hx => hl x (List.mem_cons_of_mem _ hx)) (Nat.xor_lt_two_pow (n := 3) hs (numC_lt L a (hl a List.mem_cons_self)))
  exact this _ 0 (fun x hx => hR x (List.mem_of_mem_take hx)) (by decide)
theorem memGetD {R : List Int} {k : Nat} (h : k < R.length) : R.getD k 0 ∈ R := by
  have e : R.getD k 0 = R[k] := by rw [List.getD_eq_getElem?_getD, List.getElem?_eq_getElem h]; rfl
  rw [e]; exact List.getElem_mem _
set_option maxHeartbeats 400000 in
theorem l11Sum_any (ao : Option Addr) (n cap : Nat) (R L : List Int) (g : Nat) (w : World) (hr : RdI w ao R) (hn : R.length = n) (hm : n ≤ maxLen) (hR : ∀ x ∈ R, inB 0 127 x = true) (hall : AllOwn w g L) :
    Calls Try.prog 31 #[.slice ao n cap, .slice (some ⟨g, 0, none⟩) 128 128] w fun e w' => e = .returned (.int .i64 (nimN L R)) ∧ w = w' := by
  unfold maxLen at hm
  have HN := Lib.hid hn
  have HR := Lib.hid hR
  clear hR
  go_enter Try.func31, Try.ntmps31
  go_wp2
  go_loop [5, 6] (fun s i => ∃ k : Nat, k ≤ n ∧ i = .int .i64 k ∧ s = .int .i64 (nimP L R k)) (fun _ i => n - (intOf i).toNat)
  case atStart => exact ⟨0, by omega, rfl, rfl⟩
  case round =>
    obtain ⟨k, hk, rfl, rfl⟩ := hrel
    by_cases hlt : k < n
    · rcases hr with h | ⟨b1, o1, rfl, hb1, hc1⟩
      · rw [h] at hn; simp at hn; omega
      have hx := hc1 k (by omega)
      have hlt8 := nimP_lt L R HR.out k
      have hsucc := nimP_succ L R k (by omega)
      have hin := HR.out _ (memGetD (show k < R.length by omega))
      have hn8 := numC_lt L _ hin
      generalize R.getD k 0 = y at hx hsucc hin hn8
      rw [inB_iff] at hin
      obtain ⟨C, rfl⟩ := Int.eq_ofNat_of_zero_le hin.1
      have hC : C < 128 := by omega
      have hy := (AllOwn_at hall C hC).1
      have e : (valC L knF C).num = numC L (C : Int) := rfl
      rw [e] at hy
      generalize numC L (C : Int) = v at hy hsucc hn8
      generalize nimP L R k = s at hlt8 hsucc ⊢
      have hxx := xor64 s v (by omega) (by omega)
      have HS := Lib.hid hsucc
      clear hsucc hc1 e hn hall
      go_wp2
      go_round
      case rel => exact ⟨k + 1, by omega, by go_num, by rw [HS.out]⟩
      case measure => simp [intOf]; omega
    · have hkn : k = n := by omega
      subst hkn
      have e : nimN L R = nimP L R k := by unfold nimN; rw [hn]
      have HE := Lib.hid e
      clear e hn
      go_wp2
      go_ret
      exact ⟨by rw [HE.out]; rfl, rfl⟩
theorem enters_least : Enters 29 := fun _ _ => by simp [go_sem, Try.func29]
/-- What the program's table gives at a key. -/
def tabF (L : List Int) (k : Int) : Value := if 0 ≤ k ∧ k < 128 ∧ wayB k L = true then Value.int .i64 (valC L mexI k.toNat) else (.int .i64 0)
theorem tabF_at {L : List Int} {c : Int} (h1 : inB 0 127 c = true) (h2 : wayB c L = true) : tabF L c = .int .i64 (numC L c) := by
  rw [inB_iff] at h1
  unfold tabF numC
  rw [if_pos ⟨by omega, by omega, h2⟩, known_num L c.toNat (by omega)]
set_option maxHeartbeats 400000 in
theorem nim_any (ao : Option Addr) (n cap : Nat) (R L : List Int) (b nn : Nat) (w : World) (hr : RdI w ao R) (hn : R.length = n) (hm : n ≤ maxLen) (hR : ∀ x ∈ R, inB 0 127 x = true ∧ wayB x L = true) (hmap : mapV w b nn (.int .i64 0) (tabF L)) :
    Calls Try.prog 27 #[.slice ao n cap, .map (some b)] w fun e w' => e = .returned (.int .i64 (nimN L R)) ∧ w = w' := by
  unfold maxLen at hm
  have HN := Lib.hid hn
  have HR := Lib.hid hR
  clear hR
  go_enter Try.func27, Try.ntmps27
  go_wp2
  go_loop [5, 10] (fun s i => ∃ k : Nat, k ≤ n ∧ i = .int .i64 k ∧ s = .int .i64 (nimP L R k)) (fun _ i => n - (intOf i).toNat)
  case atStart => exact ⟨0, by omega, rfl, rfl⟩
  case round =>
    obtain ⟨k, hk, rfl, rfl⟩ := hrel
    by_cases hlt : k < n
    · rcases hr with h | ⟨b1, o1, rfl, hb1, hc1⟩
      · rw [h] at hn; simp at hn; omega
      have hx := hc1 k (by omega)
      have hlt8 := nimP_lt L R (fun x hx => (HR.out x hx).1) k
      have hsucc := nimP_succ L R k (by omega)
      have hin := HR.out _ (memGetD (show k < R.length by omega))
      generalize R.getD k 0 = y at hx hsucc hin
      have hn8 := numC_lt L y hin.1
      have hf := tabF_at hin.1 hin.2
      have hin1 := hin.1
      rw [inB_iff] at hin1
      obtain ⟨C, rfl⟩ := Int.eq_ofNat_of_zero_le hin1.1
      have hC : C < 128 := by omega
      generalize numC L (C : Int) = v at hf hsucc hn8
      generalize nimP L R k = s at hlt8 hsucc ⊢
      have hxx := xor64 s v (by omega) (by omega)
      have HS := Lib.hid hsucc
      have HFx := Lib.hid hf
      clear hsucc hc1 hn hf hin hin1
      go_wp2_with (at_lookup; refine wpLookVI _ (by rfl) _ _ _ (by rfl) _ (Try.underlying53) _ (by rfl) b _ _ (by rfl) hmap (C : Int) (by rfl) (wf128 C hC) (Value.int .i64 v) HFx.out ?_)
      go_round
      case rel => exact ⟨k + 1, by omega, by go_num, by rw [HS.out]⟩
      case measure => simp [intOf]; omega
    · have hkn : k = n := by omega
      subst hkn
      have e : nimN L R = nimP L R k := by unfold nimN; rw [hn]
      have HE := Lib.hid e
      clear e hn
      go_wp2
      go_ret
      exact ⟨by rw [HE.out]; rfl, rfl⟩
end Go.Proofs.Ytpcmlfohblglaab
