/- Contracts of the functions that make the row of a number. -/
import Derived.Test.YtfdmcnnjifggnabGreatDoorItoa
import Derived.Test.YtfdmcnnjifggnabGreatDoorDigit
import Derived.Test.YtfdmcnnjifggnabGreatDoorLetters
import Derived.Lib.Hide
import Derived.Lib.OthersKept
namespace Go.Proofs.YtfdmcnnjifggnabGreatDoor
open Go.RowKit

/-- The digits of a number. -/
def digL (u : Nat) : List Nat := if h : u < 10 then [u] else digL (u / 10) ++ [u % 10]
termination_by u
decreasing_by omega
/-- The row that shows a number. -/
def rowN (u : Nat) : List Int := (digL u).map fun d => (digC d : Int)
theorem digL_lt (u : Nat) : ∀ d ∈ digL u, d < 10 := by
  induction u using Nat.strongRecOn with
  | _ u ih =>
    intro d hd
    unfold digL at hd
    by_cases h : u < 10
    · rw [dif_pos h] at hd
      simp at hd
      omega
    · rw [dif_neg h, List.mem_append] at hd
      rcases hd with hd | hd
      · exact ih (u / 10) (by omega) d hd
      · simp at hd
        omega
theorem decDigits_digL (u : Nat) : Lib.decDigits u = (digL u).map fun d => UInt8.ofNat (48 + d) := by
  induction u using Nat.strongRecOn with
  | _ u ih =>
    unfold digL
    by_cases h : u < 10
    · rw [Lib.decDigits_one h, dif_pos h]; rfl
    · rw [Lib.decDigits, dif_neg h, dif_neg h, ih (u / 10) (by omega), List.map_append]; rfl
theorem digL_length (u k : Nat) (hk : 0 < k) (h : u < 10 ^ k) : (digL u).length ≤ k ∧ 0 < (digL u).length := by
  induction k generalizing u with
  | zero => omega
  | succ k ih =>
    unfold digL
    by_cases h1 : u < 10
    · rw [dif_pos h1]; simp
    · rw [dif_neg h1]
      have hk0 : 0 < k := by
        rcases k with _ | k
        · simp at h; omega
        · omega
      have := ih (u / 10) hk0 (by rw [Nat.pow_succ] at h; omega)
      simp
      omega
theorem rowN_cells (u : Nat) : ∀ x ∈ rowN u, inB 0 127 x = true := by
  intro x hx
  unfold rowN at hx
  obtain ⟨d, hd, rfl⟩ := List.mem_map.1 hx
  have := digC_lt d
  rw [inB_iff]
  omega
theorem rowN_last (u : Nat) : rowN u = (if u < 10 then [] else rowN (u / 10)) ++ [(digC (u % 10) : Int)] := by
  unfold rowN
  rw [digL]
  by_cases h : u < 10
  · rw [dif_pos h, if_pos h, Nat.mod_eq_of_lt h]; rfl
  · rw [dif_neg h, if_neg h, List.map_append]; rfl
set_option maxRecDepth 100000 in
theorem digAgg32 (d : Nat) (hd : d < 10) (w : World) : (Instr.index 69 (.agg #[.int .i64 63, .int .i64 6, .int .i64 91, .int .i64 79, .int .i64 102, .int .i64 109, .int .i64 125, .int .i64 7, .int .i64 127, .int .i64 111]) (.int .i32 (d : Int))).run Tryz.prog w = .ok (.int .i64 (digC d)) w := by
  match d, hd with
  | 0, _ => rfl
  | 1, _ => rfl
  | 2, _ => rfl
  | 3, _ => rfl
  | 4, _ => rfl
  | 5, _ => rfl
  | 6, _ => rfl
  | 7, _ => rfl
  | 8, _ => rfl
  | 9, _ => rfl
  | n + 10, h => omega
theorem ownsG_other {w w' : World} {B : Nat} {e : TypeId} {size : Nat} {v : Value} {n : Nat} {xs : List Value} (h : ownsG w B e size v n xs) (hk : ∀ k, B ≤ k → w'.heap[k]? = w.heap[k]?) : ownsG w' B e size v n xs := by
  rcases h with h | h
  · refine .inl ⟨h.1, ?_⟩
    rcases h.2 with h2 | ⟨g', cap', cur, hv, hBg, hg, r⟩
    · exact .inl h2
    · exact .inr ⟨g', cap', cur, hv, hBg, by rw [hk g' hBg]; exact hg, r⟩
  · exact .inr h
set_option maxHeartbeats 2000000 in
set_option maxRecDepth 100000 in
theorem rowOf_any (n : Nat) (hn : n < 1000000) (w : World) (htab : Lib.TabIs Tryz.prog w "internal/strconv.uint64pow10" .u64 Lib.pow10Tab) :
    Calls Tryz.prog 49 #[.int .i64 n] w (RetIntsL (rowN n) w) := by
  have HI := Lib.hid (Itoa_any (n : Int) (by omega) (by omega) w htab)
  rw [Lib.itoa_nonneg, decDigits_digL] at HI
  have hlen : (rowN n).length = (digL n).length := by simp [rowN]
  have h6 := digL_length n 6 (by omega) hn
  have hlt := digL_lt n
  have hat : ∀ p, p < (digL n).length → (rowN n).getD p 0 = ((digC ((digL n).getD p 0) : Nat) : Int) := fun p hp => by
    simp [rowN, hp]
  generalize hS : (⟨((digL n).map fun d => UInt8.ofNat (48 + d)).toArray⟩ : ByteArray) = S at HI
  have hsz : S.size = (digL n).length := by rw [← hS]; simp [ByteArray.size]
  have hch : ∀ p (h : p < S.size), (S[p]'h).toNat = 48 + (digL n).getD p 0 := fun p h => by
    have hp : p < (digL n).length := by rw [← hsz]; exact h
    have e : S[p]'h = UInt8.ofNat (48 + (digL n).getD p 0) := by
      subst hS
      show ((List.map (fun d => UInt8.ofNat (48 + d)) (digL n)).toArray)[p]'_ = _
      simp [hp]
    have := hlt ((digL n).getD p 0) (by rw [List.getD_eq_getElem?_getD, List.getElem?_eq_getElem hp]; exact List.getElem_mem _)
    rw [e, UInt8.toNat_ofNat']
    omega
  have hd10 : ∀ p, p < (digL n).length → (digL n).getD p 0 < 10 := fun p hp => hlt _ (by rw [List.getD_eq_getElem?_getD, List.getElem?_eq_getElem hp]; exact List.getElem_mem _)
  clear hS hlt
  generalize digL n = D at *
  generalize rowN n = L at *
  have HCh := Lib.hid hch
  have HAt := Lib.hid hat
  have HD := Lib.hid hd10
  have HSz := Lib.hid hsz
  have HLen := Lib.hid hlen
  clear hch hat hd10 hsz hlen htab
  obtain ⟨m, hm⟩ : ∃ m, D.length = m := ⟨_, rfl⟩
  have HM := Lib.hid hm
  have hm6 : m ≤ 6 := by omega
  clear hm h6
  have hA1 := @cellAlloc; have hA2 := @frozenAlloc; have hA3 := @setCellAlloc; go_enter Tryz.func49, Tryz.ntmps49
  go_wp2_with (first | (go_at_call 81; refine HI.out.mono ?_; rintro e w1 ⟨rfl, hb1⟩))
  have hk0 : (w1.iter S 0).heap[w1.heap.size]? = some (.stringIter S 0) := World.iter_heap w1 S 0
  have hbi : Below w.heap.size w (w1.iter S 0) := belowThen hb1 (Go.Joins.below_alloc1 _ _)
  have hs0 : w1.heap.size + 1 ≤ (w1.iter S 0).heap.size := by simp [World.iter]
  go_loopw [3] (fun v wr => ∃ pos : Nat, pos ≤ m ∧ wr.heap[w1.heap.size]? = some (.stringIter S pos) ∧ ownsInts wr (w1.heap.size + 1) v (L.take pos) ∧ w1.heap.size + 1 ≤ wr.heap.size ∧ Below w.heap.size w wr) (fun _ wr => m - wr.iterPos w1.heap.size)
  case atStart => exact ⟨0, by omega, hk0, by first | exact ownsInts_nil _ _ | (simpa using ownsInts_nil _ _), hs0, hbi⟩
  case round =>
    obtain ⟨pos, hps, hk, hown, hsr, hbw⟩ := hrel
    have hmu : wr.iterPos w1.heap.size = pos := by simp [World.iterPos, hk]
    clear hk0 hbi hs0
    have hsize : S.size = m := by rw [HSz.out, HM.out]
    by_cases hp : pos < m
    · have hpS : pos < S.size := by omega
      have hd := HD.out pos (by rw [HM.out]; exact hp)
      have hc := HCh.out pos hpS
      have hL := HAt.out pos (by rw [HM.out]; exact hp)
      generalize D.getD pos 0 = d at hd hc hL
      have hnext : ∀ ty, (Instr.next (.pointer (some ⟨w1.heap.size, 0, none⟩)) true ty).run Tryz.prog wr = _ := fun ty => Lib.run_next_ascii_at wr w1.heap.size S pos ty hk hpS (by omega)
      rw [show (((S[pos]'hpS).toNat : Nat) : Int) = (d : Int) + 48 by omega] at hnext
      have hk1 := Lib.iterAt_heap wr w1.heap.size S pos (pos + 1) hk
      have hb0 : Below w.heap.size w (wr.iterAt w1.heap.size S (pos + 1)) := Lib.below_iterAt hbw hb1.size S (pos + 1)
      have ho1 : ownsInts (wr.iterAt w1.heap.size S (pos + 1)) (w1.heap.size + 1) _ (L.take pos) := ownsG_other hown (fun k hkk => by
        show (wr.heap.setIfInBounds w1.heap.size _)[k]? = _
        rw [Array.getElem?_setIfInBounds_ne (by omega)])
      have hsz1 : (wr.iterAt w1.heap.size S (pos + 1)).heap.size = wr.heap.size := by simp [World.iterAt]
      generalize wr.iterAt w1.heap.size S (pos + 1) = W1 at hnext hk1 hb0 ho1 hsz1
      have hidx := digAgg32 d hd
      have hsucc : L.take (pos + 1) = L.take pos ++ [((digC d : Nat) : Int)] := by
        rw [List.take_add_one, ← hL, List.getD_eq_getElem?_getD, List.getElem?_eq_getElem (by rw [HLen.out, HM.out]; exact hp)]; rfl
      have hlt : (L.take pos).length = pos := by rw [List.length_take, HLen.out, HM.out]; omega
      have HSu := Lib.hid hsucc
      generalize digC d = c at hidx HSu
      clear hsucc hc hL hown hk
      generalize L.take pos = T at HSu ho1 hlt
      obtain ⟨co0, cc0, hv0, -⟩ := ownsInts_shape ho1
      subst hv0
      have HLt := Lib.hid hlt
      clear hlt
      have hd32 : IntKind.i32.wrap ((d : Int) + 48 - 48) = (d : Int) := by rw [show (d : Int) + 48 - 48 = (d : Int) by omega]; unfold IntKind.wrap; simp [IntKind.signed, IntKind.bits]; omega
      go_wp2_with (first | (go_at_call 82; refine (digitCells_any _).mono ?_; rintro e w2 ⟨rfl, hb2⟩) | (at_builtin; go_must (refine wpAppendInt w2 (by rfl) _ _ (by rfl) (w1.heap.size + 1) _ _ (by rfl) (ownsInts_below ho1 hb2 (Nat.le_refl _)) (c : Int) (by rfl) (by rw [HLt.out]; omega) (by have := hb2.size; omega) ?_; intro co cc w4 hv4 hb4)))
      have hk2 : w2.heap[w1.heap.size]? = some (.stringIter S (pos + 1)) := (hb2.block _ (by omega)).trans hk1
      have hk4 : w4.heap[w1.heap.size]? = some (.stringIter S (pos + 1)) := (hb4.block _ (Nat.lt_succ_self _)).trans hk2
      have hs4 := hb4.size
      have hs2 := hb2.size
      go_roundw
      case rel => exact ⟨pos + 1, by omega, hk4, by rw [HSu.out]; exact hv4, by omega, (belowThen hb0 hb2).trans (hb4.mono (by have := hb1.size; omega))⟩
      case measure =>
        have hmu2 : w4.iterPos w1.heap.size = pos + 1 := by simp [World.iterPos, hk4]
        rw [hmu, hmu2]
        omega
    · have hpm : pos = m := by omega
      subst hpm
      have hnext : ∀ ty, (Instr.next (.pointer (some ⟨w1.heap.size, 0, none⟩)) true ty).run Tryz.prog wr = _ := fun ty => Lib.run_next_end_at wr w1.heap.size S pos ty hk (by omega)
      rw [List.take_of_length_le (by rw [HLen.out, HM.out]; exact Nat.le_refl _)] at hown
      obtain ⟨co, cc, rfl, -⟩ := ownsInts_shape hown
      have hdec : ∀ q, q = L.length → True := fun _ _ => trivial
      clear hdec
      go_wp2
      go_ret
      exact ⟨co, cc, rfl, ownsInts_le hown (by have := hb1.size; omega), hbw⟩
end Go.Proofs.YtfdmcnnjifggnabGreatDoor
