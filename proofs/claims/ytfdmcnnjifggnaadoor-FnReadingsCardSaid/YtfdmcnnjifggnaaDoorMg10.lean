/- Joined texts: Spell, BarA, ReadM, OwnRows. -/
import Derived.Test.YtfdmcnnjifggnaaDoorMg09
import Derived.Lib.Hide
import Derived.Test.YtfdmcnnjifggnaaDoorMg06
import Derived.Test.YtfdmcnnjifggnaaDoorMg07
import Derived.Laws.StructEq
import Derived.Test.YtfdmcnnjifggnaaDoorMg01
namespace Go.Proofs.YtfdmcnnjifggnaaDoor
open Go.RowKit

/-- The letters of a list of cells, one behind the other. -/
def wordP (L : List Int) : Nat → ByteArray
  | 0 => ⟨#[]⟩
  | k + 1 => wordP L k ++ letS (L.getD k 0)
theorem letS_size (c : Int) : (letS c).size ≤ 1 := by
  unfold letS
  split
  · rw [ByteArray.size_extract]; omega
  · exact Nat.zero_le _
theorem wordP_size (L : List Int) (k : Nat) : (wordP L k).size ≤ k := by
  induction k with
  | zero => exact Nat.le_refl _
  | succ k ih => unfold wordP; rw [ByteArray.size_append]; have := letS_size (L.getD k 0); omega
/-- All cells of the list are letters. -/
def spellB (L : List Int) : Bool := L.all letOk
def spellS (L : List Int) : ByteArray := if spellB L = true then wordP L L.length else ⟨#[]⟩
/-- The word of a row, and whether there is one. -/
def worB (L : List Int) : Bool := rowB L && spellB L
def worS (L : List Int) : ByteArray := if rowB L = true then spellS L else ⟨#[]⟩
set_option maxHeartbeats 400000 in
theorem WordOfRowI_any (ao : Option Addr) (n cap : Nat) (L : List Int) (w : World) (hr : RdI w ao L) (hn : L.length = n) (hm : n ≤ maxLen) (_ : n ≤ cap) :
    Calls Tryd.prog 23 #[.slice ao n cap] w fun e w' => e = .returned (.tuple #[.string (worS L), .bool (worB L)]) ∧ Below w.heap.size w w' := by
  unfold worS worB
  have HR := Lib.hid (IsRow_any ao n cap L w hr hn hm)
  have hlen := rowB_len (L := L)
  have HN := Lib.hid hn
  rw [hn] at hlen
  clear hn
  generalize rowB L = q at HR hlen ⊢
  rcases q with _ | _
  · clear hlen
    go_enter Tryd.func23, Tryd.ntmps23
    go_wp2_with (first | (go_at_call 8; refine HR.out.mono ?_; rintro e w1 ⟨rfl, hb1⟩))
    go_ret2
    exact ⟨rfl, hb1⟩
  · have hn6 := hlen rfl
    clear hlen
    rw [if_pos rfl, Bool.true_and]
    go_enter Tryd.func23, Tryd.ntmps23
    go_wp2_with (first | (go_at_call 8; refine HR.out.mono ?_; rintro e w1 ⟨rfl, hb1⟩))
    go_loopw [4, 14] (fun s i wr => ∃ k : Nat, k ≤ n ∧ i = .int .i64 k ∧ s = .string (wordP L k) ∧ Hid ((L.take k).all letOk = true) ∧ Below w.heap.size w wr) (fun _ i _ => n - (intOf i).toNat)
    case atStart => exact ⟨0, by omega, rfl, rfl, rfl, hb1⟩
    case round =>
      obtain ⟨k, hk, rfl, rfl, hall, hbw⟩ := hrel
      have hsz := wordP_size L k
      by_cases hlt : k < n
      · rcases RdI_below hr hbw with h | ⟨b1, o1, rfl, hb1', hc1⟩
        · have := HN.out; rw [h] at this; simp at this; omega
        have hx := hc1 k (by rw [HN.out]; omega)
        have hsucc := all_take_succ letOk L k (by rw [HN.out]; omega)
        have hbad := all_bad letOk L k (by rw [HN.out]; omega)
        have hw : wordP L (k + 1) = wordP L k ++ letS (L.getD k 0) := rfl
        generalize wordP L k = S at hsz hw ⊢
        generalize L.getD k 0 = y at hx hsucc hbad hw
        have HC := Lib.hid (fun W => LetterOfI_any y W)
        have hls := letS_size y
        clear hc1
        generalize letS y = ls at HC hw hls
        generalize letOk y = q at HC hsucc hbad
        rcases q with _ | _
        · have hres : spellB L = false := hbad rfl
          have hres2 : spellS L = ⟨#[]⟩ := by unfold spellS; rw [hres]; rfl
          have HR := Lib.hid hres
          have HR2 := Lib.hid hres2
          clear hres hres2 hbad hsucc hw
          go_wp2_with (first | (go_at_call 21; refine (HC.out _).mono ?_; rintro e w2 ⟨rfl, hb2⟩))
          go_ret2
          exact ⟨by rw [HR.out, HR2.out]; rfl, belowThen hbw hb2⟩
        · rw [Bool.and_true] at hsucc
          have HS := Lib.hid hsucc
          have HW := Lib.hid hw
          clear hsucc hbad hw
          go_wp2_with (first | (go_at_call 21; refine (HC.out _).mono ?_; rintro e w2 ⟨rfl, hb2⟩))
          go_roundw
          case rel => exact ⟨k + 1, by omega, by go_num, by rw [HW.out], (by show _ = _; rw [HS.out]; exact hall.out), belowThen hbw hb2⟩
          case measure => simp [intOf]; omega
      · have hkn : k = n := by omega
        subst hkn
        have hall' := hall.out
        rw [List.take_of_length_le (by rw [HN.out]; omega)] at hall'
        have hres : spellB L = true := hall'
        have hres2 : spellS L = wordP L k := by unfold spellS; rw [hres, if_pos rfl, HN.out]
        have HR := Lib.hid hres
        have HR2 := Lib.hid hres2
        clear hres hres2 hall hall'
        generalize wordP L k = S at *
        go_wp2
        go_ret2
        exact ⟨by rw [HR.out, HR2.out]; rfl, hbw⟩
end Go.Proofs.YtfdmcnnjifggnaaDoor

namespace Go.Proofs.YtfdmcnnjifggnaaDoor
open Go.RowKit

/-- The letter at each place of the alphabet is that of its cell. -/
theorem letP_letC : ∀ k : Fin 16, letP ((letC k.val : Nat) : Int) = (k.val : Int) := by decide +kernel
theorem abc_cut : ∀ k : Fin 16, alphaB.extract k.val (k.val + 1) = ⟨#[UInt8.ofNat (abcN.getD k.val 0)]⟩ := by decide +kernel
theorem abc_place : ∀ b : Fin 256, isL b.val = true → abcN.getD (placeN b.val) 0 = b.val := by decide +kernel
theorem abc_in : ∀ k : Fin 16, isL (abcN.getD k.val 0) = true ∧ placeN (abcN.getD k.val 0) = k.val ∧ abcN.getD k.val 0 < 256 := by decide +kernel
theorem letS_at (k : Nat) (hk : k < 16) : letOk ((letC k : Nat) : Int) = true ∧ letS ((letC k : Nat) : Int) = ⟨#[UInt8.ofNat (abcN.getD k 0)]⟩ := by
  have h := letP_letC ⟨k, hk⟩
  simp only at h
  have h2 := abc_cut ⟨k, hk⟩
  simp only at h2
  unfold letOk letS
  rw [h]
  refine ⟨by simp, ?_⟩
  rw [if_pos (by omega), Int.toNat_natCast]
  exact h2
theorem letS_byte (b : UInt8) (h : isL b.toNat = true) : letOk ((letC (placeN b.toNat) : Nat) : Int) = true ∧ letS ((letC (placeN b.toNat) : Nat) : Int) = ⟨#[b]⟩ := by
  have h1 := letS_at (placeN b.toNat) (place_of h).2
  have h2 := abc_place ⟨b.toNat, b.toNat_lt⟩ h
  simp only at h2
  rw [h2] at h1
  simpa using h1
/-- Letters one behind the other, as a list of bytes. -/
theorem wordP_list (L : List Int) (f : Int → UInt8) : ∀ k, k ≤ L.length → (∀ x ∈ L, letS x = ⟨#[f x]⟩) → (wordP L k).data.toList = (L.take k).map f := by
  intro k
  induction k with
  | zero => intro _ _; rfl
  | succ k ih =>
    intro hk hf
    have hx : L.getD k 0 = L[k]'(by omega) := by rw [List.getD_eq_getElem?_getD, List.getElem?_eq_getElem (by omega)]; rfl
    unfold wordP
    rw [ByteArray.data_append, Array.toList_append, ih (by omega) hf, hx, hf _ (List.getElem_mem _), List.take_add_one, List.getElem?_eq_getElem (by omega), List.map_append]
    rfl
theorem all_byte {s : ByteArray} (h : allIn s = true) : ∀ b ∈ s.data.toList, isL b.toNat = true := by
  unfold allIn at h
  exact fun b hb => List.all_eq_true.1 h b hb
/-- A word is the one that its row spells. -/
theorem spell_row (s : ByteArray) (h : allIn s = true) : spellB (rowW s) = true ∧ spellS (rowW s) = s := by
  have hb := all_byte h
  have hok : spellB (rowW s) = true := by
    unfold spellB rowW
    rw [List.all_eq_true]
    intro x hx
    obtain ⟨b, hb2, rfl⟩ := List.mem_map.1 hx
    exact (letS_byte b (hb b hb2)).1
  refine ⟨hok, ?_⟩
  unfold spellS
  rw [if_pos hok]
  have hl : (wordP (rowW s) (rowW s).length).data.toList = s.data.toList := by
    rw [wordP_list (rowW s) (fun x => UInt8.ofNat (abcN.getD (letP x).toNat 0)) _ (Nat.le_refl _) (fun x hx => by
      unfold rowW at hx
      obtain ⟨b, hb2, rfl⟩ := List.mem_map.1 hx
      have hp := (place_of (hb b hb2)).2
      rw [(letS_at _ hp).2]
      have h3 := letP_letC ⟨placeN b.toNat, hp⟩
      simp only at h3
      rw [h3, Int.toNat_natCast])]
    rw [List.take_of_length_le (Nat.le_refl _)]
    unfold rowW
    rw [List.map_map]
    refine (List.map_congr_left fun b hb2 => ?_).trans (List.map_id _)
    have hp := (place_of (hb b hb2)).2
    have h3 := letP_letC ⟨placeN b.toNat, hp⟩
    simp only at h3
    show UInt8.ofNat (abcN.getD (letP ((letC (placeN b.toNat) : Nat) : Int)).toNat 0) = b
    rw [h3, Int.toNat_natCast]
    have h2 := abc_place ⟨b.toNat, b.toNat_lt⟩ (hb b hb2)
    simp only at h2
    rw [h2]
    simp
  exact ByteArray.ext (Array.toList_inj.1 hl)
theorem idxFrom_hit (L : List Int) (x : Int) : ∀ n : Nat, idxFrom L x n = -1 ∨ ∃ k : Nat, k < L.length ∧ idxFrom L x n = ((n + k : Nat) : Int) ∧ L.getD k 0 = x := by
  induction L with
  | nil => intro n; exact .inl rfl
  | cons y ys ih =>
    intro n
    unfold idxFrom
    by_cases h : y = x
    · rw [if_pos h]; exact .inr ⟨0, by simp, by simp, by simpa using h⟩
    · rw [if_neg h]
      rcases ih (n + 1) with h1 | ⟨k, h1, h2, h3⟩
      · exact .inl h1
      · exact .inr ⟨k + 1, by simpa using h1, by rw [h2]; congr 1; omega, by simpa using h3⟩
/-- A cell that is a letter is the one of its place. -/
theorem letOk_cell (x : Int) (h : letOk x = true) : ∃ k : Nat, k < 16 ∧ letP x = (k : Int) ∧ x = ((letC k : Nat) : Int) := by
  unfold letOk at h
  have h0 : 0 ≤ letP x := by simpa using h
  unfold letP at h0 ⊢
  rcases idxFrom_hit letL x 0 with h1 | ⟨k, h1, h2, h3⟩
  · rw [h1] at h0; omega
  · rw [letL_length] at h1
    rw [letL_getD] at h3
    exact ⟨k, h1, by rw [h2, Nat.zero_add], h3.symm⟩
/-- A row that can be spelt is that of its word. -/
theorem row_spell (L : List Int) (h : spellB L = true) : rowW (spellS L) = L ∧ allIn (spellS L) = true ∧ (spellS L).size = L.length := by
  have hx : ∀ x ∈ L, letOk x = true := fun x hx => by unfold spellB at h; exact List.all_eq_true.1 h x hx
  have hlist : (spellS L).data.toList = L.map fun x => UInt8.ofNat (abcN.getD (letP x).toNat 0) := by
    unfold spellS
    rw [if_pos h, wordP_list L (fun x => UInt8.ofNat (abcN.getD (letP x).toNat 0)) _ (Nat.le_refl _) (fun x hm => by
      obtain ⟨k, hk, hp, he⟩ := letOk_cell x (hx x hm)
      rw [hp, Int.toNat_natCast]
      rw [he]
      exact (letS_at k hk).2), List.take_of_length_le (Nat.le_refl _)]
  have hb : ∀ x ∈ L, isL (UInt8.ofNat (abcN.getD (letP x).toNat 0)).toNat = true ∧ ((letC (placeN (UInt8.ofNat (abcN.getD (letP x).toNat 0)).toNat) : Nat) : Int) = x := fun x hm => by
    obtain ⟨k, hk, hp, he⟩ := letOk_cell x (hx x hm)
    have hi := abc_in ⟨k, hk⟩
    simp only at hi
    rw [hp, Int.toNat_natCast, UInt8.toNat_ofNat', Nat.mod_eq_of_lt (by have := hi.2.2; omega)]
    exact ⟨hi.1, by rw [hi.2.1, he]⟩
  refine ⟨?_, ?_, ?_⟩
  · unfold rowW
    rw [hlist, List.map_map]
    exact (List.map_congr_left fun x hm => (hb x hm).2).trans (List.map_id _)
  · unfold allIn
    rw [hlist, List.all_eq_true]
    intro b hm
    obtain ⟨x, hm2, rfl⟩ := List.mem_map.1 hm
    exact (hb x hm2).1
  · have := congrArg List.length hlist
    rw [List.length_map, Array.length_toList] at this
    exact this
end Go.Proofs.YtfdmcnnjifggnaaDoor

namespace Go.Proofs.YtfdmcnnjifggnaaDoor
open Go.RowKit

/-- The places of the letters of the reading k. -/
def rdG : List Int → Nat → List Nat
  | [], _ => []
  | c :: L, k => (canP c 16).getD (k / prodL L) 0 :: rdG L (k % prodL L)
def abcU (k : Nat) : UInt8 := UInt8.ofNat (abcN.getD k 0)
theorem alpha_abc : ∀ k : Fin 16, alphaL.getD k.val 0 = abcU k.val := by decide +kernel
theorem alpha_cut (k : Nat) (hk : k < 16) : (alphaB.extract k (k + 1)).data.toList = [abcU k] := by
  have h := abc_cut ⟨k, hk⟩
  simp only at h
  rw [h]
  rfl
theorem rdG_from (L : List Int) (k : Nat) (hk : k < prodL L) : ∀ i, i ≤ L.length → (rdS L k i).data.toList ++ (rdG (L.drop i) (rdK L k i)).map abcU = (rdG L k).map abcU := by
  intro i
  induction i with
  | zero => intro _; rfl
  | succ i ih =>
    intro hi
    rw [← ih (by omega)]
    have e : rdS L k (i + 1) = rdS L k i ++ alphaB.extract (rdJ L k i) (rdJ L k i + 1) := rfl
    rw [e, appB, alpha_cut _ (rdJ_lt L k hk i (by omega)), drop_cons L i (by omega), List.append_assoc]
    rfl
theorem rd_list (L : List Int) (k : Nat) (hk : k < prodL L) : (rdS L k L.length).data.toList = (rdG L k).map abcU := by
  have h := rdG_from L k hk L.length (Nat.le_refl _)
  rw [List.drop_of_length_le (Nat.le_refl _)] at h
  simpa [rdG] using h
theorem rdG_length (L : List Int) (k : Nat) : (rdG L k).length = L.length := by
  induction L generalizing k with
  | nil => rfl
  | cons c L ih => unfold rdG; rw [List.length_cons, ih, List.length_cons]
theorem getD_in {l : List Nat} {j : Nat} (h : j < l.length) : l.getD j 0 ∈ l := by
  rw [List.getD_eq_getElem?_getD, List.getElem?_eq_getElem h]; exact List.getElem_mem _
theorem prod_split (c : Int) (L : List Int) (k : Nat) (hk : k < prodL (c :: L)) : k / prodL L < canN c ∧ k % prodL L < prodL L := by
  unfold prodL at hk
  have h2 : 0 < prodL L := by
    rcases Nat.eq_zero_or_pos (prodL L) with h | h
    · rw [h, Nat.mul_zero] at hk; omega
    · exact h
  exact ⟨Nat.div_lt_of_lt_mul (by rw [Nat.mul_comm]; exact hk), Nat.mod_lt _ h2⟩
/-- Each letter is one of those that its cell can be read as. -/
theorem rdG_can (L : List Int) (k : Nat) (hk : k < prodL L) : ∀ i, i < L.length → (rdG L k).getD i 0 ∈ canP (L.getD i 0) 16 := by
  induction L generalizing k with
  | nil => intro i hi; simp at hi
  | cons c L ih =>
    intro i hi
    obtain ⟨h1, h2⟩ := prod_split c L k hk
    unfold rdG
    cases i with
    | zero => simpa using getD_in h1
    | succ i => simpa using ih _ h2 i (by simpa using hi)
theorem rdG_lt (L : List Int) (k : Nat) (hk : k < prodL L) : ∀ x ∈ rdG L k, x < 16 := by
  intro x hx
  obtain ⟨i, hi, rfl⟩ := List.getElem_of_mem hx
  have h := rdG_can L k hk i (by rw [rdG_length] at hi; exact hi)
  have e : (rdG L k).getD i 0 = (rdG L k)[i] := by rw [List.getD_eq_getElem?_getD, List.getElem?_eq_getElem hi]; rfl
  rw [e] at h
  exact canP_mem _ _ _ h
theorem abcB_nat (k : Nat) (hk : k < 16) : isL (abcU k).toNat = true ∧ placeN (abcU k).toNat = k := by
  have h := abc_in ⟨k, hk⟩
  simp only at h
  unfold abcU
  rw [UInt8.toNat_ofNat', Nat.mod_eq_of_lt (by have := h.2.2; omega)]
  exact ⟨h.1, h.2.1⟩
/-- The row of a reading. -/
theorem rd_row (L : List Int) (k : Nat) (hk : k < prodL L) : allIn (rdS L k L.length) = true ∧ (rdS L k L.length).size = L.length ∧ rowW (rdS L k L.length) = (rdG L k).map fun p => ((letC p : Nat) : Int) := by
  have hl := rd_list L k hk
  have hm := rdG_lt L k hk
  refine ⟨?_, ?_, ?_⟩
  · unfold allIn
    rw [hl, List.all_eq_true]
    intro b hb
    obtain ⟨p, hp, rfl⟩ := List.mem_map.1 hb
    exact (abcB_nat p (hm p hp)).1
  · have := congrArg List.length hl
    rw [List.length_map, Array.length_toList, rdG_length] at this
    exact this
  · unfold rowW
    rw [hl, List.map_map]
    refine List.map_congr_left fun p hp => ?_
    show ((letC (placeN (abcU p).toNat) : Nat) : Int) = _
    rw [(abcB_nat p (hm p hp)).2]
theorem ra_parts {L : List Int} {k : Int} (h : raB L k = true) : rowB L = true ∧ ∃ K : Nat, k = (K : Int) ∧ K < prodL L ∧ raS L k = rdS L K L.length := by
  have h1 := h
  unfold raB at h1
  rw [Bool.and_eq_true, inB_iff] at h1
  obtain ⟨K, rfl⟩ := Int.eq_ofNat_of_zero_le h1.2.1
  refine ⟨h1.1, K, rfl, by omega, ?_⟩
  unfold raS
  rw [if_pos h, Int.toNat_natCast]
/-- A reading is a word whose row holds the row's bars. -/
theorem reading_row {L : List Int} {k : Int} (h : raB L k = true) : wordB (raS L k) 6 = true ∧ (rowO (raS L k)).length = L.length ∧ ∀ i, i < L.length → bits .and .i64 ((rowO (raS L k)).getD i 0) (L.getD i 0) = L.getD i 0 := by
  obtain ⟨hr, K, rfl, hK, he⟩ := ra_parts h
  rw [he]
  obtain ⟨h1, h2, h3⟩ := rd_row L K hK
  have hw : wordB (rdS L K L.length) 6 = true := by
    unfold wordB
    rw [h1, h2]
    have := rowB_len hr
    simpa using this
  have ho : rowO (rdS L K L.length) = (rdG L K).map fun p => ((letC p : Nat) : Int) := by unfold rowO; rw [if_pos hw, h3]
  refine ⟨hw, by rw [ho, List.length_map, rdG_length], fun i hi => ?_⟩
  have hc := rdG_can L K hK i hi
  have hin := rowB_at hr i hi
  rw [ho]
  have e : ((rdG L K).map fun p => ((letC p : Nat) : Int)).getD i 0 = ((letC ((rdG L K).getD i 0) : Nat) : Int) := by
    have hl : i < (rdG L K).length := by rw [rdG_length]; exact hi
    rw [List.getD_eq_getElem?_getD, List.getElem?_map, List.getD_eq_getElem?_getD, List.getElem?_eq_getElem hl]
    rfl
  rw [e]
  have h4 := can_eq hin ((rdG L K).getD i 0)
  unfold canP at hc
  rw [(List.mem_filter.1 hc).2] at h4
  simpa using h4
theorem canP_sorted (c : Int) (k : Nat) : (canP c k).Pairwise (· < ·) := by
  unfold canP
  exact List.Pairwise.filter _ List.pairwise_lt_range
theorem pair_getD {l : List Nat} (h : l.Pairwise (· < ·)) {i j : Nat} (hij : i < j) (hj : j < l.length) : l.getD i 0 < l.getD j 0 := by
  rw [List.getD_eq_getElem?_getD, List.getD_eq_getElem?_getD, List.getElem?_eq_getElem hj, List.getElem?_eq_getElem (by omega : i < l.length)]
  exact List.pairwise_iff_getElem.1 h i j (by omega) hj hij
theorem abcB_lt : ∀ i j : Fin 16, i.val < j.val → abcU i.val < abcU j.val := by decide +kernel
/-- Readings stand in the order of texts. -/
theorem rdG_less (L : List Int) (k m : Nat) (hm : m < prodL L) (hkm : k < m) : Op.bytesLess ((rdG L k).map abcU) ((rdG L m).map abcU) = true := by
  induction L generalizing k m with
  | nil => unfold prodL at hm; omega
  | cons c L ih =>
    obtain ⟨h1, h2⟩ := prod_split c L m hm
    have hk : k < prodL (c :: L) := by omega
    obtain ⟨g1, g2⟩ := prod_split c L k hk
    have hpos : 0 < prodL L := by omega
    have hle : k / prodL L ≤ m / prodL L := Nat.div_le_div_right (Nat.le_of_lt hkm)
    unfold rdG
    rw [List.map_cons, List.map_cons]
    show (decide (_ < _) || (_ == _ && Op.bytesLess _ _)) = true
    rcases Nat.lt_or_eq_of_le hle with hlt | heq
    · have hp := pair_getD (canP_sorted c 16) hlt h1
      have hx := abcB_lt ⟨_, canP_mem c 16 _ (getD_in g1)⟩ ⟨_, canP_mem c 16 _ (getD_in h1)⟩ hp
      simp only at hx
      rw [decide_eq_true hx, Bool.true_or]
    · rw [heq, beq_self_eq_true, Bool.true_and, ih _ _ h2 (by
        have e1 := Nat.div_add_mod k (prodL L)
        have e2 := Nat.div_add_mod m (prodL L)
        rw [heq] at e1
        omega), Bool.or_true]
theorem less_not : ∀ a b : List UInt8, Op.bytesLess a b = true → Op.bytesLess b a = false ∧ (b == a) = false := by
  intro a
  induction a with
  | nil =>
    intro b h
    cases b with
    | nil => exact absurd h (by decide)
    | cons y b => exact ⟨rfl, rfl⟩
  | cons x a ih =>
    intro b h
    cases b with
    | nil => exact absurd h (by show ¬ (false = true); decide)
    | cons y b =>
      have h' : (decide (x < y) || (x == y && Op.bytesLess a b)) = true := h
      have e : Op.bytesLess (y :: b) (x :: a) = (decide (y < x) || (y == x && Op.bytesLess b a)) := rfl
      rw [Bool.or_eq_true, decide_eq_true_eq, Bool.and_eq_true, beq_iff_eq] at h'
      rcases h' with h1 | ⟨rfl, h1⟩
      · have h2 : ¬ y < x := fun h9 => absurd (UInt8.lt_trans h1 h9) (UInt8.lt_irrefl _)
        have h3 : ¬ y = x := fun h9 => by subst h9; exact absurd h1 (UInt8.lt_irrefl _)
        rw [e, decide_eq_false h2, Bool.false_or]
        have h4 : (y == x) = false := by rw [beq_eq_false_iff_ne]; exact h3
        rw [h4, Bool.false_and]
        refine ⟨rfl, ?_⟩
        rw [beq_eq_false_iff_ne]
        intro h9
        exact h3 (List.cons.inj h9).1
      · obtain ⟨i1, i2⟩ := ih b h1
        rw [e, decide_eq_false (UInt8.lt_irrefl _), Bool.false_or, beq_self_eq_true, Bool.true_and, i1]
        refine ⟨rfl, ?_⟩
        rw [beq_eq_false_iff_ne] at i2 ⊢
        intro h9
        exact i2 (List.cons.inj h9).2
theorem reading_next {L : List Int} {k : Int} (h : raB L k = true) (h2 : raB L (k + 1) = true) : (Op.bytesLess (raS L (k + 1)).toList (raS L k).toList || (raS L (k + 1)).toList == (raS L k).toList) = false := by
  obtain ⟨_, K, rfl, hK, he⟩ := ra_parts h
  obtain ⟨_, M, hM0, hM, he2⟩ := ra_parts h2
  have hl := rdG_less L K M hM (by omega)
  rw [← rd_list L K hK, ← rd_list L M hM, ← he, ← he2] at hl
  rw [ByteArray.toList_eq, ByteArray.toList_eq]
  obtain ⟨h3, h4⟩ := less_not _ _ hl
  rw [h3, h4]; rfl
theorem can_self : ∀ k : Fin 16, canB ((letC k.val : Nat) : Int) k.val = true := by decide +kernel
/-- A row that spells a word has readings, and if it has one reading, that is the word. -/
theorem spell_can (L : List Int) (h : spellB L = true) : ∀ i, i < L.length → ∃ k : Nat, k < 16 ∧ letP (L.getD i 0) = (k : Int) ∧ k ∈ canP (L.getD i 0) 16 := by
  intro i hi
  have hx : letOk (L.getD i 0) = true := by
    unfold spellB at h
    refine List.all_eq_true.1 h _ ?_
    rw [List.getD_eq_getElem?_getD, List.getElem?_eq_getElem hi]; exact List.getElem_mem _
  obtain ⟨k, hk, hp, he⟩ := letOk_cell _ hx
  refine ⟨k, hk, hp, ?_⟩
  unfold canP
  rw [List.mem_filter, List.mem_range]
  refine ⟨hk, ?_⟩
  rw [he]
  exact can_self ⟨k, hk⟩
theorem spell_cons {c : Int} {L : List Int} (h : spellB (c :: L) = true) : letOk c = true ∧ spellB L = true := by
  unfold spellB at h ⊢
  rw [List.all_cons, Bool.and_eq_true] at h
  exact h
theorem spell_prod (L : List Int) (h : spellB L = true) : 0 < prodL L := by
  induction L with
  | nil => exact Nat.one_pos
  | cons c L ih =>
    obtain ⟨h1, h2⟩ := spell_cons h
    have h3 := ih h2
    obtain ⟨k, _, _, hm⟩ := spell_can (c :: L) h 0 (by simp)
    have h4 : 0 < canN c := List.length_pos_of_mem hm
    exact Nat.mul_pos h4 h3
theorem spell_one (L : List Int) (h : spellB L = true) (h1 : prodL L = 1) : (rdG L 0).map abcU = L.map fun x => UInt8.ofNat (abcN.getD (letP x).toNat 0) := by
  induction L with
  | nil => rfl
  | cons c L ih =>
    obtain ⟨h2, h3⟩ := spell_cons h
    unfold prodL at h1
    have hc : canN c = 1 := Nat.eq_one_of_mul_eq_one_right h1
    have hp : prodL L = 1 := Nat.eq_one_of_mul_eq_one_left h1
    obtain ⟨k, _, hlp, hm⟩ := spell_can (c :: L) h 0 (by simp)
    have hlp : letP c = (k : Int) := hlp
    have hm : k ∈ canP c 16 := hm
    unfold canN at hc
    obtain ⟨y, hy⟩ := List.length_eq_one_iff.1 hc
    rw [hy, List.mem_singleton] at hm
    unfold rdG
    rw [List.map_cons, List.map_cons, Nat.zero_div, Nat.zero_mod, ih h3 hp, hy, hlp, hm, Int.toNat_natCast]
    rfl
theorem spell_list (L : List Int) (h : spellB L = true) : (spellS L).data.toList = L.map fun x => UInt8.ofNat (abcN.getD (letP x).toNat 0) := by
  have hx : ∀ x ∈ L, letOk x = true := fun x hx => by unfold spellB at h; exact List.all_eq_true.1 h x hx
  unfold spellS
  rw [if_pos h, wordP_list L (fun x => UInt8.ofNat (abcN.getD (letP x).toNat 0)) _ (Nat.le_refl _) (fun x hm => by
    obtain ⟨k, hk, hp, he⟩ := letOk_cell x (hx x hm)
    rw [hp, Int.toNat_natCast]
    rw [he]
    exact (letS_at k hk).2), List.take_of_length_le (Nat.le_refl _)]
/-- Whoever spells a row finds that it has readings. -/
theorem word_many {L : List Int} (h : worB L = true) : (crN L == 0) = false := by
  unfold worB at h
  rw [Bool.and_eq_true] at h
  have := spell_prod L h.2
  unfold crN
  rw [if_pos h.1, beq_eq_false_iff_ne]
  omega
theorem word_only {L : List Int} (h : worB L = true) (h1 : crN L = 1) : raB L 0 = true ∧ raS L 0 = worS L := by
  unfold worB at h
  rw [Bool.and_eq_true] at h
  unfold crN at h1
  rw [if_pos h.1] at h1
  have hp : prodL L = 1 := by omega
  have hb : raB L 0 = true := by
    unfold raB
    rw [h.1, hp]
    rfl
  refine ⟨hb, ?_⟩
  obtain ⟨_, K, hK0, hK, he⟩ := ra_parts hb
  have hK1 : K = 0 := by omega
  subst hK1
  rw [he]
  unfold worS
  rw [if_pos h.1]
  exact toList_inj ((rd_list L 0 hK).trans ((spell_one L h.2 hp).trans (spell_list L h.2).symm))
end Go.Proofs.YtfdmcnnjifggnaaDoor

namespace Go.Proofs.YtfdmcnnjifggnaaDoor
open Go.RowKit

theorem infoInts : (Tryd.prog.info? 24).map (fun i => (i.zero, i.size, i.bytes)) = some (some (.slice none 0 0), 1, 24) := by kernel_rfl

/-- The value v is a slice that the world lets its owner hold, with the numbers L. -/
def isInts (w : World) (B : Nat) (v : Value) (L : List Int) : Prop := ∃ ao cap, v = .slice ao L.length cap ∧ ownsInts w B (.slice ao L.length cap) L
/-- The slice value v owns a row of slices, each of which owns its numbers. -/
def ownsIntss (w : World) (B : Nat) (v : Value) (LL : List (List Int)) : Prop :=
  ∃ vs : List Value, ownsG w B 24 1 v LL.length vs ∧ ∀ i, i < LL.length → isInts w B (vs.getD i undef) (LL.getD i [])
theorem isInts_below {w w' : World} {B C : Nat} {v : Value} {L : List Int} (h : isInts w B v L) (hb : Below w.heap.size w w') (hC : C ≤ B) : isInts w' C v L := by
  obtain ⟨ao, cap, rfl, ho⟩ := h
  exact ⟨ao, cap, rfl, ownsInts_below ho hb hC⟩
theorem ownsIntss_nil (w : World) (B : Nat) : ownsIntss w B (.slice none 0 0) [] := ⟨[], .inl (World.ownsRow_nil w B _ _), fun i hi => by simp at hi⟩
theorem ownsIntss_zero (w : World) (B : Nat) (a : Addr) : ownsIntss w B (.slice (some a) 0 0) [] := ⟨[], .inr ⟨rfl, rfl, a, rfl⟩, fun i hi => by simp at hi⟩
theorem ownsIntss_below {w w' : World} {B C : Nat} {v : Value} {LL : List (List Int)} (h : ownsIntss w B v LL) (hb : Below w.heap.size w w') (hC : C ≤ B) : ownsIntss w' C v LL := by
  obtain ⟨vs, h1, h3⟩ := h
  exact ⟨vs, ownsG_below h1 hb hC, fun i hi => isInts_below (h3 i hi) hb hC⟩
theorem ownsIntss_shape {w : World} {B : Nat} {v : Value} {LL : List (List Int)} (h : ownsIntss w B v LL) : ∃ ao cap, v = .slice ao LL.length cap ∧
    (LL = [] ∨ ∃ g, ao = some ⟨g, 0, none⟩ ∧ B ≤ g ∧ g < w.heap.size ∧ LL.length ≤ cap ∧ ∀ j, j < LL.length → ∃ bo cap', w.cell? ⟨g, j, none⟩ = some (.slice bo (LL.getD j []).length cap') ∧ ownsInts w B (.slice bo (LL.getD j []).length cap') (LL.getD j [])) := by
  obtain ⟨vs, h1, h3⟩ := h
  have hlen := ownsG_len h1
  obtain ⟨ao, cap, rfl, ⟨hn, _⟩ | ⟨g, rfl, hb, hg, hc, hcell, _⟩⟩ := ownsG_shape h1
  · have : LL = [] := List.eq_nil_of_length_eq_zero hn
    subst this
    exact ⟨ao, cap, rfl, .inl rfl⟩
  · refine ⟨_, cap, rfl, .inr ⟨g, rfl, hb, hg, hc, fun j hj => ?_⟩⟩
    obtain ⟨bo, cap', he, ho⟩ := h3 j hj
    refine ⟨bo, cap', ?_, ho⟩
    rw [hcell j (by omega), ← he]
    simp [show j < vs.length by omega]
/-- Numbers that are owned stay so where blocks of another type are written. -/
theorem ownsInts_apart {w w' : World} {B : Nat} {u v : Value} {L : List Int} {e : TypeId} (he : (3 : TypeId) ≠ e) (h : ownsInts w B u L) (hk : ∀ k, k < w.heap.size → (v.ownBlock = some k → ∀ cur, w.heap[k]? ≠ some (.cells cur e (0, 0))) → w'.heap[k]? = w.heap[k]?) : ownsInts w' B u L := by
  rcases h with h | h
  · refine .inl ⟨h.1, ?_⟩
    rcases h.2 with h2 | ⟨g, cap, cur, hv1, hBg, hg, r⟩
    · exact .inl h2
    · refine .inr ⟨g, cap, cur, hv1, hBg, ?_, r⟩
      rw [hk g (Array.getElem?_eq_some_iff.1 hg).1 ?_]
      · exact hg
      · intro _ cur' hc
        rw [hg] at hc
        simp only [Option.some.injEq, Obj.cells.injEq] at hc
        exact he hc.2.1
  · exact .inr h
/-- append of one slice to a slice of slices of the call's own. -/
theorem wpAppendInts {ops : Array Oper} {rest : List Oper} {o : Oper} {a : Act} {Q : Exit → Act → World → Prop} (w : World) (hgd : o.guard = none) (s x : Operand)
    (ho : o.op = .call { callee := .builtin .append, args := #[s, x], argTypes := #[35, 35] })
    (B : Nat) (v : Value) (LL : List (List Int)) (hs : a.eval s = v) (hown : ownsIntss w B v LL) (u : Value) (L : List Int) (hu : ownsInts w B u L) (hx : a.eval x = .slice (some ⟨w.heap.size, 0, none⟩) 1 1)
    (hn : LL.length ≤ 1000000000) (hB : B ≤ w.heap.size)
    (h : ∀ ao cap w', ownsIntss w' B (.slice ao (LL.length + 1) cap) (LL ++ [L]) → Below B w w' → wpList Tryd.prog ops Q rest (a.put o.dst (.slice ao (LL.length + 1) cap)) w') :
    wpList Tryd.prog ops Q (o :: rest) a (w.alloc (.cells #[u] 24)) := by
  obtain ⟨vs, h1, h3⟩ := hown
  have h2 := ownsG_len h1
  simp only [Nat.mul_one] at h2
  obtain ⟨uo, ucap, rfl, _⟩ := ownsInts_shape hu
  refine wpAppendG w hgd s x _ _ (.slice none 0 0) 1 24 ho Tryd.underlying35 infoInts rfl (by decide) (by decide) B v LL.length vs hs h1 [.slice uo L.length ucap] _ hx rfl (by simp [Value.oneCell']) hn hB ?_
  intro ao cap w' hr hb hk
  refine h ao cap w' ⟨vs ++ [.slice uo L.length ucap], by simpa using hr, fun i hi => ?_⟩ hb
  have hkeep : ∀ u' L', isInts w B u' L' → isInts w' B u' L' := by
    rintro u' L' ⟨ao, cap, rfl, hoo⟩
    exact ⟨ao, cap, rfl, ownsInts_apart (by decide) hoo hk⟩
  by_cases hlt : i < LL.length
  · have e1 : (vs ++ [Value.slice uo L.length ucap]).getD i undef = vs.getD i undef := by simp [List.getElem?_append_left (show i < vs.length by omega)]
    have e2 : (LL ++ [L]).getD i [] = LL.getD i [] := by simp [List.getElem?_append_left hlt]
    rw [e1, e2]
    exact hkeep _ _ (h3 i hlt)
  · have hi2 : i = LL.length := by simp at hi; omega
    subst hi2
    have e1 : (vs ++ [Value.slice uo L.length ucap]).getD LL.length undef = .slice uo L.length ucap := by rw [← h2]; simp
    have e2 : (LL ++ [L]).getD LL.length [] = L := by simp
    rw [e1, e2]
    exact hkeep _ _ ⟨uo, ucap, rfl, hu⟩
end Go.Proofs.YtfdmcnnjifggnaaDoor
