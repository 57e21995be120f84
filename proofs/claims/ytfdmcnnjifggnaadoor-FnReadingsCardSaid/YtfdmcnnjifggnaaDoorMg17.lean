/- Joined texts: LeastF. -/
import Derived.Test.YtfdmcnnjifggnaaDoorMg15
import Derived.Test.YtfdmcnnjifggnaaDoorMg05
import Derived.Test.YtfdmcnnjifggnaaDoorMg08
import Derived.Test.YtfdmcnnjifggnaaDoorMg16
import Derived.Lib.Hide
namespace Go.Proofs.YtfdmcnnjifggnaaDoor
open Go.RowKit

/-- All letters. -/
def lfB : ByteArray := ⟨#[97, 98, 99, 100, 101, 102, 104, 106, 108, 110, 111, 112, 114, 116, 117, 121]⟩
/-- Two letters, told by their places. -/
def nm (x : Nat × Nat) : ByteArray := lfB.extract x.1 (x.1 + 1) ++ lfB.extract x.2 (x.2 + 1)
def lfStep (s : List (Nat × Nat) × Nat) (x : Nat × Nat) : List (Nat × Nat) × Nat :=
  if dist letC x.1 x.2 < s.2 then ([x], dist letC x.1 x.2) else if dist letC x.1 x.2 = s.2 then (s.1 ++ [x], s.2) else s
/-- What is gathered ahead of the pair (i, k). -/
def lfS (i k : Nat) : List (Nat × Nat) × Nat := (prs 16 i k).foldl lfStep ([], 8)
theorem lfS_step (i k : Nat) (h : i < k) : lfS i (k + 1) = lfStep (lfS i k) (i, k) := by
  unfold lfS
  rw [prs_step 16 i k h, List.foldl_append]; rfl
theorem lfS_turn (i : Nat) (h : i < 16) : lfS i 16 = lfS (i + 1) (i + 2) := by
  unfold lfS
  rw [prs_turn 16 i h]
theorem lfS_lt (i k : Nat) (h : i < k) (hd : dist letC i k < (lfS i k).2) : lfS i (k + 1) = ([(i, k)], dist letC i k) := by
  rw [lfS_step i k h, lfStep, if_pos hd]
theorem lfS_eq (i k : Nat) (h : i < k) (hd : dist letC i k = (lfS i k).2) : lfS i (k + 1) = ((lfS i k).1 ++ [(i, k)], (lfS i k).2) := by
  rw [lfS_step i k h, lfStep, if_neg (by show ¬ dist letC i k < _; omega), if_pos hd]
theorem lfS_gt (i k : Nat) (h : i < k) (hd : (lfS i k).2 < dist letC i k) : lfS i (k + 1) = lfS i k := by
  rw [lfS_step i k h, lfStep, if_neg (by show ¬ dist letC i k < _; omega), if_neg (by show ¬ dist letC i k = _; omega)]
theorem lfStep_le (l : List (Nat × Nat)) : ∀ (s : List (Nat × Nat) × Nat), (l.foldl lfStep s).1.length ≤ s.1.length + l.length ∧ (s.2 ≤ 8 → (l.foldl lfStep s).2 ≤ 8) := by
  induction l with
  | nil => intro s; exact ⟨by simp, fun h => h⟩
  | cons x l ih =>
    intro s
    have := ih (lfStep s x)
    rw [List.foldl_cons]
    have h1 : (lfStep s x).1.length ≤ s.1.length + 1 := by unfold lfStep; split <;> (try split) <;> simp
    have h2 : s.2 ≤ 8 → (lfStep s x).2 ≤ 8 := by intro h; have := dist_le letC x.1 x.2; unfold lfStep; split <;> (try split) <;> (first | exact h | (show dist letC x.1 x.2 ≤ 8; omega))
    exact ⟨by have := this.1; simp only [List.length_cons]; omega, fun h => this.2 (h2 h)⟩
theorem lfS_le (i k : Nat) (hi : i ≤ 16) (hk : k ≤ 17) : (lfS i k).1.length ≤ 1000 ∧ (lfS i k).2 ≤ 8 := by
  have h := lfStep_le (prs 16 i k) ([], 8)
  have h2 := prs_length 16 i k hi hk
  have h3 : (i + 1) * 16 ≤ 17 * 16 := Nat.mul_le_mul (by omega) (Nat.le_refl _)
  unfold lfS
  exact ⟨by have := h.1; simp at this; omega, h.2 (by decide)⟩
/-- The pairs of letters at the least distance. -/
def lfR : List (Nat × Nat) := prsQ (fun i k => dist letC i k == 1) 16 16 17
theorem lfS_end : lfS 16 17 = (lfR, 1) := by decide +kernel
theorem lfR_in : ∀ x ∈ lfR, x.1 < 16 ∧ x.2 < 16 := by decide +kernel
theorem lfR_len : lfR.length ≤ 200 := by decide +kernel
theorem lfR_ne : lfR ≠ [] := by decide +kernel
/-- A slice of the call's own is returned that holds the names of the pairs, and the least distance. -/
def RetLF (w : World) (e : Ending) (w' : World) : Prop := ∃ ao cap, e = .returned (.tuple #[.slice ao (lfR.map nm).length cap, .int .i64 1]) ∧ ownsV w' w.heap.size 9 (.slice ao (lfR.map nm).length cap) (strV (lfR.map nm)) ∧ Below w.heap.size w w'
theorem ownsV_zero (w : World) (B : Nat) (e : TypeId) (a : Addr) : ownsV w B e (.slice (some a) 0 0) [] := .inr ⟨rfl, rfl, a, rfl⟩
theorem ownsV_len {w : World} {B n cap : Nat} {ao : Option Addr} {e : TypeId} {vs : List Value} (h : ownsV w B e (.slice ao n cap) vs) : n = vs.length := by
  obtain ⟨ao', cap', he, -⟩ := ownsV_shape h
  simp only [Value.slice.injEq] at he
  exact he.2.1
set_option maxHeartbeats 1600000 in
set_option maxRecDepth 100000 in
theorem LeastFarS_any (w : World) : Calls Tryd.prog 19 #[] w (RetLF w) := by
  have hstr := infoStr
  have HSt1 := Lib.hid lfS_lt
  have HSt2 := Lib.hid lfS_eq
  have HSt3 := Lib.hid lfS_gt
  have HTu := Lib.hid lfS_turn
  have HLe := Lib.hid lfS_le
  have HD := Lib.hid (dist_le letC)
  have H0 : Hid (lfS 0 1 = ([], 8)) := Lib.hid rfl
  have HE := Lib.hid lfS_end
  have HFar := Lib.hid (fun i k W => l2Far_any (letC i) (letC k) (letC_lt i) (letC_lt k) W)
  have HOf := Lib.hid l10Of_any
  have hdist : dist letC = fun i k => cnt (letC i ^^^ letC k) := rfl
  have HFar2 : Hid (∀ i k W, Calls Tryd.prog 49 #[.int .i64 (letC i), .int .i64 (letC k)] W fun e w' => e = .returned (.int .i64 (dist letC i k)) ∧ W = w') := HFar
  clear HFar hdist
  have HNm : Hid (∀ i k, nm (i, k) = lfB.extract i (i + 1) ++ lfB.extract k (k + 1)) := Lib.hid fun _ _ => rfl
  unfold RetLF
  generalize lfR = R at HE ⊢
  generalize dist letC = D at *
  generalize letC = C at *
  generalize lfS = S at *
  generalize nm = NM at *
  unfold lfB at HNm
  have hA1 := @cellAlloc; have hA2 := @frozenAlloc; have hA3 := @setCellAlloc; go_enter Tryd.func19, Tryd.ntmps19
  go_wp2
  go_loopw [2, 3, 4] (fun v l i wr => ∃ k : Nat, k ≤ 16 ∧ i = .int .i64 k ∧ l = .int .i64 (S k (k + 1)).2 ∧ ownsV wr w.heap.size 9 v (strV ((S k (k + 1)).1.map NM)) ∧ Below w.heap.size w wr) (fun _ _ i _ => 16 - (intOf i).toNat)
  case atStart => exact ⟨0, by omega, rfl, by rw [H0.out]; rfl, by rw [H0.out]; exact ownsV_zero _ _ _ _, by (repeat (first | assumption | exact Below.refl _ _ | refine belowThen ?_ (Go.Joins.below_alloc1 _ _) | apply Below.drew | refine belowThen ?_ (by assumption) | refine belowThen ?_ (Go.Joins.below_draws _ _ _) | refine Below.setCell ?_ (by first | exact Nat.le_refl _ | (simp; done) | (simp; omega)) _))⟩
  case round =>
    obtain ⟨i, hi, rfl, rfl, hown, hbw⟩ := hrel
    by_cases hlt : i < 16
    · obtain ⟨wo, hwo⟩ : ∃ wo, wo = wr := ⟨_, rfl⟩
      subst hwo
      have hd : decide ((i : Int) < 16) = true := by simp; omega
      have HO := Lib.hid hown
      clear hown
      go_wp2
      go_loopw [2, 3, 5] (fun v l j wr => ∃ k : Nat, i < k ∧ k ≤ 16 ∧ j = .int .i64 k ∧ l = .int .i64 (S i k).2 ∧ ownsV wr w.heap.size 9 v (strV ((S i k).1.map NM)) ∧ Below w.heap.size w wr) (fun _ _ j _ => 16 - (intOf j).toNat)
      case atStart => exact ⟨i + 1, by omega, by omega, by go_num, rfl, HO.out, hbw⟩
      case round =>
        obtain ⟨k, hik, hk, rfl, rfl, hown, hbv⟩ := hrel
        by_cases hlk : k < 16
        · have hle := HLe.out i k hi (by omega)
          have hDl := HD.out i k
          have h1 := Lib.hid (HSt1.out i k hik)
          have h2 := Lib.hid (HSt2.out i k hik)
          have h3 := Lib.hid (HSt3.out i k hik)
          have HF := Lib.hid (HFar2.out i k)
          have HO1 := Lib.hid (HOf.out i hlt)
          have HO2 := Lib.hid (HOf.out k hlk)
          have HN := Lib.hid (HNm.out i k)
          generalize D i k = d at h1 h2 h3 hDl HF
          generalize hs1 : S i k = s at h1 h2 h3 hle hown
          obtain ⟨o, l⟩ := s
          simp only at h1 h2 h3 hle hown ⊢
          generalize C i = ci at HF HO1
          generalize C k = ck at HF HO2
          have hsz := hbv.size
          have hol : (strV (o.map NM)).length = o.length := by simp [strV]
          have hi2 : (i : Int) < 16 := by omega
          have hk2 : (k : Int) < 16 := by omega
          have hwi : IntKind.i64.wrap ((i : Int) + 1) = (i : Int) + 1 := by unfold IntKind.wrap; simp [IntKind.signed, IntKind.bits]; omega
          have hwk : IntKind.i64.wrap ((k : Int) + 1) = (k : Int) + 1 := by unfold IntKind.wrap; simp [IntKind.signed, IntKind.bits]; omega
          have hi3 : (0 : Int) ≤ (i : Int) + 1 := by omega
          have hk3 : (0 : Int) ≤ (k : Int) + 1 := by omega
          have hi4 : (i : Int) + 1 ≤ 16 := by omega
          have hk4 : (k : Int) + 1 ≤ 16 := by omega
          have hi5 : (i : Int) ≤ (i : Int) + 1 := by omega
          have hk5 : (k : Int) ≤ (k : Int) + 1 := by omega
          have hex : ∀ x, x < 16 → ((⟨#[97, 98, 99, 100, 101, 102, 104, 106, 108, 110, 111, 112, 114, 116, 117, 121]⟩ : ByteArray).extract x (x + 1)).size = 1 := fun x hx => by rw [ByteArray.size_extract]; show min (x + 1) 16 - x = 1; omega
          have hei := hex i hlt
          have hek := hex k hlk
          clear hex
          have hi6 : ((i : Int) + 1).toNat = i + 1 := by omega
          have hk6 : ((k : Int) + 1).toNat = k + 1 := by omega
          by_cases hlt2 : d < l
          · have h1' := Lib.hid (h1.out hlt2)
            have hx : decide ((d : Int) < (l : Int)) = true := by simp; omega
            clear h1 h2 h3
            go_wp2_with (first | (go_at_call 50; first | (refine (HO1.out _).mono ?_; rintro e w1 ⟨rfl, hb1⟩) | (refine (HO2.out _).mono ?_; rintro e w2 ⟨rfl, hb2⟩)) | (go_at_call 49; refine (HF.out _).mono ?_; rintro e w' ⟨rfl, rfl⟩))
            go_region_law (refine stepAppendV (by rfl) _ _ _ _ (.string ⟨#[]⟩) 16 (by rfl) Tryd.underlying40 infoStr rfl (by decide) w.heap.size _ (strV []) (by rfl) (ownsV_zero _ _ _ _) _ (by rfl) (.string (NM (i, k))) (by rw [HN.out, Addr.add_lit]; go_simp) rfl (by rw [strV_length]; simp; try omega) (by have := hb2.size; have := hb1.size; simp; omega) ?_; intro co cc w4 hv4 hb4)
            replace hb4 : Below w.heap.size w w4 := (by (repeat (first | assumption | exact Below.refl _ _ | refine belowThen ?_ (Go.Joins.below_alloc1 _ _) | apply Below.drew | refine belowThen ?_ (by assumption) | refine belowThen ?_ (Go.Joins.below_draws _ _ _) | refine Below.setCell ?_ (by first | exact Nat.le_refl _ | (simp; done) | (simp; omega)) _)) : Below w.heap.size w _).trans hb4
            go_wp2
            go_roundw
            case rel => exact ⟨k + 1, by omega, by omega, by go_num, by rw [h1'.out], by rw [h1'.out]; exact hv4, hb4⟩
            case measure => simp [intOf]; omega
          · by_cases heq : d = l
            · subst heq
              have h1' := Lib.hid (h2.out rfl)
              have hx : decide ((d : Int) < (d : Int)) = false := by simp
              clear h1 h2 h3
              go_wp2_with (first | (go_at_call 50; first | (refine (HO1.out _).mono ?_; rintro e w1 ⟨rfl, hb1⟩) | (refine (HO2.out _).mono ?_; rintro e w2 ⟨rfl, hb2⟩)) | (go_at_call 49; refine (HF.out _).mono ?_; rintro e w' ⟨rfl, rfl⟩))
              go_region_law (refine stepAppendV (by rfl) _ _ _ _ (.string ⟨#[]⟩) 16 (by rfl) Tryd.underlying40 infoStr rfl (by decide) w.heap.size _ (strV (o.map NM)) (by rfl) (ownsV_below hown (by (repeat (first | assumption | exact Below.refl _ _ | refine belowThen ?_ (Go.Joins.below_alloc1 _ _) | apply Below.drew | refine belowThen ?_ (by assumption) | refine belowThen ?_ (Go.Joins.below_draws _ _ _) | refine Below.setCell ?_ (by first | exact Nat.le_refl _ | (simp; done) | (simp; omega)) _))) (Nat.le_refl _)) _ (by rfl) (.string (NM (i, k))) (by rw [HN.out, Addr.add_lit]; go_simp) rfl (by rw [strV_length]; simp; try omega) (by have := hb2.size; have := hb1.size; simp; omega) ?_; intro co cc w4 hv4 hb4)
              replace hb4 : Below w.heap.size w w4 := (by (repeat (first | assumption | exact Below.refl _ _ | refine belowThen ?_ (Go.Joins.below_alloc1 _ _) | apply Below.drew | refine belowThen ?_ (by assumption) | refine belowThen ?_ (Go.Joins.below_draws _ _ _) | refine Below.setCell ?_ (by first | exact Nat.le_refl _ | (simp; done) | (simp; omega)) _)) : Below w.heap.size w _).trans hb4
              go_wp2
              go_roundw
              case rel => exact ⟨k + 1, by omega, by omega, by go_num, by rw [h1'.out], by rw [h1'.out, List.map_append]; rw [← strV_append, hol] at hv4; exact hv4, hb4⟩
              case measure => simp [intOf]; omega
            · have h1' := Lib.hid (h3.out (by show l < d; omega))
              have hx : decide ((d : Int) < (l : Int)) = false := by simp; omega
              have hy : ((d : Int) == (l : Int)) = false := by simp; omega
              clear h1 h2 h3
              go_wp2_with (first | (go_at_call 50; first | (refine (HO1.out _).mono ?_; rintro e w1 ⟨rfl, hb1⟩) | (refine (HO2.out _).mono ?_; rintro e w2 ⟨rfl, hb2⟩)) | (go_at_call 49; refine (HF.out _).mono ?_; rintro e w' ⟨rfl, rfl⟩))
              go_roundw
              case rel => exact ⟨k + 1, by omega, by omega, by go_num, by rw [h1'.out], by rw [h1'.out]; exact ownsV_below hown (belowThen hb1 hb2) (Nat.le_refl _), belowThen (belowThen hbv hb1) hb2⟩
              case measure => simp [intOf]; omega
        · have hkn : k = 16 := by omega
          subst hkn
          go_wp2
          go_roundw
          case rel => exact ⟨i + 1, by omega, by go_num, by rw [← HTu.out i hlt], by rw [← HTu.out i hlt]; exact hown, hbv⟩
          case measure => simp [intOf]; omega
    · have hin : i = 16 := by omega
      subst hin
      simp only [HE.out] at hown ⊢
      obtain ⟨co, cc, rfl, -⟩ := ownsV_shape hown
      go_wp2
      go_ret2
      rw [strV_length] at hown ⊢
      exact ⟨co, cc, rfl, hown, hbw⟩
theorem enters_lf : Enters 48 := fun _ _ => by simp [go_sem, Tryd.func48]
theorem lf1_any (d far g : Nat) (W : World) (hg : W.cell? ⟨g, 0, none⟩ = some (.int .i64 far)) : Calls Tryd.prog 48 #[.int .i64 d, .pointer (some ⟨g, 0, none⟩)] W fun e w' => e = .returned (.bool (d == far)) ∧ W = w' := by
  have he : ((d : Int) == (far : Int)) = (d == far) := by rw [Bool.eq_iff_iff]; simp only [beq_iff_eq]; omega
  have HE := Lib.hid he
  clear he
  go_enter Tryd.func48, Tryd.ntmps48
  go_wp2
  go_ret
  exact ⟨ret_bool (by first | exact HE.out | (rw [← HE.out]; rfl) | simp), rfl⟩
theorem take_succG (l : List (Nat × Nat)) (k : Nat) (h : k < l.length) : l.take (k + 1) = l.take k ++ [l.getD k (0, 0)] := by
  rw [List.take_add_one, List.getD_eq_getElem?_getD, List.getElem?_eq_getElem h]
  rfl
theorem lf_least : (∀ d, 1 ≤ d → d < 1 → prsQ (fun i k => dist letC i k == d) 16 16 (16 + 1) = []) ∧ prsQ (fun i k => dist letC i k == 1) 16 16 (16 + 1) ≠ [] := ⟨fun d h1 h2 => by omega, lfR_ne⟩
set_option maxHeartbeats 1600000 in
set_option maxRecDepth 100000 in
theorem LeastFarI_any (w : World) : Calls Tryd.prog 18 #[] w (RetLF w) := by
  have hstr := infoStr
  have HGap := Lib.hid (fun b o cap W hb hc => gap_any letC 1 b o 16 cap W letC_lt (by decide) hb hc (by decide) (by decide) lf_least.1 lf_least.2)
  have HPairs := Lib.hid (fun g b o cap W hb hc hg hgl => pairs_any letC (fun d => d == 1) 48 (.pointer (some ⟨g, 0, none⟩)) b o 16 cap W letC_lt (by decide) hb hc enters_lf
    (fun d W2 _ h2 => lf1_any d 1 g W2 ((h2.cell (p := ⟨g, 0, none⟩) hgl).trans hg)))
  rw [show prsQ (fun i k => dist letC i k == 1) 16 16 (16 + 1) = lfR from rfl] at HPairs
  have HLet := Lib.hid (fun W => (letterCells_any W).mono fun e w' h => (by
    obtain ⟨ao, ca, h1, h2, h3⟩ := h
    obtain ⟨ao', cap', he, h0 | ⟨g, rfl, _, hg, _, hc⟩⟩ := ownsInts_shape h2
    · exact absurd (congrArg List.length h0) (by rw [letL_length]; decide)
    · simp only [Value.slice.injEq] at he
      obtain ⟨rfl, -, -⟩ := he
      exact ⟨g, ca, h1, hg, fun j hj => by have h5 := hc j (by rw [letL_length]; exact hj); rw [letL_getD] at h5; rw [Nat.zero_add]; exact h5, h3⟩ : ∃ g ca, e = .returned (.slice (some ⟨g, 0, none⟩) 16 ca) ∧ g < w'.heap.size ∧ (∀ j, j < 16 → w'.cell? ⟨g, 0 + j, none⟩ = some (.int .i64 (letC j))) ∧ Below W.heap.size W w'))
  have HIn := Lib.hid lfR_in
  have HLen := Lib.hid lfR_len
  have HNm : Hid (∀ i k, nm (i, k) = lfB.extract i (i + 1) ++ lfB.extract k (k + 1)) := Lib.hid fun _ _ => rfl
  unfold RetLF
  generalize lfR = R at *
  generalize letC = C at *
  generalize nm = NM at *
  unfold lfB at HNm
  have hA1 := @cellAlloc; have hA2 := @frozenAlloc; have hA3 := @setCellAlloc; go_enter Tryd.func18, Tryd.ntmps18
  go_wp2_with (first
    | (go_at_call 45; refine (HLet.out _).mono ?_; rintro e w1 ⟨b, ca, rfl, hb, hc, hb1⟩)
    | (go_at_call 46; refine (HGap.out _ _ _ _ hb hc).mono ?_; rintro e w2 ⟨rfl, hb2⟩; have hs2 := hb2.size; have hc2 := (fun j hj => (((hb2.cell (p := ⟨b, 0 + j, none⟩) hb).trans (hc j hj)) : w2.cell? ⟨b, 0 + j, none⟩ = _)); clear hc)
    | (go_at_call 47
       have hblt : b < w2.heap.size := by omega
       have hcA : ∀ j, j < 16 → (w2.alloc (.cells #[.int .i64 1] 3)).cell? ⟨b, 0 + j, none⟩ = some (.int .i64 (C j)) := fun j hj => ((Go.Joins.below_alloc1 w2 _).cell (p := ⟨b, 0 + j, none⟩) hblt).trans (hc2 j hj)
       have hgA : (w2.alloc (.cells #[.int .i64 1] 3)).cell? ⟨w2.heap.size, 0, none⟩ = some (.int .i64 1) := World.cell?_alloc_at _ _ _ _ rfl
       have hlA : w2.heap.size < (w2.alloc (.cells #[.int .i64 1] 3)).heap.size := by rw [heapAlloc]; omega
       refine (HPairs.out w2.heap.size b 0 ca (w2.alloc (.cells #[.int .i64 1] 3)) (by omega) hcA hgA hlA).mono ?_
       rintro e w3 ⟨ao, ca3, rfl, hp3, hb3⟩
       have hg3 : w3.cell? ⟨w2.heap.size, 0, none⟩ = some (.int .i64 1) := (hb3.cell (p := ⟨w2.heap.size, 0, none⟩) hlA).trans hgA))
  have hrd := RdI_pairs hp3
  have hs3 := hb3.size
  rw [heapAlloc] at hs3
  have hbw3 : Below w.heap.size w w3 := belowThen (belowThen (belowThen hb1 hb2) (Go.Joins.below_alloc1 _ _)) hb3
  clear hc2 hp3 hb3
  have HRd := Lib.hid hrd
  clear hrd
  go_loopw [3, 14] (fun v i wr => ∃ k : Nat, k ≤ R.length ∧ i = .int .i64 k ∧ ownsV wr w3.heap.size 9 v (strV ((R.take k).map NM)) ∧ Below w3.heap.size w3 wr) (fun _ i _ => R.length - (intOf i).toNat)
  case atStart => exact ⟨0, by omega, rfl, ownsV_nil _ _ _, Below.refl _ _⟩
  case round =>
    obtain ⟨j, hj, rfl, hown, hbw⟩ := hrel
    have hlen := HLen.out
    by_cases hlt : j < R.length
    · have hd : decide ((j : Int) < (R.length : Int)) = true := by simp; omega
      have hfl := flat_length R
      rcases RdI_below HRd.out hbw with h | ⟨b1, o1, rfl, hbl, hc1⟩
      · rw [h] at hfl; simp at hfl; omega
      have hx0 := hc1 (j * 2) (by omega)
      have hx1 := hc1 (j * 2 + 1) (by omega)
      rw [(flat_at R j hlt).1] at hx0
      rw [(flat_at R j hlt).2, ← Nat.add_assoc] at hx1
      have hm : R.getD j (0, 0) ∈ R := by
        have : R.getD j (0, 0) = R[j]'hlt := by rw [List.getD_eq_getElem?_getD, List.getElem?_eq_getElem hlt]; rfl
        rw [this]; exact List.getElem_mem _
      have hxi := HIn.out _ hm
      have hsu := take_succG R j hlt
      generalize R.getD j (0, 0) = x at hx0 hx1 hxi hsu
      obtain ⟨i, k⟩ := x
      simp only at hx0 hx1 hxi
      obtain ⟨hlt16, hlk⟩ := hxi
      have HN := Lib.hid (HNm.out i k)
      have hlt : i < 16 := hlt16
      have hT : (R.take (j + 1)).map NM = (R.take j).map NM ++ [NM (i, k)] := by rw [hsu, List.map_append]; rfl
      have hTl : ((R.take j).map NM).length = j := by rw [List.length_map, List.length_take]; omega
      generalize (R.take j).map NM = T at hT hTl hown
      have HT := Lib.hid hT
      clear hT hsu hm hc1 hfl
      have hi2 : (i : Int) < 16 := by omega
      have hk2 : (k : Int) < 16 := by omega
      have hwi : IntKind.i64.wrap ((i : Int) + 1) = (i : Int) + 1 := by unfold IntKind.wrap; simp [IntKind.signed, IntKind.bits]; omega
      have hwk : IntKind.i64.wrap ((k : Int) + 1) = (k : Int) + 1 := by unfold IntKind.wrap; simp [IntKind.signed, IntKind.bits]; omega
      have hi3 : (0 : Int) ≤ (i : Int) + 1 := by omega
      have hk3 : (0 : Int) ≤ (k : Int) + 1 := by omega
      have hi4 : (i : Int) + 1 ≤ 16 := by omega
      have hk4 : (k : Int) + 1 ≤ 16 := by omega
      have hi5 : (i : Int) ≤ (i : Int) + 1 := by omega
      have hk5 : (k : Int) ≤ (k : Int) + 1 := by omega
      have hex : ∀ x, x < 16 → ((⟨#[97, 98, 99, 100, 101, 102, 104, 106, 108, 110, 111, 112, 114, 116, 117, 121]⟩ : ByteArray).extract x (x + 1)).size = 1 := fun x hx => by rw [ByteArray.size_extract]; show min (x + 1) 16 - x = 1; omega
      have hei := hex i hlt
      have hek := hex k hlk
      clear hex
      have hi6 : ((i : Int) + 1).toNat = i + 1 := by omega
      have hk6 : ((k : Int) + 1).toNat = k + 1 := by omega
      have hsw := hbw.size
      have hq0 : (wr.alloc (.cells #[.int .i64 i, .int .i64 k] 65)).drew.cell? ⟨wr.heap.size, 0, none⟩ = some (.int .i64 i) := (World.cell?_alloc_at _ _ _ _ rfl : (wr.alloc (.cells #[.int .i64 i, .int .i64 k] 65)).cell? ⟨wr.heap.size, 0, none⟩ = some (.int .i64 i))
      have hq1 : (wr.alloc (.cells #[.int .i64 i, .int .i64 k] 65)).drew.cell? ⟨wr.heap.size, 1, none⟩ = some (.int .i64 k) := (World.cell?_alloc_at _ _ _ _ rfl : (wr.alloc (.cells #[.int .i64 i, .int .i64 k] 65)).cell? ⟨wr.heap.size, 1, none⟩ = some (.int .i64 k))
      go_wp2_with fail
      go_region_law (refine stepAppendV (by rfl) _ _ _ _ (.string ⟨#[]⟩) 16 (by rfl) Tryd.underlying40 infoStr rfl (by decide) w3.heap.size _ (strV T) (by rfl) (ownsV_below hown (by (repeat (first | assumption | exact Below.refl _ _ | refine belowThen ?_ (Go.Joins.below_alloc1 _ _) | apply Below.drew | refine belowThen ?_ (by assumption) | refine belowThen ?_ (Go.Joins.below_draws _ _ _) | refine Below.setCell ?_ (by first | exact Nat.le_refl _ | (simp; done) | (simp; omega)) _))) (Nat.le_refl _)) _ (by rfl) (.string (NM (i, k))) (by rw [HN.out, Addr.add_lit]; go_simp) rfl (by rw [strV_length]; omega) (by simp; omega) ?_; intro co cc w4 hv4 hb4)
      all_goals
        replace hb4 : Below w3.heap.size w3 w4 := (by (repeat (first | assumption | exact Below.refl _ _ | refine belowThen ?_ (Go.Joins.below_alloc1 _ _) | apply Below.drew | refine belowThen ?_ (by assumption) | refine belowThen ?_ (Go.Joins.below_draws _ _ _) | refine Below.setCell ?_ (by first | exact Nat.le_refl _ | (simp; done) | (simp; omega)) _)) : Below w3.heap.size w3 _).trans hb4
        go_wp2
        go_roundw
        case rel => exact ⟨j + 1, by omega, by go_num, by rw [HT.out]; rw [← strV_append] at hv4; exact hv4, hb4⟩
        case measure => simp [intOf]; omega
    · have hjn : j = R.length := by omega
      subst hjn
      rw [List.take_of_length_le (Nat.le_refl _)] at hown
      have hg4 := (hbw.cell (p := ⟨w2.heap.size, 0, none⟩) (by show w2.heap.size < _; omega)).trans hg3
      obtain ⟨co, cc, rfl, -⟩ := ownsV_shape hown
      go_wp2_with fail
      go_quiet (fail)
      go_wp2
      go_ret2
      rw [strV_length] at hown ⊢
      exact ⟨co, cc, rfl, ownsV_below hown (by (repeat (first | assumption | exact Below.refl _ _ | refine belowThen ?_ (Go.Joins.below_alloc1 _ _) | apply Below.drew | refine belowThen ?_ (by assumption) | refine belowThen ?_ (Go.Joins.below_draws _ _ _) | refine Below.setCell ?_ (by first | exact Nat.le_refl _ | (simp; done) | (simp; omega)) _))) (by have := hbw3.size; omega), (hbw3.trans (hbw.mono hbw3.size)).trans (Go.Joins.below_draws _ _ _)⟩
end Go.Proofs.YtfdmcnnjifggnaaDoor
