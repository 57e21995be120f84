/- The contract of DropVain of the reference. -/
import Derived.Test.YtjcbffkdemadnaaDrop
import Derived.Lib.Hide
namespace Go.Proofs.Ytjcbffkdemadnaa
open Go.RowKit

set_option maxHeartbeats 1600000 in
set_option maxRecDepth 100000 in
theorem DropVainS_any (k : Int) (b o n cap : Nat) (l : List (Int × Int)) (w : World) (hr : RdS w (some ⟨b, o, none⟩) l) (hn : l.length = n) (hm : n ≤ 1048576) :
    Calls Try.prog 15 #[.int .i64 k, .slice (some ⟨b, o, none⟩) n cap] w (RetSB (dvL k l) (goodS k l) w) := by
  subst hn
  have hn : l.length = l.length := rfl
  unfold dvL RetSB
  have HG := Lib.hid (fun W h => l8Good_any k (some ⟨b, o, none⟩) l.length cap l W h rfl (by unfold maxLen; omega))
  cases hb : goodS k l with
  | false =>
    rw [hb] at HG
    have hA1 := @cellAlloc; have hA2 := @frozenAlloc; have hA3 := @setCellAlloc; go_enter Try.func15, Try.ntmps15
    go_wp2_with (go_at_call 26; refine (HG.out _ hr).mono ?_; rintro e w1 ⟨rfl, hb1⟩)
    go_ret2
    exact ⟨_, ⟨0, rfl⟩, .inl rfl, belowThen hb1 (Go.Joins.below_alloc1 _ _)⟩
  | true =>
    have hs := goodS_small hb
    obtain ⟨q, rfl, hq, hqn, h12⟩ := good_nat hb
    rw [hb] at HG
    simp only [if_true, hqn]
    have HV := Lib.hid (fun (c : List (Int × Int)) (hc : ∀ x ∈ c, x ∈ l) (h : c.length ≤ 12) (b o cap i : Nat) W hrd hi h1 h2 => l8Vain_any q hq b o c.length cap i c W hrd rfl hi h1 h2 (by omega) (fun x hx => hs x (hc x hx)))
    have HWO := Lib.hid (fun (c : List (Int × Int)) (h : c.length ≤ 12) (b o cap i : Nat) W hrd hi h1 h2 => l8Without_any b o c.length cap i c W hrd rfl hi h1 (by omega) h2)
    have hl12 : l.length ≤ 12 := h12
    clear hs hb hqn hn
    have hA1 := @cellAlloc; have hA2 := @frozenAlloc; have hA3 := @setCellAlloc; go_enter Try.func15, Try.ntmps15
    go_wp2_with (first
      | (go_at_call 26; refine (HG.out _ hr).mono ?_; rintro e w1 ⟨rfl, hb1⟩)
      | (at_builtin; go_must (refine wpAppendSl (w1.alloc (.cells #[] 48)) (by rfl) _ _ (by rfl) w1.heap.size (.slice (some ⟨w1.heap.size, 0, none⟩) 0 0) [] (by rfl) (ownsS_zero _ _ _) ⟨b, o, none⟩ l.length cap l (by rfl) rfl (RdS_below hr (belowThen hb1 (Go.Joins.below_alloc1 _ _))) (.inl ⟨_, _, _, _, rfl⟩) (by intro k hk; simp [Value.ownBlock] at hk; subst hk; simp) (by simp; omega) (by simp) ?_; intro g off c w2 hown hb2 hk2 hbl2 _)))
    have hown2 : ownsS w2 w1.heap.size (.slice (some ⟨g, off, none⟩) l.length c) l := by simpa using hown
    have hbz : Below w.heap.size w w2 := hb1.trans ((((Below.refl _ w1).alloc (Nat.le_refl _) _).trans hb2).mono hb1.size)
    have hown3 := ownsS_below hown2 (Below.refl _ _) hb1.size
    clear hown hown2 hb2 hk2
    go_loopw [6, 7] (fun v i wr => ∃ (c : List (Int × Int)) (g off cc j : Nat), v = .slice (some ⟨g, off, none⟩) c.length cc ∧ i = .int .i64 j ∧ j ≤ c.length ∧ ownsS wr w.heap.size (.slice (some ⟨g, off, none⟩) c.length cc) c ∧ c.length ≤ 12 ∧ Hid (dropV q c = dropV q l ∧ (∀ x ∈ c, x ∈ l) ∧ ∀ t, t < j → vainI q c t = false) ∧ Below w.heap.size w wr) (fun v i _ => 2 * lenW v - (intOf i).toNat)
    case atStart => exact ⟨l, g, off, c, 0, rfl, rfl, Nat.zero_le _, hown3, hl12, Lib.hid ⟨rfl, fun x h => h, fun t ht => by omega⟩, hbz⟩
    case round =>
      obtain ⟨c, g, off, cc, j, rfl, rfl, hj, hoc, hc12, HD, hbw⟩ := hrel
      by_cases hlt : j < c.length
      · have hdj : decide ((j : Int) < (c.length : Int)) = true := by simp; omega
        obtain ⟨k1, k2⟩ := ownsS_cap hoc (by omega)
        have hrc := RdS_owns hoc
        have HJ := Lib.hid (fun W h => HV.out c HD.out.2.1 hc12 g off cc j W h hlt k1 k2)
        have HW := Lib.hid (fun W h => HWO.out c hc12 g off cc j W h hlt k1 k2)
        obtain ⟨bv, hbv⟩ : ∃ bv, vainI q c j = bv := ⟨_, rfl⟩
        rw [hbv] at HJ
        rcases bv with _ | _
        · have HD2 : Hid (dropV q c = dropV q l ∧ (∀ x ∈ c, x ∈ l) ∧ ∀ t, t < j + 1 → vainI q c t = false) := Lib.hid ⟨HD.out.1, HD.out.2.1, fun t ht => by
            by_cases h : t < j
            · exact HD.out.2.2 t h
            · rw [show t = j by omega]; exact hbv⟩
          clear hbv
          go_wp2_with (go_at_call 44; refine (HJ.out _ hrc).mono ?_; rintro e w2 ⟨rfl, hb2⟩)
          go_roundw
          case rel => exact ⟨c, g, off, cc, j + 1, rfl, by go_num, by omega, ownsS_below hoc hb2 (Nat.le_refl _), hc12, HD2, belowThen hbw hb2⟩
          case measure => simp [intOf, lenW]; omega
        · obtain ⟨r, hr2⟩ := vainL_first q c j hlt HD.out.2.2 hbv
          have hel : (c.eraseIdx j).length = c.length - 1 := by rw [List.length_eraseIdx, if_pos hlt]
          have HD2 : Hid (dropV q (c.eraseIdx j) = dropV q l ∧ (∀ x ∈ c.eraseIdx j, x ∈ l) ∧ ∀ t, t < j → vainI q (c.eraseIdx j) t = false) := Lib.hid ⟨(dropV_step q c j r hr2).symm.trans HD.out.1, fun x hx => HD.out.2.1 x (List.mem_of_mem_eraseIdx hx), fun t ht => vain_stays q c j t ht hbv (HD.out.2.2 t ht)⟩
          have HEL := Lib.hid hel
          have hbs := hbw.size
          clear hbv hr2 hel
          go_wp2_with (first
            | (go_at_call 44; refine (HJ.out _ hrc).mono ?_; rintro e w2 ⟨rfl, hb2⟩)
            | (go_at_call 45; refine (HW.out _ (RdS_below hrc hb2)).mono ?_; rintro e w3 ⟨g3, o3, c3, rfl, ho3, hb3⟩))
          go_roundw
          case rel => exact ⟨c.eraseIdx j, g3, o3, c3, j, by rw [HEL.out], rfl, by rw [HEL.out]; omega, by rw [HEL.out]; exact ownsS_below ho3 (Below.refl _ _) (Nat.le_trans hbs hb2.size), by rw [HEL.out]; omega, HD2, belowThen (belowThen hbw hb2) hb3⟩
          case measure => simp [intOf, lenW]; omega
      · have hje : j = c.length := by omega
        subst hje
        have hdone := dropV_done q c (vainL_none q c HD.out.2.2)
        have HDN := Lib.hid (hdone.symm.trans HD.out.1)
        have hdj : decide ((c.length : Int) < (c.length : Int)) = false := by simp
        clear hdone
        go_wp2
        go_ret2
        rw [← HDN.out]
        exact ⟨_, _, rfl, RdS_owns hoc, hbw⟩
end Go.Proofs.Ytjcbffkdemadnaa
