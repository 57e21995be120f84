/- Joined texts: ReadS. -/
import Derived.Test.YtfdmcnnjifggnaaDoorMg09
import Derived.Lib.Hide
import Derived.Deep.RegionHeld3
import Derived.Deep.RegionWith
namespace Go.Proofs.YtfdmcnnjifggnaaDoor
open Go.RowKit

set_option maxHeartbeats 1600000 in
theorem ReadingAtS_any (ao : Option Addr) (n cap : Nat) (L : List Int) (k : Int) (w : World) (hr : RdI w ao L) (hn : L.length = n) (hm : n ≤ maxLen) (hcap : n ≤ cap) :
    Calls Tryd.prog 11 #[.slice ao n cap, .int .i64 k] w fun e w' => e = .returned (.tuple #[.string (raS L k), .bool (raB L k)]) ∧ Below w.heap.size w w' := by
  obtain ⟨ok, hok⟩ : ∃ ok, raB L k = ok := ⟨_, rfl⟩
  unfold raS
  rw [hok]
  unfold raB at hok
  have HR := Lib.hid (l2Row_any ao n cap L w hr hn hm)
  have hlen := rowB_len (L := L)
  have hat := rowB_at (L := L)
  rw [hn] at hlen hat
  have HC := fun h6 hD => Lib.hid (l10Count_any ao n cap L w hr hn h6 hD)
  have hple := prodL_le L
  have HN := Lib.hid hn
  generalize rowB L = q at HR hlen hat hok
  rcases q with _ | _
  · rw [Bool.false_and] at hok
    subst hok
    clear HC hlen hat hr hn hple
    go_enter Tryd.func11, Tryd.ntmps11
    go_wp2_with (first | (go_at_call 29; refine HR.out.mono ?_; rintro e w1 ⟨rfl, rfl⟩))
    go_ret2
    exact ⟨rfl, Below.refl _ _⟩
  · have HC := HC (hlen rfl) (hat rfl)
    have hn6 := hlen rfl
    have hat := hat rfl
    rw [Bool.true_and] at hok
    have hp16 := pow16 L.length (by omega)
    have hpb : prodL L ≤ 16777216 := Nat.le_trans hple hp16
    have HOk := Lib.hid hok
    rcases ok with _ | _
    · clear hlen hn hple hp16 hok hat
      rw [if_neg (by decide)]
      generalize prodL L = P0 at *
      go_enter Tryd.func11, Tryd.ntmps11
      go_wp2_with (first | (go_at_call 29; refine HR.out.mono ?_; rintro e w1 ⟨rfl, rfl⟩) | (go_at_call 30; refine HC.out.mono ?_; rintro e w1 ⟨rfl, hb1⟩) | (go_at_call 36; refine (l1In_any _ _ _ _).mono ?_; rw [HOk.out]; rintro e w' ⟨rfl, rfl⟩))
      go_ret2
      exact ⟨rfl, hb1⟩
    · rw [if_pos rfl]
      have hk := hok
      rw [inB_iff] at hk
      obtain ⟨K, rfl⟩ := Int.eq_ofNat_of_zero_le hk.1
      have hK : K < prodL L := by omega
      rw [Int.toNat_natCast]
      have HK := Lib.hid hK
      have HAt := Lib.hid hat
      obtain ⟨P0, hP0⟩ : ∃ P0, prodL L = P0 := ⟨_, rfl⟩
      rw [hP0] at HC HOk hpb hk
      clear hlen hn hple hp16 hok hat hK hP0
      go_enter Tryd.func11, Tryd.ntmps11
      go_wp2_with (first | (go_at_call 29; refine HR.out.mono ?_; rintro e w1 ⟨rfl, rfl⟩) | (go_at_call 30; refine HC.out.mono ?_; rintro e w1 ⟨rfl, hb1⟩) | (go_at_call 36; refine (l1In_any _ _ _ _).mono ?_; rw [HOk.out]; rintro e w' ⟨rfl, rfl⟩))
      go_loopw [1, 6, 7] (fun kk s i wr => ∃ j : Nat, j ≤ n ∧ i = .int .i64 j ∧ kk = .int .i64 (rdK L K j) ∧ s = .string (rdS L K j) ∧ Below w.heap.size w wr) (fun _ _ i _ => n - (intOf i).toNat)
      case atStart => exact ⟨0, by omega, rfl, rfl, rfl, hb1⟩
      case round =>
        obtain ⟨i, hi, rfl, rfl, rfl, hbw⟩ := hrel
        have hsz := rdS_size L K i
        by_cases hlt : i < n
        · have hrr := RdI_below hr hbw
          rcases hrr with h | ⟨b1, o1, rfl, hb1', hc1⟩
          · have := HN.out; rw [h] at this; simp at this; omega
          have hx := hc1 i (by rw [HN.out]; omega)
          obtain ⟨hp0, hjn⟩ := rd_facts L K HK.out i (by rw [HN.out]; omega)
          have hj16 := rdJ_lt L K HK.out i (by rw [HN.out]; omega)
          have hcell := HAt.out i hlt
          have hsS : rdS L K (i + 1) = rdS L K i ++ (⟨#[97, 98, 99, 100, 101, 102, 104, 106, 108, 110, 111, 112, 114, 116, 117, 121]⟩ : ByteArray).extract (rdJ L K i) (rdJ L K i + 1) := rfl
          have hsK : rdK L K (i + 1) = rdK L K i % prodL (L.drop (i + 1)) := rfl
          have hJ : rdJ L K i = (canP (L.getD i 0) 16).getD (rdK L K i / prodL (L.drop (i + 1))) 0 := rfl
          have hkb : rdK L K i < 16777216 := by
            have h1 := rdK_lt L K HK.out i (by rw [HN.out]; omega)
            have h2 := prodL_le (L.drop i)
            have h3 := pow16 (L.drop i).length (by rw [List.length_drop, HN.out]; omega)
            omega
          have hpb2 : prodL (L.drop (i + 1)) ≤ 16777216 := by
            have h2 := prodL_le (L.drop (i + 1))
            have h3 := pow16 (L.drop (i + 1)).length (by rw [List.length_drop, HN.out]; omega)
            omega
          have HCan := Lib.hid (fun W => l10Can_any (L.getD i 0) hcell W)
          have hdl : (L.drop (i + 1)).length = n - (i + 1) := by rw [List.length_drop, HN.out]
          have HCnt := Lib.hid (fun ao' cap' W h => l10Count_any ao' (n - (i + 1)) cap' (L.drop (i + 1)) W h hdl (by omega) (fun t ht => by
            have e : (L.drop (i + 1)).getD t 0 = L.getD (i + 1 + t) 0 := by simp only [List.getD_eq_getElem?_getD, List.getElem?_drop]
            rw [e]; exact HAt.out _ (by omega)))
          have hdrop := RdI_drop (RdI_below hr hbw) (i + 1)
          unfold canN at hjn
          generalize prodL (L.drop (i + 1)) = b at *
          generalize rdJ L K i = J at *
          generalize rdS L K i = S at *
          generalize rdK L K i = kk at *
          have hq : wrap64 ((kk : Int) / (b : Int)) = ((kk / b : Nat) : Int) := by
            rw [Int.natCast_ediv, IntWalk.wrap64_in _ ⟨?_, ?_⟩]
            · have := Int.ediv_nonneg (a := (kk : Int)) (b := (b : Int)) (by omega) (by omega); omega
            · have := Int.ediv_le_self (a := (kk : Int)) (b : Int) (by omega); omega
          generalize kk / b = jj at *
          generalize L.getD i 0 = y at *
          have hps : (canP y 16).length ≤ 16 := canP_le _ _
          generalize canP y 16 = ps at *
          have HS := Lib.hid hsS
          have HKS := Lib.hid hsK
          have HJ := Lib.hid hJ
          clear hsS hsK hJ hc1 hdl hr
          have hin6 : i < 6 := by omega
          have hw1 : IntKind.i64.wrap ((i : Int) + 1) = (i : Int) + 1 := IntWalk.i64_in _ (by omega)
          have hw2 : (0 : Int) ≤ (i : Int) + 1 := by omega
          have hw3 : ((i : Int) + 1).toNat = i + 1 := by omega
          by_cases hce : cap = i + 1
          · have hin1 : n = i + 1 := by omega
            have hdn : L.drop (i + 1) = [] := List.drop_eq_nil_of_le (by rw [HN.out]; omega)
            have h0 : n - (i + 1) = 0 := by omega
            rw [h0, hdn] at HCnt
            have HCnt2 := Lib.hid (fun ao' cap' W => HCnt.out ao' cap' W (.inl rfl))
            clear hdrop hdn h0 HCnt
            subst hce
            subst hin1
            go_wp2_with fail
            go_region_with (first | (go_at_call 30; refine (HCnt2.out _ _ _).mono ?_; rintro e w2 ⟨rfl, hb2⟩; have hx2 := (hb2.cell (p := ⟨b1, o1 + i, none⟩) hb1').trans hx) | (go_at_call 37; refine (HCan.out _).mono ?_; rintro e w3 ⟨co, cc, rfl, hown, hb3⟩))
            all_goals
              clear hw1 hw2 hw3
              rcases RdI_owns hown with h | ⟨b2, o2, rfl, hb2', hc2⟩
              · have := congrArg List.length h; rw [ints_length, List.length_nil] at this; omega
              have hcj := hc2 jj (by rw [ints_length]; exact hjn)
              rw [ints_getD, ← HJ.out] at hcj
              clear hc2 hown
              go_wp2
              go_roundw
              case rel => exact ⟨i + 1, by omega, by go_num, by first | (rw [HKS.out]; done) | (rw [HKS.out]; rfl), by first | (rw [HS.out]; done) | (rw [HS.out]; rfl), by (repeat (first | assumption | exact Below.refl _ _ | refine belowThen ?_ (Go.Joins.below_alloc1 _ _) | apply Below.drew | refine belowThen ?_ (by assumption) | refine belowThen ?_ (Go.Joins.below_draws _ _ _) | refine Below.setCell ?_ (by first | exact Nat.le_refl _ | (simp; done) | (simp; omega)) _))⟩
              case measure => first | (simp [intOf]; done) | (simp [intOf]; omega)
          · go_wp2_with fail
            go_region_with (first | (go_at_call 30; refine (HCnt.out _ _ _ (RdI_below hdrop (Go.Joins.below_draws _ _ _))).mono ?_; rintro e w2 ⟨rfl, hb2⟩; have hx2 := (hb2.cell (p := ⟨b1, o1 + i, none⟩) hb1').trans hx) | (go_at_call 37; refine (HCan.out _).mono ?_; rintro e w3 ⟨co, cc, rfl, hown, hb3⟩))
            all_goals
              clear hw1 hw2 hw3
              rcases RdI_owns hown with h | ⟨b2, o2, rfl, hb2', hc2⟩
              · have := congrArg List.length h; rw [ints_length, List.length_nil] at this; omega
              have hcj := hc2 jj (by rw [ints_length]; exact hjn)
              rw [ints_getD, ← HJ.out] at hcj
              clear hc2 hown
              go_wp2
              go_roundw
              case rel => exact ⟨i + 1, by omega, by go_num, by first | (rw [HKS.out]; done) | (rw [HKS.out]; rfl), by first | (rw [HS.out]; done) | (rw [HS.out]; rfl), by (repeat (first | assumption | exact Below.refl _ _ | refine belowThen ?_ (Go.Joins.below_alloc1 _ _) | apply Below.drew | refine belowThen ?_ (by assumption) | refine belowThen ?_ (Go.Joins.below_draws _ _ _) | refine Below.setCell ?_ (by first | exact Nat.le_refl _ | (simp; done) | (simp; omega)) _))⟩
              case measure => first | (simp [intOf]; done) | (simp [intOf]; omega)
        · have hin : i = n := by omega
          subst hin
          have hN : rdS L K L.length = rdS L K i := by rw [HN.out]
          have HNS := Lib.hid hN
          clear hN
          go_wp2
          go_ret2
          exact ⟨by rw [HNS.out]; rfl, hbw⟩
end Go.Proofs.YtfdmcnnjifggnaaDoor
