/- The contract of the function that computes a value for each cell. -/
import Derived.Test.YtpcmlfohblglaabTabV
import Derived.Test.YtpcmlfohblglaabFindF
import Derived.Lib.Hide
namespace Go.Proofs.Ytpcmlfohblglaab
open Go.RowKit

theorem infoI : (Try.prog.info? 3).map (fun i => (i.zero, i.size, i.bytes)) = some (some (.int .i64 0), 1, 8) := by kernel_rfl
theorem take_map_succI {β : Type} (f : Nat → β) (l : List Nat) (j : Nat) (h : j < l.length) : (l.take (j + 1)).map f = (l.take j).map f ++ [f (l.getD j 0)] := by
  rw [List.take_add_one, List.map_append, List.getElem?_eq_getElem h, List.getD_eq_getElem?_getD, List.getElem?_eq_getElem h]
  rfl
/-- m[k], its value known. -/
theorem wpLookVI (w : World) {ops : Array Oper} {rest : List Oper} {o : Oper} {a : Act} {Q : Exit → Act → World → Prop} (hg : o.guard = none) (m x : Operand) (t : TypeId) (hop : o.op = Op.lookup t m x false)
    (e : TypeId) (ht : Try.prog.underlying t = some (.map 3 e)) (z : Value) (hz : (zeroValue e).run Try.prog w = .ok z w) (b n : Nat) (f : Int → Value) (hm : a.eval m = .map (some b)) (h : mapV w b n z f)
    (k : Int) (hx : a.eval x = .int .i64 k) (hwf : (Lit.int .i64 k).wf = true) (v : Value) (hv : f k = v) (hK : wpList Try.prog ops Q rest (a.put o.dst v) w) : wpList Try.prog ops Q (o :: rest) a w :=
  wpLookV w hg m x t hop e ht z hz b n f hm h k hx hwf (by rw [hv]; exact hK)
theorem mapStepI {L : List Int} {f : Nat → Int} {c : Nat} {u : Int} (hc : c < 128) (hway : wayB (c : Int) L = true) (hu : f c = u) (k : Int) :
    (if k = (c : Int) then Value.int .i64 u else (if ((c + 1 : Nat) : Int) ≤ k ∧ k < 128 ∧ wayB k L = true then Value.int .i64 (f k.toNat) else (.int .i64 0))) = if (c : Int) ≤ k ∧ k < 128 ∧ wayB k L = true then Value.int .i64 (f k.toNat) else (.int .i64 0) := by
  by_cases hk : k = (c : Int)
  · subst hk
    rw [if_pos rfl, if_pos ⟨Int.le_refl _, by omega, hway⟩, Int.toNat_natCast, hu]
  · rw [if_neg hk]
    by_cases h : ((c + 1 : Nat) : Int) ≤ k ∧ k < 128 ∧ wayB k L = true
    · rw [if_pos h, if_pos ⟨by omega, h.2⟩]
    · rw [if_neg h, if_neg (fun g => h ⟨by omega, g.2⟩)]
theorem mapSkipI {L : List Int} {f : Nat → Int} {c : Nat} (hway : wayB (c : Int) L = false) (k : Int) :
    (if ((c + 1 : Nat) : Int) ≤ k ∧ k < 128 ∧ wayB k L = true then Value.int .i64 (f k.toNat) else (.int .i64 0)) = if (c : Int) ≤ k ∧ k < 128 ∧ wayB k L = true then Value.int .i64 (f k.toNat) else (.int .i64 0) := by
  by_cases h : ((c + 1 : Nat) : Int) ≤ k ∧ k < 128 ∧ wayB k L = true
  · rw [if_pos h, if_pos ⟨by omega, h.2⟩]
  · rw [if_neg h, if_neg]
    rintro ⟨h1, h2, h3⟩
    refine h ⟨?_, h2, h3⟩
    rcases Int.lt_or_eq_of_le h1 with h4 | h4
    · omega
    · subst h4; rw [hway] at h3; exact absurd h3 (by decide)
set_option maxHeartbeats 1600000 in
theorem tableI_any (F : Nat → List Int → Int) (K : Nat) (ao : Option Addr) (n cap : Nat) (L : List Int) (w : World) (hr : RdI w ao L) (hn : L.length = n) (hm : n ≤ maxLen) (hD : allDig L) (hK : Enters K)
    (hF : ∀ (c : Nat) (vs : List Int) (bo : Option Addr) (cb : Nat) (W : World), c < 128 → vs.length ≤ 7 → RdV W bo (vs.map (Value.int .i64)) → Below w.heap.size w W → Calls Try.prog K #[.int .i64 c, .slice bo vs.length cb] W fun e w' => e = .returned (Value.int .i64 (F c vs)) ∧ Below W.heap.size W w') :
    Calls Try.prog 28 #[.slice ao n cap, .func (.func K) #[] #[]] w fun e w' => e = .returned (.map (some w.heap.size)) ∧ mapV w' w.heap.size 128 (.int .i64 0) (fun k => if 0 ≤ k ∧ k < 128 ∧ wayB k L = true then Value.int .i64 (valC L F k.toNat) else (.int .i64 0)) ∧ Below w.heap.size w w' := by
  have HD := Lib.hid hD
  have HN := Lib.hid hn
  have HF := Lib.hid hF
  clear hD hn hF
  unfold Enters at hK
  have hA1 := @cellAlloc; have hA2 := @frozenAlloc; have hA3 := @setCellAlloc; go_enter Try.func28, Try.ntmps28
  have hmm := @run_makeMap Try.prog
  go_wp2
  go_loopw [6] (fun c wr => ∃ m : Nat, m ≤ 128 ∧ c = .int .i64 ((m : Int) - 1) ∧ mapV wr w.heap.size (128 - m) (.int .i64 0) (fun k => if (m : Int) ≤ k ∧ k < 128 ∧ wayB k L = true then Value.int .i64 (valC L F k.toNat) else (.int .i64 0)) ∧ Below w.heap.size w wr) (fun c _ => (intOf c + 1).toNat)
  case atStart => exact ⟨128, by omega, rfl, mapV_congr (mapV_made w _) (fun k => by rw [if_neg (by omega)]), Go.Joins.below_alloc1 _ _⟩
  case round =>
    obtain ⟨m, hle, rfl, hmap, hbw⟩ := hrel
    rcases m with _ | c
    · go_wp2
      go_ret
      exact ⟨rfl, hmap, hbw⟩
    · rw [show ((c + 1 : Nat) : Int) - 1 = (c : Int) by omega]
      have hc : c < 128 := by omega
      by_cases hway : wayB (c : Int) L = true
      · go_wp2_with (first | (go_at_call 44; refine (isOnWay_any _ _ _ _ L _ (RdI_below hr hbw) HN.out hm HD.out).mono ?_; rw [hway]; rintro e w1 ⟨rfl, hb1⟩) | (go_at_call 56; refine (lit_any c hc _ _ _ L _ (RdI_below hr (belowThen hbw hb1)) HN.out hm HD.out).mono ?_; rintro e w2 ⟨bo, cb, rfl, hown2, hb2⟩))
        have hmap2 := mapV_below hmap (belowThen hb1 hb2)
        have hbw2 := belowThen (belowThen hbw hb1) hb2
        have hRd := RdI_owns hown2
        have hlen := litP_le L c 7
        obtain ⟨l, hl⟩ : ∃ l, litL L c = l := ⟨_, rfl⟩
        have hmem : ∀ x, x ∈ l → c < x ∧ x < 128 ∧ wayB (x : Int) L = true := by rw [← hl]; exact fun x hx => litP_mem hc (Nat.le_refl 7) hx
        change (litL L c).length ≤ 7 at hlen
        have HV := Lib.hid (valC_eq L F c hc)
        rw [hl] at hRd hlen hown2 HV ⊢
        clear hmap hb1 hb2 hbw hown2 hl
        go_wp2_with fail
        go_loopw [7, 23] (fun v i wr => ∃ j : Nat, j ≤ l.length ∧ i = .int .i64 j ∧ ownsV wr w2.heap.size 3 v ((l.take j).map fun x => Value.int .i64 (valC L F x)) ∧ Below w2.heap.size w2 wr) (fun _ i _ => l.length - (intOf i).toNat)
        case atStart => exact ⟨0, by omega, rfl, ownsV_nil _ _ _, Below.refl _ _⟩
        case round =>
          obtain ⟨j, hj, rfl, hown, hbi⟩ := hrel
          by_cases hlt : j < l.length
          · have hd : decide ((j : Int) < (l.length : Int)) = true := by simp; omega
            rcases RdI_below hRd hbi with h | ⟨b1, o1, rfl, hb1, hc1⟩
            · have := congrArg List.length h; rw [ints_length, List.length_nil] at this; omega
            have hx := hc1 j (by rw [ints_length]; exact hlt)
            rw [ints_getD] at hx
            have hm1 := hmem (l.getD j 0) (by rw [List.getD_eq_getElem?_getD, List.getElem?_eq_getElem hlt]; exact List.getElem_mem _)
            have hsucc : (l.take (j + 1)).map (fun x => Value.int .i64 (valC L F x)) = (l.take j).map (fun x => Value.int .i64 (valC L F x)) ++ [Value.int .i64 (valC L F (l.getD j 0))] := take_map_succI _ l j hlt
            generalize l.getD j 0 = x at hx hm1 hsucc
            have hmapr := mapV_below hmap2 hbi
            have hfx : (if ((c + 1 : Nat) : Int) ≤ (x : Int) ∧ (x : Int) < 128 ∧ wayB (x : Int) L = true then Value.int .i64 (valC L F (x : Int).toNat) else (.int .i64 0)) = Value.int .i64 (valC L F x) := by
              rw [if_pos ⟨by omega, by omega, hm1.2.2⟩]; rfl
            generalize valC L F x = u at hfx hsucc
            have HS := Lib.hid hsucc
            have HX := Lib.hid hfx
            clear hc1 hsucc hfx hmap2 hRd
            go_wp2_with (first | (at_lookup; refine wpLookVI _ (by rfl) _ _ _ (by rfl) _ (Try.underlying53) _ (by rfl) w.heap.size _ _ (by rfl) hmapr (x : Int) (by rfl) (wf128 x hm1.2.1) (Value.int .i64 u) HX.out ?_) | (at_builtin; refine wpAppendV wr (by rfl) _ _ 24 3 (.int .i64 0) 8 (by rfl) (Try.underlying24) infoI (by rfl) (by decide) w2.heap.size _ _ (by rfl) hown (Value.int .i64 u) (by rfl) _ (by rfl) (by rw [List.length_map, List.length_take]; omega) hbi.size ?_; intro co cc w4 hv4 hb4))
            go_roundw
            case rel => exact ⟨j + 1, by omega, by go_num, by rw [HS.out]; rw [List.length_map, List.length_take, Nat.min_eq_left (Nat.le_of_lt hlt)] at hv4; exact hv4, hbi.trans hb4⟩
            case measure => simp [intOf]; omega
          · have hje : j = l.length := by omega
            subst hje
            rw [List.take_length] at hown
            obtain ⟨no, nc, rfl, hrv⟩ := ownsV_shape hown
            have hcall := HF.out c (l.map (valC L F)) no nc wr hc (by rw [List.length_map]; exact hlen) (by rw [List.map_map]; exact hrv) (belowThen hbw2 hbi)
            rw [List.length_map, ← HV.out] at hcall
            have hmapr := mapV_below hmap2 hbi
            have hbr := belowThen hbw2 hbi
            have HC := Lib.hid hcall
            rw [List.length_map]
            clear hcall hrv hown hmap2 hRd hbi hbw2 hmem
            go_wp2_with fail
            refine HC.out.mono ?_
            rintro e w5 ⟨rfl, hb5⟩
            have hmap5 := mapV_below hmapr hb5
            have hbr5 := belowThen hbr hb5
            generalize hu : valC L F c = u
            have HU := Lib.hid hu
            clear hmapr hbr hb5 hu
            go_wp2_with (at_mapUpdate; refine wpUpdV _ (by rfl) _ _ _ _ (by rfl) _ (Try.underlying53) _ w.heap.size _ _ (by rfl) hmap5 (by omega) (c : Int) (by rfl) (wf128 c hc) _ (by rfl) ?_; intro w6 hm6 hg6)
            go_roundw
            case rel => exact ⟨c, by omega, by first | rfl | go_num, mapV_congr (mapV_mono hm6 (by omega)) (fun k => mapStepI (by omega) hway HU.out k), below_grown hbr5 hg6 (Nat.le_refl _)⟩
            case measure => first | (simp [intOf]; done) | (simp [intOf]; omega)
      · rw [Bool.not_eq_true] at hway
        go_wp2_with (first | (go_at_call 44; refine (isOnWay_any _ _ _ _ L _ (RdI_below hr hbw) HN.out hm HD.out).mono ?_; rw [hway]; rintro e w1 ⟨rfl, hb1⟩))
        go_roundw
        case rel => exact ⟨c, by omega, by first | rfl | go_num, mapV_congr (mapV_mono (mapV_below hmap hb1) (by omega)) (fun k => mapSkipI hway k), belowThen hbw hb1⟩
        case measure => first | (simp [intOf]; done) | (simp [intOf]; omega)
end Go.Proofs.Ytpcmlfohblglaab
