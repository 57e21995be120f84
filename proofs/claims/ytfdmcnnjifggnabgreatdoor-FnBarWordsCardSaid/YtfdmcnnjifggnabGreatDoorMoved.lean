/- Contracts of the functions that turn and mirror cells and rows. -/
import Derived.Test.YtfdmcnnjifggnabGreatDoorShort
import Derived.Lib.Hide
namespace Go.Proofs.YtfdmcnnjifggnabGreatDoor
open Go.RowKit

/-- The first k bars, each as the bar T k of the cell. -/
def movS (T : Nat → Nat) (c : Nat) : Nat → Nat
  | 0 => 0
  | k + 1 => movS T c k ||| c / 2 ^ T k % 2 * 2 ^ k
def movI (T : Nat → Nat) (c : Nat) : Nat → Nat
  | 0 => 0
  | k + 1 => movI T c k ||| c / 2 ^ k % 2 * 2 ^ T k
theorem movS_lt (T : Nat → Nat) (c k : Nat) : movS T c k < 2 ^ k := by
  induction k with
  | zero => simp [movS]
  | succ k ih =>
    unfold movS
    have h1 : c / 2 ^ T k % 2 < 2 := Nat.mod_lt _ (by decide)
    have h2 : 2 ^ k < 2 ^ (k + 1) := Nat.pow_lt_pow_right (by omega) (by omega)
    have h3 : c / 2 ^ T k % 2 * 2 ^ k < 2 ^ (k + 1) := by
      rcases (by omega : c / 2 ^ T k % 2 = 0 ∨ c / 2 ^ T k % 2 = 1) with h | h
      · rw [h, Nat.zero_mul]; omega
      · rw [h, Nat.one_mul]; exact h2
    exact Nat.or_lt_two_pow (by omega) h3
theorem movI_lt (T : Nat → Nat) (hT : ∀ k, k < 7 → T k < 7) (c k : Nat) (hk : k ≤ 7) : movI T c k < 128 := by
  induction k with
  | zero => simp [movI]
  | succ k ih =>
    unfold movI
    have h1 : c / 2 ^ k % 2 < 2 := Nat.mod_lt _ (by decide)
    have h3 : c / 2 ^ k % 2 * 2 ^ T k < 128 := by
      rcases (by omega : c / 2 ^ k % 2 = 0 ∨ c / 2 ^ k % 2 = 1) with h | h
      · rw [h, Nat.zero_mul]; omega
      · rw [h, Nat.one_mul]; exact pow_lt (T k) (hT k (by omega))
    exact Nat.or_lt_two_pow (n := 7) (ih (by omega)) h3
def mirT (k : Nat) : Nat := [0, 5, 4, 3, 2, 1, 6].getD k 0
def turT (k : Nat) : Nat := [3, 4, 5, 0, 1, 2, 6].getD k 0
theorem mirT_lt : ∀ k, k < 7 → mirT k < 7 := by
  intro k hk
  have : ∀ x : Fin 7, mirT x.val < 7 := by decide
  exact this ⟨k, hk⟩
theorem turT_lt : ∀ k, k < 7 → turT k < 7 := by
  intro k hk
  have : ∀ x : Fin 7, turT x.val < 7 := by decide
  exact this ⟨k, hk⟩
def mirC (c : Nat) : Nat := movS mirT c 7
def turC (c : Nat) : Nat := movS turT c 7
theorem mir_same (c : Nat) (hc : c < 128) : movI mirT c 7 = mirC c := by
  have : ∀ x : Fin 128, movI mirT x.val 7 = mirC x.val := by decide +kernel
  exact this ⟨c, hc⟩
theorem tur_same (c : Nat) (hc : c < 128) : movI turT c 7 = turC c := by
  have : ∀ x : Fin 128, movI turT x.val 7 = turC x.val := by decide +kernel
  exact this ⟨c, hc⟩
theorem mirC_lt (c : Nat) : mirC c < 128 := movS_lt mirT c 7
theorem turC_lt (c : Nat) : turC c < 128 := movS_lt turT c 7
set_option maxHeartbeats 800000 in
theorem l2Moved_any (T : Nat → Nat) (hT : ∀ k, k < 7 → T k < 7) (c : Nat) (hc : c < 128) (b : Nat) (w : World) (hr : ∀ k, k < 7 → w.cell? ⟨b, k, none⟩ = some (.int .i64 (T k : Nat))) :
    Calls Tryz.prog 104 #[.int .i64 c, .slice (some ⟨b, 0, none⟩) 7 7] w fun e w' => e = .returned (.int .i64 (movS T c 7)) ∧ w = w' := by
  have HR := Lib.hid hr
  have HT := Lib.hid hT
  clear hr hT
  go_enter Tryz.func104, Tryz.ntmps104
  go_wp2
  go_loop [5, 6] (fun o i => ∃ k : Nat, k ≤ 7 ∧ i = .int .i64 k ∧ o = .int .i64 (movS T c k)) (fun _ i => 7 - (intOf i).toNat)
  case atStart => exact ⟨0, by omega, rfl, rfl⟩
  case round =>
    obtain ⟨k, hk, rfl, rfl⟩ := hrel
    by_cases hlt : k < 7
    · have hx := HR.out k hlt
      have ht := HT.out k hlt
      have hsucc : movS T c (k + 1) = movS T c k ||| c / 2 ^ T k % 2 * 2 ^ k := rfl
      have hM := Nat.lt_of_lt_of_le (movS_lt T c k) (Nat.pow_le_pow_right (n := 2) (by omega) hk)
      generalize T k = t at hx ht hsucc
      have hbit := bit_fact c t (by omega)
      have hbb : c / 2 ^ t % 2 < 2 := Nat.mod_lt _ (by decide)
      generalize c / 2 ^ t % 2 = bb at hbit hbb hsucc
      have hs := shl_fact k hlt
      have hp := pow_lt k hlt
      generalize movS T c k = M at hsucc hM ⊢
      have hor := or64 M (2 ^ k) (by omega) (by omega)
      have hor0 := or64 M 0 (by omega) (by omega)
      rw [Nat.or_zero] at hor0
      have hkk : (k : Int) < 7 := by omega
      rcases (by omega : bb = 0 ∨ bb = 1) with rfl | rfl
      · rw [Nat.zero_mul, Nat.or_zero] at hsucc
        have HS := Lib.hid hsucc
        clear hsucc
        go_wp2
        go_round
        case rel => exact ⟨k + 1, by omega, by go_num, by first | (rw [HS.out]; done) | (rw [HS.out]; rfl) | (rw [HS.out]; go_num)⟩
        case measure => simp [intOf]; omega
      · rw [Nat.one_mul] at hsucc
        generalize (2 ^ k : Nat) = m at hs hp hor hsucc
        have HS := Lib.hid hsucc
        clear hsucc
        go_wp2
        go_round
        case rel => exact ⟨k + 1, by omega, by go_num, by first | (rw [HS.out]; done) | (rw [HS.out]; rfl) | (rw [HS.out]; go_num)⟩
        case measure => simp [intOf]; omega
    · have hk7 : k = 7 := by omega
      subst hk7
      go_wp2
      go_ret
      exact ⟨rfl, rfl⟩
theorem l2Mirror_any (c : Nat) (hc : c < 128) (w : World) : Calls Tryz.prog 88 #[.int .i64 c] w fun e w' => e = .returned (.int .i64 (mirC c)) ∧ Below w.heap.size w w' := by
  have hcell : ∀ k, k < 7 → (w.alloc (.cells #[.int .i64 0, .int .i64 5, .int .i64 4, .int .i64 3, .int .i64 2, .int .i64 1, .int .i64 6] 3)).cell? ⟨w.heap.size, k, none⟩ = some (.int .i64 (mirT k : Nat)) := by
    intro k hk
    rw [World.cell?_alloc_at _ _ _ _ rfl]
    match k, hk with
    | 0, _ => rfl
    | 1, _ => rfl
    | 2, _ => rfl
    | 3, _ => rfl
    | 4, _ => rfl
    | 5, _ => rfl
    | 6, _ => rfl
  have HC := Lib.hid (l2Moved_any mirT mirT_lt c hc w.heap.size _ hcell)
  unfold mirC
  generalize movS mirT c 7 = z at HC ⊢
  clear hcell
  go_enter Tryz.func88, Tryz.ntmps88
  go_wp2_with (first | (go_at_call 104; refine HC.out.mono ?_; rintro e w' ⟨rfl, rfl⟩))
  go_ret
  exact ⟨rfl, Go.Joins.below_alloc1 _ _⟩
theorem l2Turn_any (c : Nat) (hc : c < 128) (w : World) : Calls Tryz.prog 84 #[.int .i64 c] w fun e w' => e = .returned (.int .i64 (turC c)) ∧ Below w.heap.size w w' := by
  have hcell : ∀ k, k < 7 → (w.alloc (.cells #[.int .i64 3, .int .i64 4, .int .i64 5, .int .i64 0, .int .i64 1, .int .i64 2, .int .i64 6] 3)).cell? ⟨w.heap.size, k, none⟩ = some (.int .i64 (turT k : Nat)) := by
    intro k hk
    rw [World.cell?_alloc_at _ _ _ _ rfl]
    match k, hk with
    | 0, _ => rfl
    | 1, _ => rfl
    | 2, _ => rfl
    | 3, _ => rfl
    | 4, _ => rfl
    | 5, _ => rfl
    | 6, _ => rfl
  have HC := Lib.hid (l2Moved_any turT turT_lt c hc w.heap.size _ hcell)
  unfold turC
  generalize movS turT c 7 = z at HC ⊢
  clear hcell
  go_enter Tryz.func84, Tryz.ntmps84
  go_wp2_with (first | (go_at_call 104; refine HC.out.mono ?_; rintro e w' ⟨rfl, rfl⟩))
  go_ret
  exact ⟨rfl, Go.Joins.below_alloc1 _ _⟩
set_option maxHeartbeats 1600000 in
set_option maxRecDepth 100000 in
theorem moved_any (T : Nat → Nat) (hT : ∀ k, k < 7 → T k < 7) (c : Nat) (hc : c < 128) (w : World) (t0 t1 t2 t3 t4 t5 t6 : Nat) (h0 : T 0 = t0) (h1 : T 1 = t1) (h2 : T 2 = t2) (h3 : T 3 = t3) (h4 : T 4 = t4) (h5 : T 5 = t5) (h6 : T 6 = t6) :
    Calls Tryz.prog 83 #[.int .i64 c, .agg #[.int .i64 t0, .int .i64 t1, .int .i64 t2, .int .i64 t3, .int .i64 t4, .int .i64 t5, .int .i64 t6]] w fun e w' => e = .returned (.int .i64 (movI T c 7)) ∧ Below w.heap.size w w' := by
  have hi : ∀ k : Nat, k < 7 → ∀ W : World, (Instr.index 72 (.agg #[.int .i64 t0, .int .i64 t1, .int .i64 t2, .int .i64 t3, .int .i64 t4, .int .i64 t5, .int .i64 t6]) (.int .i64 (k : Int))).run Tryz.prog W = .ok (.int .i64 (T k : Nat)) W := by
    intro k hk W
    match k, hk with
    | 0, _ => rw [h0]; rfl
    | 1, _ => rw [h1]; rfl
    | 2, _ => rw [h2]; rfl
    | 3, _ => rw [h3]; rfl
    | 4, _ => rw [h4]; rfl
    | 5, _ => rw [h5]; rfl
    | 6, _ => rw [h6]; rfl
  have HI := Lib.hid hi
  have HT := Lib.hid hT
  clear hi hT h0 h1 h2 h3 h4 h5 h6
  have hA1 := @cellAlloc; have hA2 := @frozenAlloc; have hA3 := @setCellAlloc; go_enter Tryz.func83, Tryz.ntmps83
  go_wp2
  go_loop [5, 9] (fun o i => ∃ k : Nat, k ≤ 7 ∧ i = .int .i64 k ∧ o = .int .i64 (movI T c k)) (fun _ i => 7 - (intOf i).toNat)
  case atStart => exact ⟨0, by omega, rfl, rfl⟩
  case round =>
    obtain ⟨k, hk, rfl, rfl⟩ := hrel
    by_cases hlt : k < 7
    · have hx := HI.out k hlt
      have ht := HT.out k hlt
      have hsucc : movI T c (k + 1) = movI T c k ||| c / 2 ^ k % 2 * 2 ^ T k := rfl
      have hM := movI_lt T (fun k hk => HT.out k hk) c k hk
      generalize T k = t at hx ht hsucc
      have hbit := bit_fact c k (by omega)
      have hbb : c / 2 ^ k % 2 < 2 := Nat.mod_lt _ (by decide)
      generalize c / 2 ^ k % 2 = bb at hbit hbb hsucc
      have hs := shl_fact t ht
      have hp := pow_lt t ht
      generalize movI T c k = M at hsucc hM ⊢
      have hor := or64 M (2 ^ t) (by omega) (by omega)
      have hor0 := or64 M 0 (by omega) (by omega)
      rw [Nat.or_zero] at hor0
      have hkk : (k : Int) < 7 := by omega
      rcases (by omega : bb = 0 ∨ bb = 1) with rfl | rfl
      · rw [Nat.zero_mul, Nat.or_zero] at hsucc
        have HS := Lib.hid hsucc
        clear hsucc
        go_wp2
        go_round
        case rel => exact ⟨k + 1, by omega, by go_num, by first | (rw [HS.out]; done) | (rw [HS.out]; rfl) | (rw [HS.out]; go_num)⟩
        case measure => simp [intOf]; omega
      · rw [Nat.one_mul] at hsucc
        generalize (2 ^ t : Nat) = m at hs hp hor hsucc
        have HS := Lib.hid hsucc
        clear hsucc
        go_wp2
        go_round
        case rel => exact ⟨k + 1, by omega, by go_num, by first | (rw [HS.out]; done) | (rw [HS.out]; rfl) | (rw [HS.out]; go_num)⟩
        case measure => simp [intOf]; omega
    · have hk7 : k = 7 := by omega
      subst hk7
      go_wp2
      go_ret
      exact ⟨rfl, by (repeat (first | assumption | exact Below.refl _ _ | refine belowThen ?_ (Go.Joins.below_alloc1 _ _) | apply Below.drew | refine belowThen ?_ (by assumption) | refine belowThen ?_ (Go.Joins.below_draws _ _ _) | refine Below.setCell ?_ (by first | exact Nat.le_refl _ | (simp; done) | (simp; omega)) _))⟩
theorem mirrored_any (c : Nat) (hc : c < 128) (w : World) : Calls Tryz.prog 59 #[.int .i64 c] w fun e w' => e = .returned (.int .i64 (mirC c)) ∧ Below w.heap.size w w' := by
  have HC := Lib.hid (fun W => by have h := moved_any mirT mirT_lt c hc W 0 5 4 3 2 1 6 rfl rfl rfl rfl rfl rfl rfl; rw [mir_same c hc] at h; exact h : ∀ W, Calls Tryz.prog 83 #[.int .i64 c, .agg #[.int .i64 (0 : Nat), .int .i64 (5 : Nat), .int .i64 (4 : Nat), .int .i64 (3 : Nat), .int .i64 (2 : Nat), .int .i64 (1 : Nat), .int .i64 (6 : Nat)]] W fun e w' => e = .returned (.int .i64 (mirC c)) ∧ Below W.heap.size W w')
  generalize mirC c = z at HC ⊢
  go_enter Tryz.func59, Tryz.ntmps59
  go_wp2_with (first | (go_at_call 83; refine (HC.out _).mono ?_; rintro e w1 ⟨rfl, hb1⟩))
  go_ret
  exact ⟨rfl, hb1⟩
theorem turned_any (c : Nat) (hc : c < 128) (w : World) : Calls Tryz.prog 50 #[.int .i64 c] w fun e w' => e = .returned (.int .i64 (turC c)) ∧ Below w.heap.size w w' := by
  have HC := Lib.hid (fun W => by have h := moved_any turT turT_lt c hc W 3 4 5 0 1 2 6 rfl rfl rfl rfl rfl rfl rfl; rw [tur_same c hc] at h; exact h : ∀ W, Calls Tryz.prog 83 #[.int .i64 c, .agg #[.int .i64 (3 : Nat), .int .i64 (4 : Nat), .int .i64 (5 : Nat), .int .i64 (0 : Nat), .int .i64 (1 : Nat), .int .i64 (2 : Nat), .int .i64 (6 : Nat)]] W fun e w' => e = .returned (.int .i64 (turC c)) ∧ Below W.heap.size W w')
  generalize turC c = z at HC ⊢
  go_enter Tryz.func50, Tryz.ntmps50
  go_wp2_with (first | (go_at_call 83; refine (HC.out _).mono ?_; rintro e w1 ⟨rfl, hb1⟩))
  go_ret
  exact ⟨rfl, hb1⟩
end Go.Proofs.YtfdmcnnjifggnabGreatDoor
