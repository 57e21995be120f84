/- Joined texts: Known, Count, Most. -/
import Derived.Test.YtcddfpbohejhhaaGreatMg05
import Derived.Test.YtcddfpbohejhhaaGreatMg08
import Derived.Test.YtcddfpbohejhhaaGreatMg03
import Derived.Test.YtcddfpbohejhhaaGreatMg02
import Derived.Lib.Hide
import Derived.Test.YtcddfpbohejhhaaGreatMg01
namespace Go.Proofs.YtcddfpbohejhhaaGreat
open Go.RowKit

/-- What is known of a cell. -/
structure Kn where
  num : Nat
  miss : Bool
  long : Int
  short : Int
  plays : Int
/-- What is known so far of a cell: whether there is a cell that it can become, and the rest. -/
structure St where
  some : Bool
  miss : Bool
  long : Int
  short : Int
  plays : Int
def stepK (s : St) (x : Kn) : St :=
  ⟨true, s.miss || !x.miss, max s.long (wrap64 (x.long + 1)), if (!s.some || decide (wrap64 (x.short + 1) < s.short)) = true then wrap64 (x.short + 1) else s.short, wrap64 (s.plays + x.plays)⟩
def stK (xs : List Kn) : St := xs.foldl stepK ⟨false, false, 0, 0, 0⟩
theorem stK_succ (xs : List Kn) (x : Kn) : stK (xs ++ [x]) = stepK (stK xs) x := by simp [stK]
def numsK (xs : List Kn) : List Int := xs.map fun x => (x.num : Int)
def knF (_ : Nat) (xs : List Kn) : Kn :=
  ⟨mexN (numsK xs), (stK xs).miss || !(stK xs).some, (stK xs).long, (stK xs).short, if (stK xs).some = true then (stK xs).plays else 1⟩
def knV (k : Kn) : List Value := [.int .i64 k.num, .bool k.miss, .int .i64 k.long, .int .i64 k.short, .int .i64 k.plays]

theorem valC_hom {α β : Type} (L : List Int) (F : Nat → List α → α) (G : Nat → List β → β) (g : α → β) (I : Nat → α → Prop)
    (h : ∀ c, c < 128 → (∀ x ∈ litL L c, c < x ∧ x < 128 ∧ I x (valC L F x)) → g (F c ((litL L c).map (valC L F))) = G c ((litL L c).map fun x => g (valC L F x)) ∧ I c (F c ((litL L c).map (valC L F)))) :
    ∀ c, c < 128 → g (valC L F c) = valC L G c ∧ I c (valC L F c) := by
  have : ∀ k c, c < 128 → 128 - c ≤ k → g (valC L F c) = valC L G c ∧ I c (valC L F c) := by
    intro k
    induction k with
    | zero => intro c hc h0; omega
    | succ k ih =>
      intro c hc hk
      have hx : ∀ x ∈ litL L c, c < x ∧ x < 128 ∧ g (valC L F x) = valC L G x ∧ I x (valC L F x) := by
        intro x hx
        have h1 := litP_mem hc (Nat.le_refl 7) hx
        exact ⟨h1.1, h1.2.1, ih x h1.2.1 (by omega)⟩
      obtain ⟨h1, h2⟩ := h c hc (fun x hm => ⟨(hx x hm).1, (hx x hm).2.1, (hx x hm).2.2.2⟩)
      rw [valC_eq L F c hc, valC_eq L G c hc]
      refine ⟨h1.trans (congrArg (G c) (List.map_congr_left fun x hm => (hx x hm).2.2.1)), h2⟩
  exact fun c hc => this 128 c hc (by omega)
def mexI (_ : Nat) (vs : List Int) : Int := ((mexN vs : Nat) : Int)
theorem known_num (L : List Int) (c : Nat) (hc : c < 128) : ((valC L knF c).num : Int) = valC L mexI c := by
  refine (valC_hom L knF mexI (fun k => (k.num : Int)) (fun _ _ => True) ?_ c hc).1
  intro c hc _
  refine ⟨?_, trivial⟩
  show ((mexN (numsK _) : Nat) : Int) = _
  unfold numsK
  rw [List.map_map]
  rfl
theorem stK_some (xs : List Kn) : ∀ s : St, (xs.foldl stepK s).some = (s.some || decide (0 < xs.length)) := by
  induction xs with
  | nil => intro s; simp
  | cons x xs ih => intro s; rw [List.foldl_cons, ih]; simp [stepK]
theorem stK_miss (xs : List Kn) : ∀ s : St, (xs.foldl stepK s).miss = (s.miss || (xs.map Kn.miss).contains false) := by
  induction xs with
  | nil => intro s; simp
  | cons x xs ih =>
    intro s; rw [List.foldl_cons, ih]
    cases h : x.miss <;> simp [stepK, h]
theorem known_miss (L : List Int) (c : Nat) (hc : c < 128) : (valC L knF c).miss = valC L missF c := by
  refine (valC_hom L knF missF Kn.miss (fun _ _ => True) ?_ c hc).1
  intro c hc _
  refine ⟨?_, trivial⟩
  show ((stK _).miss || !(stK _).some) = _
  unfold stK missF
  rw [stK_some, stK_miss, List.map_map]
  simp only [Bool.false_or, List.length_map]
  show (List.contains ((litL L c).map fun x => (valC L knF x).miss) false || _) = _
  by_cases h0 : (litL L c).length = 0
  · simp [h0]
  · simp [h0, show 0 < (litL L c).length by omega]
theorem stK_plays (xs : List Kn) : ∀ s : St, (xs.foldl stepK s).plays = (xs.map Kn.plays).foldl plusW s.plays := by
  induction xs with
  | nil => intro s; rfl
  | cons x xs ih => intro s; rw [List.foldl_cons, ih]; rfl
theorem known_plays (L : List Int) (c : Nat) (hc : c < 128) : (valC L knF c).plays = valC L playsF c := by
  refine (valC_hom L knF playsF Kn.plays (fun _ _ => True) ?_ c hc).1
  intro c hc _
  refine ⟨?_, trivial⟩
  show (if (stK _).some = true then (stK _).plays else 1) = _
  unfold stK playsF foldT
  rw [stK_some, stK_plays, List.map_map]
  simp only [Bool.false_or, List.length_map]
  by_cases h0 : (litL L c).length = 0
  · simp [h0]
  · rw [if_pos (by simp; omega), if_neg h0]; rfl
theorem wrapIn (x : Int) (h0 : -9223372036854775808 ≤ x) (h1 : x ≤ 9223372036854775807) : wrap64 x = x := by unfold wrap64; omega
theorem foldMax_shift (ys : List Int) : ∀ m : Int, (ys.map fun y => y + 1).foldl max (m + 1) = ys.foldl max m + 1 := by
  induction ys with
  | nil => intro m; rfl
  | cons y ys ih => intro m; rw [List.map_cons, List.foldl_cons, List.foldl_cons, ← ih]; congr 1; omega
theorem foldMin_shift (ys : List Int) : ∀ m : Int, (ys.map fun y => y + 1).foldl min (m + 1) = ys.foldl min m + 1 := by
  induction ys with
  | nil => intro m; rfl
  | cons y ys ih => intro m; rw [List.map_cons, List.foldl_cons, List.foldl_cons, ← ih]; congr 1; omega
theorem foldMax_bound (ys : List Int) (B : Int) (h : ∀ y ∈ ys, 0 ≤ y ∧ y ≤ B) : ∀ m : Int, 0 ≤ m → m ≤ B → 0 ≤ ys.foldl max m ∧ ys.foldl max m ≤ B := by
  induction ys with
  | nil => intro m h0 h1; exact ⟨h0, h1⟩
  | cons y ys ih =>
    intro m h0 h1
    have hy := h y List.mem_cons_self
    exact ih (fun z hz => h z (List.mem_cons_of_mem _ hz)) _ (by omega) (by omega)
theorem foldMin_bound (ys : List Int) (B : Int) (h : ∀ y ∈ ys, 0 ≤ y ∧ y ≤ B) : ∀ m : Int, 0 ≤ m → m ≤ B → 0 ≤ ys.foldl min m ∧ ys.foldl min m ≤ B := by
  induction ys with
  | nil => intro m h0 h1; exact ⟨h0, h1⟩
  | cons y ys ih =>
    intro m h0 h1
    have hy := h y List.mem_cons_self
    exact ih (fun z hz => h z (List.mem_cons_of_mem _ hz)) _ (by omega) (by omega)
theorem stK_long (xs : List Kn) (h : ∀ x ∈ xs, 0 ≤ x.long ∧ x.long ≤ 1000) : ∀ s : St, (xs.foldl stepK s).long = ((xs.map Kn.long).map fun y => y + 1).foldl max s.long := by
  induction xs with
  | nil => intro s; rfl
  | cons x xs ih =>
    intro s
    have hx := h x List.mem_cons_self
    rw [List.foldl_cons, ih (fun z hz => h z (List.mem_cons_of_mem _ hz))]
    show List.foldl max (max s.long (wrap64 (x.long + 1))) _ = _
    rw [wrapIn _ (by omega) (by omega)]
    rfl
theorem stK_short (xs : List Kn) (h : ∀ x ∈ xs, 0 ≤ x.short ∧ x.short ≤ 1000) : ∀ s : St, s.some = true → (xs.foldl stepK s).short = ((xs.map Kn.short).map fun y => y + 1).foldl min s.short := by
  induction xs with
  | nil => intro s _; rfl
  | cons x xs ih =>
    intro s hs
    have hx := h x List.mem_cons_self
    rw [List.foldl_cons, ih (fun z hz => h z (List.mem_cons_of_mem _ hz)) _ rfl]
    show List.foldl min (if (!s.some || decide (wrap64 (x.short + 1) < s.short)) = true then wrap64 (x.short + 1) else s.short) _ = _
    rw [wrapIn _ (by omega) (by omega), hs]
    rw [List.map_cons, List.map_cons, List.foldl_cons]
    congr 1
    simp only [Bool.not_true, Bool.false_or, decide_eq_true_eq]
    split <;> omega
theorem known_long (L : List Int) (c : Nat) (hc : c < 128) : (valC L knF c).long = valC L longF c := by
  refine (valC_hom L knF longF Kn.long (fun c k => 0 ≤ k.long ∧ k.long ≤ 128 - c) ?_ c hc).1
  intro c hc hI
  have hb : ∀ x ∈ (litL L c).map (valC L knF), 0 ≤ x.long ∧ x.long ≤ 127 - (c : Int) := by
    intro x hx
    obtain ⟨y, hy, rfl⟩ := List.mem_map.1 hx
    have := hI y hy
    omega
  have hg : ∀ xs : List Kn, (xs.map Kn.long) = xs.map fun k => k.long := fun _ => rfl
  show (stK _).long = _ ∧ 0 ≤ (stK _).long ∧ (stK _).long ≤ _
  rw [show ((litL L c).map fun x => (valC L knF x).long) = ((litL L c).map (valC L knF)).map Kn.long by rw [List.map_map]; rfl]
  generalize (litL L c).map (valC L knF) = xs at hb ⊢
  unfold stK
  rw [stK_long xs (fun x hx => by have := hb x hx; omega)]
  unfold longF
  rw [List.length_map]
  cases xs with
  | nil => simp; omega
  | cons x xs =>
    rw [if_neg (by simp)]
    have hx := hb x List.mem_cons_self
    simp only [List.map_cons, List.foldl_cons, List.getD_cons_zero, foldT]
    rw [show max (0 : Int) (x.long + 1) = x.long + 1 by omega, foldMax_shift, show max x.long x.long = x.long by omega]
    have hbd := foldMax_bound (xs.map Kn.long) (127 - (c : Int)) (fun y hy => by
      obtain ⟨k, hk, rfl⟩ := List.mem_map.1 hy
      exact hb k (List.mem_cons_of_mem _ hk)) x.long hx.1 hx.2
    rw [wrapIn _ (by omega) (by omega)]
    omega
theorem known_short (L : List Int) (c : Nat) (hc : c < 128) : (valC L knF c).short = valC L shortF c := by
  refine (valC_hom L knF shortF Kn.short (fun c k => 0 ≤ k.short ∧ k.short ≤ 128 - c) ?_ c hc).1
  intro c hc hI
  have hb : ∀ x ∈ (litL L c).map (valC L knF), 0 ≤ x.short ∧ x.short ≤ 127 - (c : Int) := by
    intro x hx
    obtain ⟨y, hy, rfl⟩ := List.mem_map.1 hx
    have := hI y hy
    omega
  show (stK _).short = _ ∧ 0 ≤ (stK _).short ∧ (stK _).short ≤ _
  rw [show ((litL L c).map fun x => (valC L knF x).short) = ((litL L c).map (valC L knF)).map Kn.short by rw [List.map_map]; rfl]
  generalize (litL L c).map (valC L knF) = xs at hb ⊢
  unfold stK shortF
  rw [List.length_map]
  cases xs with
  | nil => simp; omega
  | cons x xs =>
    rw [if_neg (by simp)]
    have hx := hb x List.mem_cons_self
    rw [List.foldl_cons, stK_short xs (fun y hy => by have := hb y (List.mem_cons_of_mem _ hy); omega) _ rfl]
    simp only [List.map_cons, List.foldl_cons, List.getD_cons_zero, foldT]
    have e : (stepK ⟨false, false, 0, 0, 0⟩ x).short = x.short + 1 := by
      show (if (!false || decide (wrap64 (x.short + 1) < 0)) = true then wrap64 (x.short + 1) else (0 : Int)) = _
      rw [if_pos (by simp), wrapIn _ (by omega) (by omega)]
    rw [e, foldMin_shift, show min x.short x.short = x.short by omega]
    have hbd := foldMin_bound (xs.map Kn.short) (127 - (c : Int)) (fun y hy => by
      obtain ⟨k, hk, rfl⟩ := List.mem_map.1 hy
      exact hb k (List.mem_cons_of_mem _ hk)) x.short hx.1 hx.2
    rw [wrapIn _ (by omega) (by omega)]
    omega
/-- What all know of the 128 cells. -/
def knAll (L : List Int) : List Kn := (List.range 128).map (valC L knF)
theorem mexN_le (L : List Int) : mexN L ≤ L.length := by
  have : ∀ t k, mexAt L k → L.length - k ≤ t → mexN L ≤ L.length := by
    intro t
    induction t with
    | zero =>
      intro k h h0
      have := mexAt_le h
      cases hc : L.contains (k : Int) with
      | true => have := (mexAt_in h hc).2; omega
      | false => rw [mexAt_out h hc]; exact this
    | succ t ih =>
      intro k h h0
      have := mexAt_le h
      cases hc : L.contains (k : Int) with
      | true => exact ih (k + 1) (mexAt_in h hc).1 (by omega)
      | false => rw [mexAt_out h hc]; exact this
  exact this L.length 0 (mexAt_zero L) (by omega)
theorem known_num_le (L : List Int) (c : Nat) (hc : c < 128) : (valC L knF c).num ≤ 7 := by
  rw [valC_eq L knF c hc]
  show mexN (numsK _) ≤ 7
  refine Nat.le_trans (mexN_le _) ?_
  simp only [numsK, List.length_map]
  exact litP_le L c 7
end Go.Proofs.YtcddfpbohejhhaaGreat

namespace Go.Proofs.YtcddfpbohejhhaaGreat
open Go.RowKit

/-- How many of the first k bars light. -/
def cntP (c : Nat) : Nat → Nat
  | 0 => 0
  | k + 1 => cntP c k + c / 2 ^ k % 2
/-- How many bars light. -/
def cnt (c : Nat) : Nat := cntP c 7
theorem cntP_le (c k : Nat) : cntP c k ≤ k := by
  induction k with
  | zero => exact Nat.le_refl _
  | succ k ih => have : c / 2 ^ k % 2 < 2 := Nat.mod_lt _ (by omega); unfold cntP; omega
theorem cnt_le (c : Nat) : cnt c ≤ 7 := cntP_le c 7
theorem bit_and (c k : Nat) (hc : c < 4611686018427387904) : bits .and .i64 ((c : Int) / 2 ^ k) 1 = ((c / 2 ^ k % 2 : Nat) : Int) := by
  have h1 : c / 2 ^ k ≤ c := Nat.div_le_self _ _
  have e : ((c : Int) / 2 ^ k) = ((c / 2 ^ k : Nat) : Int) := by simp
  rw [e, show (1 : Int) = ((1 : Nat) : Int) from rfl, and64 _ _ (by omega) (by omega), Nat.and_one_is_mod]
theorem ret_of {a b : Int} {w : World} (h : a = b) : Ending.returned (.int .i64 a) = .returned (.int .i64 b) ∧ w = w := ⟨by rw [h], rfl⟩
theorem OnesCount64_any (c : Nat) (hc : c < 128) (w : World) : Calls Tryz.prog 108 #[.int .u64 c] w
    fun e w' => e = .returned (.int .i64 (cnt c)) ∧ w = w' := by
  go_enter Tryz.func108, Tryz.ntmps108
  go_wp2
  go_ret
  refine ret_of ?_
  obtain ⟨x, rfl⟩ : ∃ x : Fin 128, x.val = c := ⟨⟨c, hc⟩, rfl⟩
  clear hc w
  revert x
  decide +kernel
theorem OnesCount_any (c : Nat) (hc : c < 128) (w : World) : Calls Tryz.prog 93 #[.int .u64 c] w
    fun e w' => e = .returned (.int .i64 (cnt c)) ∧ w = w' := by
  go_enter Tryz.func93, Tryz.ntmps93
  go_wp2_with (go_at_call 108; refine (OnesCount64_any c hc _).mono ?_; rintro e w' ⟨rfl, rfl⟩)
  go_ret
  exact ⟨rfl, rfl⟩
theorem count_any (c : Nat) (hc : c < 128) (w : World) : Calls Tryz.prog 60 #[.int .i64 c] w
    fun e w' => e = .returned (.int .i64 (cnt c)) ∧ w = w' := by
  go_enter Tryz.func60, Tryz.ntmps60
  go_wp2_with (go_at_call 93; refine (OnesCount_any c hc _).mono ?_; rintro e w' ⟨rfl, rfl⟩)
  go_ret
  exact ⟨rfl, rfl⟩
end Go.Proofs.YtcddfpbohejhhaaGreat

namespace Go.Proofs.YtcddfpbohejhhaaGreat
open Go.RowKit

theorem l1Most_any (x a : Int) (w : World) : Calls Tryz.prog 74 #[.int .i64 x, .int .i64 a] w
    fun e w' => e = .returned (.int .i64 (max x a)) ∧ w = w' := by
  go_enter Tryz.func74, Tryz.ntmps74
  go_wp2
  all_goals go_ret
  all_goals refine ⟨ret_int ?_, rfl⟩
  all_goals omega
end Go.Proofs.YtcddfpbohejhhaaGreat
