/- The Talmud's shares are fair for every pair, and no others are; of two they are the contest's: plain. -/
import Derived.Test.YtcngecibljgndaaMQFA
import Derived.Test.YtcngecibljgndaaMQPD
namespace Go.Proofs.Ytcngecibljgndaa
open Go.RowKit Go.Shelf

theorem contP_scale (k E a b : Int) (hk : 0 ≤ k) : contP (E * k) (a * k) (b * k) = contP E a b * k := by
  have h : ∀ x y : Int, max (x * k - y * k) 0 = max (x - y) 0 * k := fun x y => by
    rw [← Int.sub_mul]
    rcases Int.le_total 0 (x - y) with h | h
    · rw [Int.max_eq_left h, Int.max_eq_left (Int.mul_nonneg h hk)]
    · rw [Int.max_eq_right h, Int.max_eq_right (Int.mul_nonpos_of_nonpos_of_nonneg h hk), Int.zero_mul]
  unfold contP
  rw [h, h, Int.sub_mul, Int.sub_mul, Int.add_mul, Int.mul_assoc]
theorem contP_mono {E F a b : Int} (h : E ≤ F) : contP E a b ≤ contP F a b := by unfold contP; omega
theorem contP_other (E a b : Int) : contP E b a = 2 * E - contP E a b := by unfold contP; omega
/-- All pairs are fair. -/
def AllFair (xs l : List Int) (d : Int) : Prop := ∀ i j, i < j → j < xs.length → contP (ith l i + ith l j) (ith xs i * d) (ith xs j * d) = 2 * ith l i
theorem allFair_iff (xs l : List Int) (d : Int) : AllFair xs l d ↔ FairTo xs l d xs.length 0 := by
  constructor
  · intro h a b hab hb _
    have := h a b hab hb
    unfold offP; rw [this]; simp
  · intro h i j hij hj
    have := h i j hij hj (.inl (by omega))
    unfold offP at this; simpa using this
theorem AllFair.both {xs l : List Int} {d : Int} (h : AllFair xs l d) {i j : Nat} (hi : i < xs.length) (hj : j < xs.length) (hij : i ≠ j) : contP (ith l i + ith l j) (ith xs i * d) (ith xs j * d) = 2 * ith l i := by
  rcases Nat.lt_or_gt_of_ne hij with h1 | h1
  · exact h i j h1 hj
  · have h2 := h j i h1 hi
    rw [contP_other, Int.add_comm (ith l i), h2]; omega
theorem AllFair.low {E : Int} {xs : List Int} {p : List Int × Int} (hs : Shares E xs p) (h : AllFair xs p.1 p.2) : AllFair xs (lowP p).1 (lowP p).2 := by
  obtain ⟨g, hg, hd, hk⟩ := lowP_at hs
  intro i j hij hj
  have h1 := h i j hij hj
  rw [← hk i (by omega), ← hk j hj, ← hd, ← Int.add_mul, ← Int.mul_assoc, ← Int.mul_assoc, contP_scale _ _ _ _ (by omega), ← Int.mul_assoc] at h1
  exact Int.eq_of_mul_eq_mul_right (show g ≠ 0 by omega) h1
theorem talmud_allFair {E : Int} {xs : List Int} (h : IsProb E xs) : AllFair xs (talmudP E xs).1 (talmudP E xs).2 := by
  have h0 : ∀ x ∈ xs, 0 ≤ x := fun x hx => (h.claims x hx).1
  have e1 := h.estate
  have e2 := h.enough
  intro i j hij hj
  unfold talmudP
  have hmul : ∀ c m : Int, c * (2 * m) = 2 * (c * m) := fun c m => by rw [Int.mul_left_comm]
  split
  · obtain ⟨m, L, hm⟩ := equal_is h0 (show 0 ≤ 2 * E by omega) (show 2 * E ≤ isum xs by omega)
    have hl := hm.low
    have h1 := Int.mul_nonneg (h0 _ (ith_mem (show i < xs.length by omega))) (show 0 ≤ m by have := hm.den; omega)
    have h2 := Int.mul_nonneg (h0 _ (ith_mem hj)) (show 0 ≤ m by have := hm.den; omega)
    rw [hm.val]
    simp only []
    rw [ith_map _ _ _ (show i < xs.length by omega), ith_map _ _ _ hj, hmul, hmul]
    generalize ith xs i * m = a at *
    generalize ith xs j * m = b at *
    unfold contP
    omega
  · obtain ⟨m, L, hm⟩ := equal_is h0 (show 0 ≤ 2 * (isum xs - E) by omega) (show 2 * (isum xs - E) ≤ isum xs by omega)
    have hl := hm.low
    have h1 := Int.mul_nonneg (h0 _ (ith_mem (show i < xs.length by omega))) (show 0 ≤ m by have := hm.den; omega)
    have h2 := Int.mul_nonneg (h0 _ (ith_mem hj)) (show 0 ≤ m by have := hm.den; omega)
    rw [hm.val]
    simp only []
    rw [lessOf_at _ _ _ _ (show i < xs.length by omega), lessOf_at _ _ _ _ hj, ith_map _ _ _ (show i < xs.length by omega), ith_map _ _ _ hj, hmul, hmul]
    generalize ith xs i * m = a at *
    generalize ith xs j * m = b at *
    unfold contP
    omega
/-- Where two lists have the same sum and one is less somewhere, it is greater elsewhere. -/
theorem isum_greater (f g : Nat → Int) : ∀ n : Nat, isum ((List.range n).map f) = isum ((List.range n).map g) → ∀ i, i < n → f i < g i → ∃ j, j < n ∧ g j < f j := by
  intro n h i hi hlt
  refine Classical.byContradiction fun hno => ?_
  have hle : ∀ j, j < n → f j ≤ g j := fun j hj => by
    rcases Int.lt_or_le (g j) (f j) with h1 | h1
    · exact absurd ⟨j, hj, h1⟩ hno
    · exact h1
  have key : ∀ k, k ≤ n → isum ((List.range k).map f) + (if i < k then 1 else 0) ≤ isum ((List.range k).map g) := by
    intro k
    induction k with
    | zero => intro _; simp [isum_nil]
    | succ k ih =>
      intro hk
      have h1 := ih (by omega)
      have h2 := hle k (by omega)
      rw [range_snoc, range_snoc, isum_append, isum_append]
      simp only [isum_cons, isum_nil]
      by_cases e : k = i
      · subst e
        rw [if_neg (by omega)] at h1
        rw [if_pos (by omega)]
        omega
      · by_cases h3 : i < k
        · rw [if_pos h3] at h1; rw [if_pos (by omega)]; omega
        · rw [if_neg h3] at h1; rw [if_neg (by omega)]; omega
  have := key n (Nat.le_refl _)
  rw [if_pos hi] at this
  omega
theorem isum_take_range (l : List Int) (d : Int) (n : Nat) (h : l.length = n) : isum ((List.range n).map fun i => ith l i * d) = isum l * d := by
  subst h; rw [isum_range_mul, ← isum_eq_range]
theorem fair_only {E d d' : Int} {xs l l' : List Int} (hl : l.length = xs.length) (hl' : l'.length = xs.length) (hd : 0 < d) (hd' : 0 < d') (hs : isum l = E * d) (hs' : isum l' = E * d') (h : AllFair xs l d) (h' : AllFair xs l' d') :
    ∀ k, k < xs.length → ith l k * d' = ith l' k * d := by
  have hsum : isum ((List.range xs.length).map fun i => ith l i * d') = isum ((List.range xs.length).map fun i => ith l' i * d) := by
    rw [isum_take_range _ _ _ hl, isum_take_range _ _ _ hl', hs, hs', Int.mul_right_comm]
  have no : ∀ (p q : List Int) (u v : Int), 0 < u → 0 < v → AllFair xs p u → AllFair xs q v → ∀ i j, i < xs.length → j < xs.length → ith p i * v < ith q i * u → ith q j * u < ith p j * v → False := by
    intro p q u v hu hv hp hq i j hi hj h1 h2
    have hij : i ≠ j := fun e => by subst e; omega
    have f1 := hp.both hi hj hij
    have f2 := hq.both hi hj hij
    have f3 := hp.both hj hi (Ne.symm hij)
    have f4 := hq.both hj hi (Ne.symm hij)
    have g1 := contP_scale v (ith p i + ith p j) (ith xs i * u) (ith xs j * u) (by omega)
    have g2 := contP_scale u (ith q i + ith q j) (ith xs i * v) (ith xs j * v) (by omega)
    have g3 := contP_scale v (ith p j + ith p i) (ith xs j * u) (ith xs i * u) (by omega)
    have g4 := contP_scale u (ith q j + ith q i) (ith xs j * v) (ith xs i * v) (by omega)
    rw [f1, Int.add_mul, Int.mul_assoc 2] at g1
    rw [f2, Int.add_mul, Int.mul_assoc 2, Int.mul_right_comm, Int.mul_right_comm (ith xs j)] at g2
    rw [f3, Int.add_mul, Int.mul_assoc 2] at g3
    rw [f4, Int.add_mul, Int.mul_assoc 2, Int.mul_right_comm, Int.mul_right_comm (ith xs i)] at g4
    generalize ith p i * v = a at *
    generalize ith p j * v = b at *
    generalize ith q i * u = a' at *
    generalize ith q j * u = b' at *
    generalize ith xs i * u * v = c at *
    generalize ith xs j * u * v = e at *
    rcases Int.le_total (a + b) (a' + b') with hle | hle
    · have := contP_mono (a := e) (b := c) (show b + a ≤ b' + a' by omega); omega
    · have := contP_mono (a := c) (b := e) hle; omega
  intro k hk
  rcases Int.lt_trichotomy (ith l k * d') (ith l' k * d) with h1 | h1 | h1
  · obtain ⟨j, hj, h2⟩ := isum_greater _ _ _ hsum k hk h1
    exact (no l l' d d' hd hd' h h' k j hk hj h1 h2).elim
  · exact h1
  · obtain ⟨j, hj, h2⟩ := isum_greater _ _ _ hsum.symm k hk h1
    exact (no l' l d' d hd' hd h' h k j hk hj h1 h2).elim
theorem gcdL_scale (g : Nat) : ∀ (l : List Int) (d : Int), gcdL (d * g) (l.map (· * (g : Int))) = gcdL d l * g := by
  have key : ∀ (l : List Int) (a : Nat), (l.map (· * (g : Int))).foldl (fun b n => Int.gcd b n) (a * g) = l.foldl (fun b n => Int.gcd b n) a * g := by
    intro l
    induction l with
    | nil => intro a; rfl
    | cons x l ih =>
      intro a
      simp only [List.map_cons, List.foldl_cons]
      rw [Int.natCast_mul, Int.gcd_mul_right, Int.natAbs_natCast, ih]
  intro l d
  unfold gcdL
  rw [Int.natAbs_mul, Int.natAbs_natCast]
  exact key l d.natAbs
theorem dvd_gcdL {c : Int} (l : List Int) (d : Int) (hd : c ∣ d) (hl : ∀ x ∈ l, c ∣ x) : c ∣ (gcdL d l : Int) := by
  have key : ∀ (l : List Int) (a : Nat), c ∣ (a : Int) → (∀ x ∈ l, c ∣ x) → c ∣ ((l.foldl (fun b n => Int.gcd b n) a : Nat) : Int) := by
    intro l
    induction l with
    | nil => intro a h _; exact h
    | cons x l ih =>
      intro a h hx
      exact ih _ (Int.dvd_coe_gcd h (hx x (by simp))) (fun y hy => hx y (by simp [hy]))
  exact key l _ (by rw [Int.dvd_natAbs]; exact hd) hl
/-- Two in lowest terms that stand for the same are the same. -/
theorem low_same {d d' : Int} {l l' : List Int} (hl : l.length = l'.length) (hd : 0 < d) (hd' : 0 < d') (hg : gcdL d l = 1) (hg' : gcdL d' l' = 1) (h : ∀ k, k < l.length → ith l k * d' = ith l' k * d) : l = l' ∧ d = d' := by
  have half : ∀ (d d' : Int) (l l' : List Int), 0 < d → 0 < d' → gcdL d l = 1 → (∀ k, k < l.length → ith l k * d' = ith l' k * d) → d ∣ d' := by
    intro d d' l l' hd hd' hg h
    have e : (d'.toNat : Int) = d' := Int.toNat_of_nonneg (by omega)
    have h1 := gcdL_scale d'.toNat l d
    rw [hg, Nat.one_mul] at h1
    rw [← e, ← h1]
    refine dvd_gcdL _ _ (Int.dvd_mul_right _ _) (fun x hx => ?_)
    obtain ⟨y, hy, rfl⟩ := List.mem_map.1 hx
    obtain ⟨k, hk, rfl⟩ := List.getElem_of_mem hy
    have := h k hk
    rw [show ith l k = l[k] by simp [ith, hk]] at this
    rw [e, this]
    exact Int.dvd_mul_left _ _
  have h1 := half d d' l l' hd hd' hg h
  have h2 := half d' d l' l hd' hd hg' (fun k hk => (h k (by omega)).symm)
  have e := Int.dvd_antisymm (by omega) (by omega) h1 h2
  subst e
  refine ⟨?_, rfl⟩
  refine List.ext_getElem hl fun k h3 h4 => ?_
  have := h k h3
  rw [show ith l k = l[k] by simp [ith, h3], show ith l' k = l'[k] by simp [ith, h4]] at this
  exact Int.eq_of_mul_eq_mul_right (show d ≠ 0 by omega) this
theorem share_three {E : Int} {xs : List Int} {q : List Int × Int} (h : shareP 3 E xs = some q) : IsProb E xs ∧ q = lowP (talmudP E xs) ∧ IsSh E xs q.1 q.2 ∧ AllFair xs q.1 q.2 := by
  obtain ⟨hP, hS⟩ := share_is h
  unfold shareP at h
  split at h
  · rw [Option.some.injEq] at h
    subst h
    have hr : ruleP 3 E xs = talmudP E xs := by simp [ruleP]
    have hsh := rule_shares (rule := 3) hP
    rw [hr] at hsh hS ⊢
    exact ⟨hP, rfl, hS, (talmud_allFair hP).low hsh⟩
  · simp at h
theorem is_only {E d d' : Int} {xs l l' : List Int} (h : IsSh E xs l d) (h' : IsSh E xs l' d') (hf : AllFair xs l d) (hf' : AllFair xs l' d') : l = l' ∧ d = d' := by
  have hd := h.den
  have hd' := h'.den
  refine low_same (by rw [h.len, h'.len]) (by omega) (by omega) h.low h'.low (fun k hk => ?_)
  exact fair_only h.len h'.len (by omega) (by omega) h.sum h'.sum hf hf' k (by rw [← h.len]; exact hk)
/-- Of two claims the Talmud's shares are those of the contest. -/
theorem contest_talmud {E a b : Int} {q : List Int × Int} (h : shareP 3 E [a, b] = some q) : contestP E a b = some q := by
  obtain ⟨hP, hq, hS, hF⟩ := share_three h
  obtain ⟨p1, p2, p3, p4, p5, p6, p7⟩ := prob_two hP
  have hin := contP_in p1 p3 p5 p7
  have hsh : Shares E [a, b] ([contP E a b, 2 * E - contP E a b], 2) := by
    refine ⟨rfl, ⟨by simp, by simp⟩, fun k hk => ?_, ?_⟩
    · match k, hk with
      | 0, _ => simp [ith]; omega
      | 1, _ => simp [ith]; omega
      | k + 2, hk => exact absurd hk (by simp)
    · simp only [isum_cons, isum_nil]; omega
  have hfa : AllFair [a, b] ([contP E a b, 2 * E - contP E a b]) 2 := by
    intro i j hij hj
    have hj2 : j < 2 := hj
    obtain rfl : i = 0 := by omega
    obtain rfl : j = 1 := by omega
    simp only [ith, List.getD_cons_zero, List.getD_cons_succ]
    have e : contP E a b + (2 * E - contP E a b) = E * 2 := by omega
    rw [e, contP_scale _ _ _ _ (by omega)]
    omega
  obtain ⟨e1, e2⟩ := is_only (low_is hsh) hS (hfa.low hsh) hF
  have e3 : contestP E a b = some (lowP ([contP E a b, 2 * E - contP E a b], 2)) := by
    unfold contestP; rw [if_pos ((probB_true E [a, b]).2 hP)]
  rw [e3]
  exact congrArg some (Prod.ext e1 e2)
end Go.Proofs.Ytcngecibljgndaa
