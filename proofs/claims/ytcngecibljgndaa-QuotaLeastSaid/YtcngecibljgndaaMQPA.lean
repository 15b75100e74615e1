/- The rules, plain: each gives shares of the estate. -/
import Derived.Test.YtcngecibljgndaaMQH
import Derived.Test.YtcngecibljgndaaMLF
import Derived.Test.YtcngecibljgndaaMQTA
namespace Go.Proofs.Ytcngecibljgndaa
open Go.RowKit Go.Shelf

theorem isum_perm {l m : List Int} (h : l.Perm m) : isum l = isum m := by
  induction h with
  | nil => rfl
  | cons x _ ih => simp only [isum_cons, ih]
  | swap x y l => simp only [isum_cons]; omega
  | trans _ _ h1 h2 => exact h1.trans h2
theorem isum_map_mul (f : Int → Int) (c : Int) : ∀ l : List Int, isum (l.map fun x => f x * c) = isum (l.map f) * c
  | [] => by simp [isum_nil]
  | x :: l => by simp only [List.map_cons, isum_cons, isum_map_mul f c l, Int.add_mul]
theorem isum_range_add (f g : Nat → Int) : ∀ k : Nat, isum ((List.range k).map fun i => f i + g i) = isum ((List.range k).map f) + isum ((List.range k).map g)
  | 0 => by simp [isum_nil]
  | k + 1 => by rw [range_snoc, range_snoc, range_snoc, isum_append, isum_append, isum_append, isum_range_add f g k]; simp only [isum_cons, isum_nil]; omega
theorem isum_range_sub (f g : Nat → Int) : ∀ k : Nat, isum ((List.range k).map fun i => f i - g i) = isum ((List.range k).map f) - isum ((List.range k).map g)
  | 0 => by simp [isum_nil]
  | k + 1 => by rw [range_snoc, range_snoc, range_snoc, isum_append, isum_append, isum_append, isum_range_sub f g k]; simp only [isum_cons, isum_nil]; omega
theorem isum_range_mul (f : Nat → Int) (c : Int) : ∀ k : Nat, isum ((List.range k).map fun i => f i * c) = isum ((List.range k).map f) * c
  | 0 => by simp [isum_nil]
  | k + 1 => by rw [range_snoc, range_snoc, isum_append, isum_append, isum_range_mul f c k, Int.add_mul]; simp only [isum_cons, isum_nil, Int.add_zero]
theorem isum_range_le (f g : Nat → Int) : ∀ k : Nat, (∀ i, i < k → f i ≤ g i) → isum ((List.range k).map f) ≤ isum ((List.range k).map g)
  | 0, _ => by simp [isum_nil]
  | k + 1, h => by
    have := isum_range_le f g k (fun i hi => h i (by omega))
    have h2 := h k (by omega)
    rw [range_snoc, range_snoc, isum_append, isum_append]; simp only [isum_cons, isum_nil]; omega
theorem isum_range_congr (f g : Nat → Int) (k : Nat) (h : ∀ i, i < k → f i = g i) : isum ((List.range k).map f) = isum ((List.range k).map g) := by
  congr 1
  exact List.map_congr_left (fun i hi => h i (List.mem_range.1 hi))
theorem isum_range_swap (f : Nat → Nat → Int) (a : Nat) : ∀ b : Nat, isum ((List.range a).map fun i => isum ((List.range b).map fun j => f i j)) = isum ((List.range b).map fun j => isum ((List.range a).map fun i => f i j))
  | 0 => by
    have : ∀ a : Nat, isum ((List.range a).map fun _ => isum []) = 0 := by
      intro a
      induction a with
      | zero => simp [isum_nil]
      | succ a ih => rw [range_snoc, isum_append, ih]; simp [isum_cons, isum_nil]
    show _ = isum []
    rw [isum_nil]; exact this a
  | b + 1 => by
    have ih := isum_range_swap f a b
    have e : ∀ i, isum ((List.range (b + 1)).map fun j => f i j) = isum ((List.range b).map fun j => f i j) + f i b := fun i => by
      rw [range_snoc, isum_append]; simp [isum_cons, isum_nil]
    rw [isum_range_congr _ _ _ (fun i _ => e i), isum_range_add, ih]
    rw [range_snoc, isum_append]; simp [isum_cons, isum_nil]
theorem list_eq_range (xs : List Int) : xs = (List.range xs.length).map fun i => ith xs i := by
  apply List.ext_getElem
  · simp
  · intro i h1 h2; simp [ith, h1]
theorem isum_eq_range (xs : List Int) : isum xs = isum ((List.range xs.length).map fun i => ith xs i) := congrArg isum (list_eq_range xs)

theorem sortI_perm (xs : List Int) : (sortI xs).Perm xs := List.mergeSort_perm _ _
theorem sortI_sorted (xs : List Int) : (sortI xs).Pairwise (fun x y => x ≤ y) := by
  have := List.pairwise_mergeSort (le := fun x y : Int => decide (x ≤ y)) (by intro a b c h1 h2; simp at *; omega) (by intro a b; simp; omega) xs
  exact this.imp (fun h => by simpa using h)

/-- The loop of equal: what it leaves. -/
theorem eqLoop_sum : ∀ (l : List Int) (left c0 : Int), l.Pairwise (fun x y => x ≤ y) → (∀ x ∈ l, c0 ≤ x) → 0 ≤ c0 → c0 * l.length ≤ left →
    c0 * (eqLoop l left l.length).2 ≤ (eqLoop l left l.length).1 ∧ 0 ≤ (eqLoop l left l.length).2 ∧
    isum (l.map fun c => min (c * (eqLoop l left l.length).2) (eqLoop l left l.length).1) = left * (eqLoop l left l.length).2 ∧
    ((eqLoop l left l.length).2 = 0 → (eqLoop l left l.length).1 = left - isum l)
  | [], left, c0, _, _, _, h => by simp [eqLoop, isum_nil] at h ⊢; omega
  | c :: l, left, c0, hs, hm, h0, h => by
    have hc := hm c (by simp)
    have hs2 := List.pairwise_cons.1 hs
    by_cases hb : c * ((c :: l).length : Int) > left
    · rw [eqLoop_stop _ hb]
      simp only []
      refine ⟨h, by omega, ?_, fun e => by simp at e; omega⟩
      have key : ∀ m : List Int, (∀ x ∈ m, c ≤ x) → isum (m.map fun x => min (x * ((c :: l).length : Int)) left) = left * m.length := by
        intro m
        induction m with
        | nil => intro _; simp [isum_nil]
        | cons x m ih =>
          intro hx
          have h1 : c * ((c :: l).length : Int) ≤ x * ((c :: l).length : Int) := Int.mul_le_mul_of_nonneg_right (hx x (by simp)) (by omega)
          rw [List.map_cons, isum_cons, ih (fun y hy => hx y (by simp [hy]))]
          have e : ((x :: m).length : Int) = m.length + 1 := by simp
          rw [e, Int.mul_add]
          omega
      exact key (c :: l) (fun x hx => by
        rcases List.mem_cons.1 hx with rfl | hx
        · omega
        · exact hs2.1 x hx)
    · rw [eqLoop_go _ hb]
      have e : ((c :: l).length : Int) - 1 = (l.length : Int) := by simp
      rw [e]
      have e2 : ((c :: l).length : Int) = l.length + 1 := by simp
      rw [e2, Int.mul_add] at hb
      obtain ⟨i1, i2, i3, i4⟩ := eqLoop_sum l (left - c) c hs2.2 hs2.1 (by omega) (by omega)
      generalize eqLoop l (left - c) l.length = p at *
      have h1 : c0 * p.2 ≤ c * p.2 := Int.mul_le_mul_of_nonneg_right hc i2
      refine ⟨by omega, i2, ?_, fun e3 => by rw [i4 e3, isum_cons]; omega⟩
      rw [List.map_cons, isum_cons, i3, Int.sub_mul]
      omega
/-- What equal gives: the same for all, but no more than the claim. -/
structure EqualIs (E : Int) (xs : List Int) (m L : Int) : Prop where
  den : 1 ≤ m
  val : equalP E xs = (xs.map fun c => min (c * m) L, m)
  sum : isum (xs.map fun c => min (c * m) L) = E * m
  low : 0 ≤ L
theorem le_isum {xs : List Int} (h : ∀ x ∈ xs, 0 ≤ x) : ∀ x ∈ xs, x ≤ isum xs := by
  induction xs with
  | nil => intro x hx; simp at hx
  | cons y l ih =>
    intro x hx
    have h2 : 0 ≤ isum l := by
      have : ∀ m : List Int, (∀ x ∈ m, 0 ≤ x) → 0 ≤ isum m := by
        intro m
        induction m with
        | nil => intro _; simp [isum_nil]
        | cons z m ih => intro hz; have := ih (fun x hx => hz x (by simp [hx])); have := hz z (by simp); rw [isum_cons]; omega
      exact this l (fun x hx => h x (by simp [hx]))
    have h1 := h y (by simp)
    rw [isum_cons]
    rcases List.mem_cons.1 hx with rfl | hx
    · omega
    · have := ih (fun x hx => h x (by simp [hx])) x hx; omega
theorem equal_is {E : Int} {xs : List Int} (h0 : ∀ x ∈ xs, 0 ≤ x) (hE : 0 ≤ E) (hS : E ≤ isum xs) : ∃ m L, EqualIs E xs m L := by
  obtain ⟨i1, i2, i3, i4⟩ := eqLoop_sum (sortI xs) E 0 (sortI_sorted xs) (fun x hx => h0 x ((sortI_mem xs x).1 hx)) (by omega) (by omega)
  rw [sortI_length] at i1 i2 i3 i4
  obtain ⟨p, hp⟩ : ∃ p, p = eqLoop (sortI xs) E xs.length := ⟨_, rfl⟩
  rw [← hp] at i1 i2 i3 i4
  by_cases hm : p.2 = 0
  · have h1 := i4 hm
    rw [isum_perm (sortI_perm xs)] at h1
    have hE2 : E = isum xs := by
      rw [hm] at i1; omega
    refine ⟨1, E, by omega, ?_, ?_, hE⟩
    · unfold equalP; rw [← hp, if_pos hm]
      have : xs.map (fun c => min (c * 1) E) = xs := by
        conv => rhs; rw [← List.map_id xs]
        refine List.map_congr_left (fun x hx => ?_)
        have := le_isum h0 x hx
        simp; omega
      rw [this]
    · have : xs.map (fun c => min (c * 1) E) = xs := by
        conv => rhs; rw [← List.map_id xs]
        refine List.map_congr_left (fun x hx => ?_)
        have := le_isum h0 x hx
        simp; omega
      rw [this]; omega
  · refine ⟨p.2, p.1, by omega, ?_, ?_, by omega⟩
    · unfold equalP; rw [← hp, if_neg hm]
    · rw [← isum_perm ((sortI_perm xs).map _)]; exact i3
/-- Numbers over a divisor share the estate. -/
structure Shares (E : Int) (xs : List Int) (p : List Int × Int) : Prop where
  len : p.1.length = xs.length
  den : 1 ≤ p.2 ∧ p.2 ≤ 1000000
  num : ∀ k, k < xs.length → 0 ≤ ith p.1 k ∧ ith p.1 k ≤ ith xs k * p.2
  sum : isum p.1 = E * p.2
theorem isum_lessOf (xs l : List Int) (c : Int) (hl : l.length = xs.length) : isum (lessOf xs c l) = isum xs * c - isum l := by
  unfold lessOf
  rw [isum_range_sub, isum_range_mul, ← isum_eq_range, ← hl, ← isum_eq_range]
theorem equal_shares {E F : Int} {xs : List Int} (h : IsProb E xs) (hF : 0 ≤ F) (hS : F ≤ isum xs) : Shares F xs (equalP F xs) := by
  obtain ⟨h1, h2, h3⟩ := equalP_bounds h.claims h.seven h.one hF
  obtain ⟨m, L, hm⟩ := equal_is (fun x hx => (h.claims x hx).1) hF hS
  exact ⟨h2, by omega, h3, by rw [hm.val]; exact hm.sum⟩
theorem less_shares {E F m : Int} {xs : List Int} (h : IsProb E xs) (hF : 0 ≤ F) (hS : F ≤ isum xs) (hm : 1 ≤ m ∧ m ≤ 2) (hFE : F = m * (isum xs - E)) : Shares E xs (lessOf xs (m * (equalP F xs).2) (equalP F xs).1, m * (equalP F xs).2) := by
  have hs := equal_shares h hF hS
  obtain ⟨h1, h2, h3⟩ := equalP_bounds h.claims h.seven h.one hF
  have hmm : (equalP F xs).2 ≤ m * (equalP F xs).2 ∧ m * (equalP F xs).2 ≤ 14 := by
    obtain rfl | rfl : m = 1 ∨ m = 2 := by omega
    · omega
    · omega
  refine ⟨lessOf_length _ _ _, ⟨by simp only []; omega, by simp only []; omega⟩, fun k hk => ?_, ?_⟩
  · have h4 := h3 k hk
    have h5 := h.claims.at_ k hk
    have h7 : ith xs k * (equalP F xs).2 ≤ ith xs k * (m * (equalP F xs).2) := Int.mul_le_mul_of_nonneg_left hmm.1 h5.1
    simp only []
    rw [lessOf_at _ _ _ _ hk]
    omega
  · simp only []
    rw [isum_lessOf _ _ _ h2, hs.sum, hFE]
    generalize (equalP (m * (isum xs - E)) xs).2 = d
    have e : m * (isum xs - E) * d = (isum xs - E) * (m * d) := by rw [Int.mul_comm m (isum xs - E), Int.mul_assoc]
    rw [e, Int.sub_mul]
    omega
end Go.Proofs.Ytcngecibljgndaa

/- Levels of excesses; when a level's sets are in weights; plain. -/
namespace Go.Proofs.Ytcngecibljgndaa
open Go.RowKit Go.Shelf

/-- The sets have weights, and each one from the given place on can have a positive one. -/
structure LevelOK (n : Nat) (ss : List Int) (had : Nat) : Prop where
  some_ : ∃ w D, IsW n ss w D
  each : ∀ k, had ≤ k → k < ss.length → ∃ w D, IsW n ss w D ∧ 0 < w k
def levelsP (n : Nat) (l : List Int) : List Int → List Int → Prop
  | [], _ => True
  | x :: r, ss => LevelOK n (ss ++ setsTo l x l.length) ss.length ∧ levelsP n l r (ss ++ setsTo l x l.length)
theorem keeps_eq (zs : List Int) (k : Nat) (hk : k + 1 < zs.length) (h : Lib.keeps zs.toArray (k + 1) = true) : ith zs (k + 1) ≠ ith zs k := by
  simp only [Lib.keeps, decide_eq_true_eq, Nat.add_sub_cancel] at h
  rcases h with h | h
  · omega
  · simpa [ith, hk, show k < zs.length by omega] using h
theorem compact_sorted {zs : List Int} (hs : ∀ i j, i ≤ j → j < zs.length → ith zs i ≤ ith zs j) : (Lib.compact zs).Pairwise fun x y => x < y := by
  unfold Lib.compact Lib.compactUpTo
  rw [List.pairwise_map]
  refine (List.Pairwise.filter _ (List.pairwise_lt_range (n := zs.length))).imp_of_mem ?_
  intro a b ha hb hab
  rw [List.mem_filter, List.mem_range] at ha hb
  obtain ⟨c, rfl⟩ : ∃ c, b = c + 1 := ⟨b - 1, by omega⟩
  have h1 := hb.2
  have e : ∀ k, k < zs.length → zs.toArray[k]! = ith zs k := fun k hk => by simp [ith, hk]
  rw [e a ha.1, e _ hb.1]
  have h2 := hs a c (by omega) (by omega)
  have h3 := hs c (c + 1) (by omega) hb.1
  have h4 : ith zs (c + 1) ≠ ith zs c := keeps_eq zs c hb.1 h1
  omega
theorem levels_desc (l : List Int) : (levelsOf l).Pairwise fun x y => y < x := by
  unfold levelsOf
  rw [List.pairwise_reverse]
  refine compact_sorted (fun i j hij hj => ?_)
  have h := sortI_sorted l
  by_cases e : i = j
  · rw [e]; exact Int.le_refl _
  · have := List.pairwise_iff_getElem.1 h i j (by omega) hj (by omega)
    simpa [ith, hj, show i < (sortI l).length by omega] using this
/-- How many excesses are among the first k levels. -/
def cntL (l L : List Int) (k : Nat) : Nat := l.countP fun y => (L.take k).contains y
theorem cntL_le (l L : List Int) (k : Nat) : cntL l L k ≤ l.length := List.countP_le_length
theorem countP_or (p q : Int → Bool) (h : ∀ x, p x = true → q x = false) : ∀ l : List Int, l.countP (fun x => p x || q x) = l.countP p + l.countP q
  | [] => rfl
  | x :: l => by
    rw [List.countP_cons, List.countP_cons, List.countP_cons, countP_or p q h l]
    have := h x
    cases hp : p x <;> cases hq : q x <;> simp_all <;> omega
theorem setsTo_count (l : List Int) (x : Int) : (setsTo l x l.length).length = l.countP fun y => y == x := by
  have key : ∀ k, k ≤ l.length → (setsTo l x k).length = (l.take k).countP fun y => y == x := by
    intro k
    induction k with
    | zero => intro _; simp [setsTo]
    | succ k ih =>
      intro hk
      have ih := ih (by omega)
      have e : l.take (k + 1) = l.take k ++ [ith l k] := by
        rw [List.take_succ_eq_append_getElem (by omega)]
        simp [ith, show k < l.length by omega]
      rw [e, List.countP_append, ← ih]
      unfold setsTo
      rw [List.range_succ, List.filter_append, List.map_append, List.length_append]
      by_cases h : ith l k == x
      · simp [h]
      · simp [h]
  have := key l.length (Nat.le_refl _)
  rwa [List.take_length] at this
theorem cntL_succ (l L : List Int) (hd : L.Pairwise fun x y => y < x) (k : Nat) (hk : k < L.length) : cntL l L (k + 1) = cntL l L k + (setsTo l (ith L k) l.length).length := by
  have e : L.take (k + 1) = L.take k ++ [ith L k] := by
    rw [List.take_succ_eq_append_getElem (by omega)]
    simp [ith, hk]
  rw [setsTo_count]
  unfold cntL
  rw [← countP_or _ _ (fun x hx => ?_)]
  · refine List.countP_congr (fun x _ => ?_)
    rw [e]; simp
  · simp only [List.contains_eq_mem, decide_eq_true_eq] at hx
    obtain ⟨m, hm, e1⟩ := List.getElem_of_mem hx
    rw [List.length_take] at hm
    rw [List.getElem_take] at e1
    have := List.pairwise_iff_getElem.1 hd m k (by omega) hk (by omega)
    have e2 : ith L k = L[k] := by simp [ith, hk]
    simp only [beq_eq_false_iff_ne, ne_eq]
    omega
end Go.Proofs.Ytcngecibljgndaa
