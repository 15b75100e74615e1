/- The library's Compact and Reverse at a list that the call itself has made. -/
import Derived.Test.YtcngecibljgndaaMQA
import Derived.Test.YtcngecibljgndaaMQLay
import Derived.Test.YtcngecibljgndaaMQH
import Derived.Test.YtcngecibljgndaaMLF
namespace Go.Proofs.Ytcngecibljgndaa
open Go.RowKit Go.Shelf Go.Sort

theorem Own.holds {w : World} {B g off n cap : Nat} {zs : List Int} (h : Own w B 1 (.slice (some ⟨g, off, none⟩) n cap) (ints zs)) : Holds (Value.int .i64) w g off zs.toArray := by
  intro j hj
  have hj' : j < zs.length := by simpa using hj
  have := h.intAt j hj'
  refine ⟨?_, this.2⟩
  rw [this.1, getElem!_pos _ j hj]
  simp [ith, hj']
theorem Own.put {w : World} {B g off n cap q : Nat} {zs d : List Int} (h : Own w B 1 (.slice (some ⟨g, off, none⟩) n cap) (ints zs)) (hd : d.length = zs.length) :
    Own (putRow (Value.int .i64) (Sort.ahead w q) g off d.toArray) B 1 (.slice (some ⟨g, off, none⟩) n cap) (ints d) ∧ w.grownBy (putRow (Value.int .i64) (Sort.ahead w q) g off d.toArray) (some g) := by
  have hH : Holds (Value.int .i64) (Sort.ahead w q) g off zs.toArray := h.holds
  refine ⟨?_, ⟨rfl, rfl, rfl, by simp, fun k _ hk => ?_⟩⟩
  · obtain ⟨n', hl, ⟨hv, _⟩ | ⟨g', off', cap', hv, hb, hlt, hnc, hcm, hc, hx⟩⟩ := h
    · simp at hv
    · simp only [Value.slice.injEq, Option.some.injEq, Addr.mk.injEq, and_true] at hv
      obtain ⟨⟨rfl, rfl⟩, rfl, rfl⟩ := hv
      have hsz : d.toArray.size = zs.toArray.size := by simp [hd]
      rw [ints_length] at hl
      have hin : ∀ j, j < d.length → (putRow (Value.int .i64) (Sort.ahead w q) g off d.toArray).cell? ⟨g, off + j, none⟩ = some (.int .i64 (ith d j)) := fun j hj => by
        rw [cell?_putRow _ _ _ _ zs.toArray d.toArray hH hsz j (by simpa using hj), getElem!_pos _ j (by simpa using hj)]
        simp [ith, hj]
      refine ⟨n, by rw [ints_length]; omega, .inr ⟨g, off, cap, rfl, hb, by simpa using hlt, hnc, hcm, fun j hj => ⟨?_, ?_⟩, fun j hj => ?_⟩⟩
      · by_cases hjd : j < d.length
        · rw [hin j hjd]; rfl
        · rw [cell?_putRow_other _ _ _ _ _ _ (.inr (.inr (by simp; omega)))]
          exact (hc j hj).1
      · rw [frozen?_putRow]; exact (hc j hj).2
      · rw [hin j (by omega), ints_at _ _ (by omega)]
  · have hne : ¬ g = k := fun e => hk (by rw [e])
    unfold putRow mapBlock
    simp [Array.getElem?_modify, hne]
theorem Own.shorter {w : World} {B g off n cap m : Nat} {zs : List Int} (h : Own w B 1 (.slice (some ⟨g, off, none⟩) n cap) (ints zs)) (hm : m ≤ zs.length) : Own w B 1 (.slice (some ⟨g, off, none⟩) m cap) (ints (zs.take m)) := by
  obtain ⟨n', hl, ⟨hv, _⟩ | ⟨g', off', cap', hv, hb, hlt, hnc, hcm, hc, hx⟩⟩ := h
  · simp at hv
  · simp only [Value.slice.injEq, Option.some.injEq, Addr.mk.injEq, and_true] at hv
    obtain ⟨⟨rfl, rfl⟩, rfl, rfl⟩ := hv
    rw [ints_length] at hl
    refine ⟨m, by rw [ints_length, List.length_take]; omega, .inr ⟨g, off, cap, rfl, hb, hlt, by omega, hcm, hc, fun j hj => ?_⟩⟩
    rw [hx j (by omega), ints_at _ _ (by omega), ints_at _ _ (by rw [List.length_take]; omega)]
    congr 2
    simp only [ith, List.getD_eq_getElem?_getD, List.getElem?_take]
    rw [if_pos (by omega)]

theorem compact_le (zs : List Int) : (Lib.compact zs).length ≤ zs.length := by
  unfold Lib.compact Lib.compactUpTo
  rw [List.length_map]
  exact Nat.le_trans (List.length_filter_le _ _) (by simp)
def CompactRes (w : World) (B g off cap : Nat) (zs : List Int) (e : Ending) (w' : World) : Prop :=
  e = .returned (.slice (some ⟨g, off, none⟩) (Lib.compact zs).length cap) ∧ Own w' B 1 (.slice (some ⟨g, off, none⟩) (Lib.compact zs).length cap) (ints (Lib.compact zs)) ∧ w.grownBy w' (some g)
theorem compact_calls (w : World) (B g off cap : Nat) (zs : List Int) (h : Own w B 1 (.slice (some ⟨g, off, none⟩) zs.length cap) (ints zs)) (hl : zs.length ≤ cap) (hl2 : zs.length ≤ 1000000) :
    Calls Try.prog 62 #[.slice (some ⟨g, off, none⟩) zs.length cap] w (CompactRes w B g off cap zs) := by
  refine Calls.mono (AnyG.slices_Compact_int compactI g off cap zs w h.holds (by omega) hl) ?_
  rintro e w' ⟨rfl, q, rfl⟩
  have hc := compact_le zs
  obtain ⟨h1, h2⟩ := h.put (q := q) (d := Lib.compact zs ++ List.replicate (zs.length - (Lib.compact zs).length) 0) (by simp; omega)
  have h3 := h1.shorter (m := (Lib.compact zs).length) (by simp)
  rw [List.take_left'] at h3
  · exact ⟨rfl, h3, h2⟩
  · rfl
theorem reverse_calls (w : World) (B g off cap : Nat) (zs : List Int) (h : Own w B 1 (.slice (some ⟨g, off, none⟩) zs.length cap) (ints zs)) (hl2 : zs.length ≤ 1000000) :
    Calls Try.prog 65 #[.slice (some ⟨g, off, none⟩) zs.length cap] w (fun e w' => e = .returned (.tuple #[]) ∧ Own w' B 1 (.slice (some ⟨g, off, none⟩) zs.length cap) (ints zs.reverse) ∧ w.grownBy w' (some g)) := by
  refine Calls.mono (AnyG.slices_Reverse_int revInts g off cap zs w h.holds (by omega)) ?_
  rintro e w' ⟨rfl, q, rfl⟩
  obtain ⟨h1, h2⟩ := h.put (q := q) (d := zs.reverse) (by simp)
  exact ⟨rfl, h1, h2⟩
end Go.Proofs.Ytcngecibljgndaa

/- The rules, plain: each gives shares of the estate. -/
namespace Go.Proofs.Ytcngecibljgndaa
open Go.RowKit Go.Shelf

theorem isum_perm {l m : List Int} (h : l.Perm m) : isum l = isum m := by
  induction h with
  | nil => rfl
  | cons x _ ih => simp only [isum_cons, ih]
  | swap x y l => simp only [isum_cons]; omega
  | trans _ _ h1 h2 => exact h1.trans h2
theorem isum_map_mul (f : Int → Int) (c : Int) : ∀ l : List Int, isum (l.map fun x => f x * c) = isum (l.map f) * c
  | [] => by simp [isum_nil]
  | x :: l => by simp only [List.map_cons, isum_cons, isum_map_mul f c l, Int.add_mul]
theorem isum_range_add (f g : Nat → Int) : ∀ k : Nat, isum ((List.range k).map fun i => f i + g i) = isum ((List.range k).map f) + isum ((List.range k).map g)
  | 0 => by simp [isum_nil]
  | k + 1 => by rw [range_snoc, range_snoc, range_snoc, isum_append, isum_append, isum_append, isum_range_add f g k]; simp only [isum_cons, isum_nil]; omega
theorem isum_range_sub (f g : Nat → Int) : ∀ k : Nat, isum ((List.range k).map fun i => f i - g i) = isum ((List.range k).map f) - isum ((List.range k).map g)
  | 0 => by simp [isum_nil]
  | k + 1 => by rw [range_snoc, range_snoc, range_snoc, isum_append, isum_append, isum_append, isum_range_sub f g k]; simp only [isum_cons, isum_nil]; omega
theorem isum_range_mul (f : Nat → Int) (c : Int) : ∀ k : Nat, isum ((List.range k).map fun i => f i * c) = isum ((List.range k).map f) * c
  | 0 => by simp [isum_nil]
  | k + 1 => by rw [range_snoc, range_snoc, isum_append, isum_append, isum_range_mul f c k, Int.add_mul]; simp only [isum_cons, isum_nil, Int.add_zero]
theorem isum_range_le (f g : Nat → Int) : ∀ k : Nat, (∀ i, i < k → f i ≤ g i) → isum ((List.range k).map f) ≤ isum ((List.range k).map g)
  | 0, _ => by simp [isum_nil]
  | k + 1, h => by
    have := isum_range_le f g k (fun i hi => h i (by omega))
    have h2 := h k (by omega)
    rw [range_snoc, range_snoc, isum_append, isum_append]; simp only [isum_cons, isum_nil]; omega
theorem isum_range_congr (f g : Nat → Int) (k : Nat) (h : ∀ i, i < k → f i = g i) : isum ((List.range k).map f) = isum ((List.range k).map g) := by
  congr 1
  exact List.map_congr_left (fun i hi => h i (List.mem_range.1 hi))
theorem isum_range_swap (f : Nat → Nat → Int) (a : Nat) : ∀ b : Nat, isum ((List.range a).map fun i => isum ((List.range b).map fun j => f i j)) = isum ((List.range b).map fun j => isum ((List.range a).map fun i => f i j))
  | 0 => by
    have : ∀ a : Nat, isum ((List.range a).map fun _ => isum []) = 0 := by
      intro a
      induction a with
      | zero => simp [isum_nil]
      | succ a ih => rw [range_snoc, isum_append, ih]; simp [isum_cons, isum_nil]
    show _ = isum []
    rw [isum_nil]; exact this a
  | b + 1 => by
    have ih := isum_range_swap f a b
    have e : ∀ i, isum ((List.range (b + 1)).map fun j => f i j) = isum ((List.range b).map fun j => f i j) + f i b := fun i => by
      rw [range_snoc, isum_append]; simp [isum_cons, isum_nil]
    rw [isum_range_congr _ _ _ (fun i _ => e i), isum_range_add, ih]
    rw [range_snoc, isum_append]; simp [isum_cons, isum_nil]
theorem list_eq_range (xs : List Int) : xs = (List.range xs.length).map fun i => ith xs i := by
  apply List.ext_getElem
  · simp
  · intro i h1 h2; simp [ith, h1]
theorem isum_eq_range (xs : List Int) : isum xs = isum ((List.range xs.length).map fun i => ith xs i) := congrArg isum (list_eq_range xs)

theorem sortI_perm (xs : List Int) : (sortI xs).Perm xs := List.mergeSort_perm _ _
theorem sortI_sorted (xs : List Int) : (sortI xs).Pairwise (fun x y => x ≤ y) := by
  have := List.pairwise_mergeSort (le := fun x y : Int => decide (x ≤ y)) (by intro a b c h1 h2; simp at *; omega) (by intro a b; simp; omega) xs
  exact this.imp (fun h => by simpa using h)

/-- The loop of equal: what it leaves. -/
theorem eqLoop_sum : ∀ (l : List Int) (left c0 : Int), l.Pairwise (fun x y => x ≤ y) → (∀ x ∈ l, c0 ≤ x) → 0 ≤ c0 → c0 * l.length ≤ left →
    c0 * (eqLoop l left l.length).2 ≤ (eqLoop l left l.length).1 ∧ 0 ≤ (eqLoop l left l.length).2 ∧
    isum (l.map fun c => min (c * (eqLoop l left l.length).2) (eqLoop l left l.length).1) = left * (eqLoop l left l.length).2 ∧
    ((eqLoop l left l.length).2 = 0 → (eqLoop l left l.length).1 = left - isum l)
  | [], left, c0, _, _, _, h => by simp [eqLoop, isum_nil] at h ⊢; omega
  | c :: l, left, c0, hs, hm, h0, h => by
    have hc := hm c (by simp)
    have hs2 := List.pairwise_cons.1 hs
    by_cases hb : c * ((c :: l).length : Int) > left
    · rw [eqLoop_stop _ hb]
      simp only []
      refine ⟨h, by omega, ?_, fun e => by simp at e; omega⟩
      have key : ∀ m : List Int, (∀ x ∈ m, c ≤ x) → isum (m.map fun x => min (x * ((c :: l).length : Int)) left) = left * m.length := by
        intro m
        induction m with
        | nil => intro _; simp [isum_nil]
        | cons x m ih =>
          intro hx
          have h1 : c * ((c :: l).length : Int) ≤ x * ((c :: l).length : Int) := Int.mul_le_mul_of_nonneg_right (hx x (by simp)) (by omega)
          rw [List.map_cons, isum_cons, ih (fun y hy => hx y (by simp [hy]))]
          have e : ((x :: m).length : Int) = m.length + 1 := by simp
          rw [e, Int.mul_add]
          omega
      exact key (c :: l) (fun x hx => by
        rcases List.mem_cons.1 hx with rfl | hx
        · omega
        · exact hs2.1 x hx)
    · rw [eqLoop_go _ hb]
      have e : ((c :: l).length : Int) - 1 = (l.length : Int) := by simp
      rw [e]
      have e2 : ((c :: l).length : Int) = l.length + 1 := by simp
      rw [e2, Int.mul_add] at hb
      obtain ⟨i1, i2, i3, i4⟩ := eqLoop_sum l (left - c) c hs2.2 hs2.1 (by omega) (by omega)
      generalize eqLoop l (left - c) l.length = p at *
      have h1 : c0 * p.2 ≤ c * p.2 := Int.mul_le_mul_of_nonneg_right hc i2
      refine ⟨by omega, i2, ?_, fun e3 => by rw [i4 e3, isum_cons]; omega⟩
      rw [List.map_cons, isum_cons, i3, Int.sub_mul]
      omega
/-- What equal gives: the same for all, but no more than the claim. -/
structure EqualIs (E : Int) (xs : List Int) (m L : Int) : Prop where
  den : 1 ≤ m
  val : equalP E xs = (xs.map fun c => min (c * m) L, m)
  sum : isum (xs.map fun c => min (c * m) L) = E * m
  low : 0 ≤ L
theorem le_isum {xs : List Int} (h : ∀ x ∈ xs, 0 ≤ x) : ∀ x ∈ xs, x ≤ isum xs := by
  induction xs with
  | nil => intro x hx; simp at hx
  | cons y l ih =>
    intro x hx
    have h2 : 0 ≤ isum l := by
      have : ∀ m : List Int, (∀ x ∈ m, 0 ≤ x) → 0 ≤ isum m := by
        intro m
        induction m with
        | nil => intro _; simp [isum_nil]
        | cons z m ih => intro hz; have := ih (fun x hx => hz x (by simp [hx])); have := hz z (by simp); rw [isum_cons]; omega
      exact this l (fun x hx => h x (by simp [hx]))
    have h1 := h y (by simp)
    rw [isum_cons]
    rcases List.mem_cons.1 hx with rfl | hx
    · omega
    · have := ih (fun x hx => h x (by simp [hx])) x hx; omega
theorem equal_is {E : Int} {xs : List Int} (h0 : ∀ x ∈ xs, 0 ≤ x) (hE : 0 ≤ E) (hS : E ≤ isum xs) : ∃ m L, EqualIs E xs m L := by
  obtain ⟨i1, i2, i3, i4⟩ := eqLoop_sum (sortI xs) E 0 (sortI_sorted xs) (fun x hx => h0 x ((sortI_mem xs x).1 hx)) (by omega) (by omega)
  rw [sortI_length] at i1 i2 i3 i4
  obtain ⟨p, hp⟩ : ∃ p, p = eqLoop (sortI xs) E xs.length := ⟨_, rfl⟩
  rw [← hp] at i1 i2 i3 i4
  by_cases hm : p.2 = 0
  · have h1 := i4 hm
    rw [isum_perm (sortI_perm xs)] at h1
    have hE2 : E = isum xs := by
      rw [hm] at i1; omega
    refine ⟨1, E, by omega, ?_, ?_, hE⟩
    · unfold equalP; rw [← hp, if_pos hm]
      have : xs.map (fun c => min (c * 1) E) = xs := by
        conv => rhs; rw [← List.map_id xs]
        refine List.map_congr_left (fun x hx => ?_)
        have := le_isum h0 x hx
        simp; omega
      rw [this]
    · have : xs.map (fun c => min (c * 1) E) = xs := by
        conv => rhs; rw [← List.map_id xs]
        refine List.map_congr_left (fun x hx => ?_)
        have := le_isum h0 x hx
        simp; omega
      rw [this]; omega
  · refine ⟨p.2, p.1, by omega, ?_, ?_, by omega⟩
    · unfold equalP; rw [← hp, if_neg hm]
    · rw [← isum_perm ((sortI_perm xs).map _)]; exact i3
/-- Numbers over a divisor share the estate. -/
structure Shares (E : Int) (xs : List Int) (p : List Int × Int) : Prop where
  len : p.1.length = xs.length
  den : 1 ≤ p.2 ∧ p.2 ≤ 1000000
  num : ∀ k, k < xs.length → 0 ≤ ith p.1 k ∧ ith p.1 k ≤ ith xs k * p.2
  sum : isum p.1 = E * p.2
theorem isum_lessOf (xs l : List Int) (c : Int) (hl : l.length = xs.length) : isum (lessOf xs c l) = isum xs * c - isum l := by
  unfold lessOf
  rw [isum_range_sub, isum_range_mul, ← isum_eq_range, ← hl, ← isum_eq_range]
theorem equal_shares {E F : Int} {xs : List Int} (h : IsProb E xs) (hF : 0 ≤ F) (hS : F ≤ isum xs) : Shares F xs (equalP F xs) := by
  obtain ⟨h1, h2, h3⟩ := equalP_bounds h.claims h.seven h.one hF
  obtain ⟨m, L, hm⟩ := equal_is (fun x hx => (h.claims x hx).1) hF hS
  exact ⟨h2, by omega, h3, by rw [hm.val]; exact hm.sum⟩
theorem less_shares {E F m : Int} {xs : List Int} (h : IsProb E xs) (hF : 0 ≤ F) (hS : F ≤ isum xs) (hm : 1 ≤ m ∧ m ≤ 2) (hFE : F = m * (isum xs - E)) : Shares E xs (lessOf xs (m * (equalP F xs).2) (equalP F xs).1, m * (equalP F xs).2) := by
  have hs := equal_shares h hF hS
  obtain ⟨h1, h2, h3⟩ := equalP_bounds h.claims h.seven h.one hF
  have hmm : (equalP F xs).2 ≤ m * (equalP F xs).2 ∧ m * (equalP F xs).2 ≤ 14 := by
    obtain rfl | rfl : m = 1 ∨ m = 2 := by omega
    · omega
    · omega
  refine ⟨lessOf_length _ _ _, ⟨by simp only []; omega, by simp only []; omega⟩, fun k hk => ?_, ?_⟩
  · have h4 := h3 k hk
    have h5 := h.claims.at_ k hk
    have h7 : ith xs k * (equalP F xs).2 ≤ ith xs k * (m * (equalP F xs).2) := Int.mul_le_mul_of_nonneg_left hmm.1 h5.1
    simp only []
    rw [lessOf_at _ _ _ _ hk]
    omega
  · simp only []
    rw [isum_lessOf _ _ _ h2, hs.sum, hFE]
    generalize (equalP (m * (isum xs - E)) xs).2 = d
    have e : m * (isum xs - E) * d = (isum xs - E) * (m * d) := by rw [Int.mul_comm m (isum xs - E), Int.mul_assoc]
    rw [e, Int.sub_mul]
    omega
end Go.Proofs.Ytcngecibljgndaa

/- Levels of excesses; when a level's sets are in weights; plain. -/
namespace Go.Proofs.Ytcngecibljgndaa
open Go.RowKit Go.Shelf

/-- The sets have weights, and each one from the given place on can have a positive one. -/
structure LevelOK (n : Nat) (ss : List Int) (had : Nat) : Prop where
  some_ : ∃ w D, IsW n ss w D
  each : ∀ k, had ≤ k → k < ss.length → ∃ w D, IsW n ss w D ∧ 0 < w k
def levelsP (n : Nat) (l : List Int) : List Int → List Int → Prop
  | [], _ => True
  | x :: r, ss => LevelOK n (ss ++ setsTo l x l.length) ss.length ∧ levelsP n l r (ss ++ setsTo l x l.length)
theorem keeps_eq (zs : List Int) (k : Nat) (hk : k + 1 < zs.length) (h : Lib.keeps zs.toArray (k + 1) = true) : ith zs (k + 1) ≠ ith zs k := by
  simp only [Lib.keeps, decide_eq_true_eq, Nat.add_sub_cancel] at h
  rcases h with h | h
  · omega
  · simpa [ith, hk, show k < zs.length by omega] using h
theorem compact_sorted {zs : List Int} (hs : ∀ i j, i ≤ j → j < zs.length → ith zs i ≤ ith zs j) : (Lib.compact zs).Pairwise fun x y => x < y := by
  unfold Lib.compact Lib.compactUpTo
  rw [List.pairwise_map]
  refine (List.Pairwise.filter _ (List.pairwise_lt_range (n := zs.length))).imp_of_mem ?_
  intro a b ha hb hab
  rw [List.mem_filter, List.mem_range] at ha hb
  obtain ⟨c, rfl⟩ : ∃ c, b = c + 1 := ⟨b - 1, by omega⟩
  have h1 := hb.2
  have e : ∀ k, k < zs.length → zs.toArray[k]! = ith zs k := fun k hk => by simp [ith, hk]
  rw [e a ha.1, e _ hb.1]
  have h2 := hs a c (by omega) (by omega)
  have h3 := hs c (c + 1) (by omega) hb.1
  have h4 : ith zs (c + 1) ≠ ith zs c := keeps_eq zs c hb.1 h1
  omega
theorem levels_desc (l : List Int) : (levelsOf l).Pairwise fun x y => y < x := by
  unfold levelsOf
  rw [List.pairwise_reverse]
  refine compact_sorted (fun i j hij hj => ?_)
  have h := sortI_sorted l
  by_cases e : i = j
  · rw [e]; exact Int.le_refl _
  · have := List.pairwise_iff_getElem.1 h i j (by omega) hj (by omega)
    simpa [ith, hj, show i < (sortI l).length by omega] using this
/-- How many excesses are among the first k levels. -/
def cntL (l L : List Int) (k : Nat) : Nat := l.countP fun y => (L.take k).contains y
theorem cntL_le (l L : List Int) (k : Nat) : cntL l L k ≤ l.length := List.countP_le_length
theorem countP_or (p q : Int → Bool) (h : ∀ x, p x = true → q x = false) : ∀ l : List Int, l.countP (fun x => p x || q x) = l.countP p + l.countP q
  | [] => rfl
  | x :: l => by
    rw [List.countP_cons, List.countP_cons, List.countP_cons, countP_or p q h l]
    have := h x
    cases hp : p x <;> cases hq : q x <;> simp_all <;> omega
theorem setsTo_count (l : List Int) (x : Int) : (setsTo l x l.length).length = l.countP fun y => y == x := by
  have key : ∀ k, k ≤ l.length → (setsTo l x k).length = (l.take k).countP fun y => y == x := by
    intro k
    induction k with
    | zero => intro _; simp [setsTo]
    | succ k ih =>
      intro hk
      have ih := ih (by omega)
      have e : l.take (k + 1) = l.take k ++ [ith l k] := by
        rw [List.take_succ_eq_append_getElem (by omega)]
        simp [ith, show k < l.length by omega]
      rw [e, List.countP_append, ← ih]
      unfold setsTo
      rw [List.range_succ, List.filter_append, List.map_append, List.length_append]
      by_cases h : ith l k == x
      · simp [h]
      · simp [h]
  have := key l.length (Nat.le_refl _)
  rwa [List.take_length] at this
theorem cntL_succ (l L : List Int) (hd : L.Pairwise fun x y => y < x) (k : Nat) (hk : k < L.length) : cntL l L (k + 1) = cntL l L k + (setsTo l (ith L k) l.length).length := by
  have e : L.take (k + 1) = L.take k ++ [ith L k] := by
    rw [List.take_succ_eq_append_getElem (by omega)]
    simp [ith, hk]
  rw [setsTo_count]
  unfold cntL
  rw [← countP_or _ _ (fun x hx => ?_)]
  · refine List.countP_congr (fun x _ => ?_)
    rw [e]; simp
  · simp only [List.contains_eq_mem, decide_eq_true_eq] at hx
    obtain ⟨m, hm, e1⟩ := List.getElem_of_mem hx
    rw [List.length_take] at hm
    rw [List.getElem_take] at e1
    have := List.pairwise_iff_getElem.1 hd m k (by omega) hk (by omega)
    have e2 : ith L k = L[k] := by simp [ith, hk]
    simp only [beq_eq_false_iff_ne, ne_eq]
    omega
end Go.Proofs.Ytcngecibljgndaa

/- Levels by sets: who is in them, weights from lists of sets; plain. -/
namespace Go.Proofs.Ytcngecibljgndaa
open Go.RowKit Go.Shelf

theorem isum_cons' (x : Int) (l : List Int) : isum (x :: l) = x + isum l := isum_cons x l
/-- What weights give, summed over the sets. -/
theorem IsW.sums {n : Nat} {ss : List Int} {w : Nat → Int} {D : Int} (h : IsW n ss w D) (y : Nat → Int) : (sm ss.length fun k => w k * sm n fun r => inB (ith ss k) r * y r) = D * sm n y := by
  rw [sm_congr ss.length (g := fun k => sm n fun r => w k * (inB (ith ss k) r * y r)) (fun k _ => (sm_mul _ _ _).symm), sm_swap, ← sm_mul]
  refine sm_congr n (fun r hr => ?_)
  rw [← h.all r hr, Int.mul_comm, ← sm_mul]
  exact sm_congr _ (fun k _ => by grind)
theorem nodup_inj {ss : List Int} (hn : ss.Nodup) {k p : Nat} (hk : k < ss.length) (hp : p < ss.length) (e : ss[k] = ss[p]) : k = p := by
  rcases Nat.lt_trichotomy k p with h | h | h
  · exact absurd e (List.pairwise_iff_getElem.1 hn k p hk hp h)
  · exact h
  · exact absurd e.symm (List.pairwise_iff_getElem.1 hn p k hp hk h)
theorem sm_hit {ss : List Int} (hn : ss.Nodup) {a : Int} (ha : a ∈ ss) (F : Int → Int) : (sm ss.length fun k => F (ith ss k) * if ith ss k = a then 1 else 0) = F a := by
  obtain ⟨p, hp, rfl⟩ := List.getElem_of_mem ha
  rw [sm_congr ss.length (g := fun k => if k = p then F (ith ss k) else 0) (fun k hk => by
    have e : ith ss k = ss[k] := by simp [ith, hk]
    by_cases e1 : k = p
    · subst e1; rw [if_pos e, if_pos rfl, Int.mul_one]
    · rw [if_neg (fun e2 => e1 (nodup_inj hn hk hp (e.symm.trans e2))), if_neg e1, Int.mul_zero]), sm_one p (fun k => F (ith ss k)), if_pos hp]
  simp [ith, hp]
/-- Weights by a list of sets: how often each stands in it. -/
theorem isW_list {n : Nat} {ss : List Int} (hn : ss.Nodup) {As : List Int} (hA : ∀ a ∈ As, a ∈ ss) {D : Int} (hD : 0 < D) (hs : ∀ r, r < n → isum (As.map fun a => inB a r) = D) : IsW n ss (fun k => (As.count (ith ss k) : Int)) D := by
  refine ⟨hD, fun k _ => by omega, fun r hr => ?_⟩
  rw [← hs r hr]
  clear hs
  induction As with
  | nil => simp [sm_all0, isum_nil]
  | cons a As ih =>
    rw [List.map_cons, isum_cons', ← ih (fun b hb => hA b (List.mem_cons_of_mem _ hb)), ← sm_hit hn (hA a (by simp)) (fun s => inB s r), ← sm_add]
    refine sm_congr _ (fun k _ => ?_)
    rw [List.count_cons]
    by_cases e : a = ith ss k
    · rw [if_pos e.symm, if_pos (by simpa using e)]; grind
    · rw [if_neg (Ne.symm e), if_neg (by simpa using e)]; grind
/-- The sets of the first k levels. -/
def cumL (l L : List Int) : Nat → List Int
  | 0 => []
  | k + 1 => cumL l L k ++ setsTo l (ith L k) l.length
theorem levels_iff (n : Nat) (l L : List Int) : ∀ m k, L.length - k = m → k ≤ L.length → (levelsP n l (L.drop k) (cumL l L k) ↔ ∀ q, k ≤ q → q < L.length → LevelOK n (cumL l L (q + 1)) (cumL l L q).length)
  | 0, k, hm, hk => by
    obtain rfl : k = L.length := by omega
    rw [List.drop_length]
    exact ⟨fun _ q h1 h2 => by omega, fun _ => trivial⟩
  | m + 1, k, hm, hk => by
    have hlt : k < L.length := by omega
    rw [drop_cons' L k hlt, levelsP]
    have ih := levels_iff n l L m (k + 1) (by omega) (by omega)
    rw [cumL] at ih
    rw [ih]
    constructor
    · rintro ⟨h1, h2⟩ q h3 h4
      by_cases e : q = k
      · rw [e, cumL]; exact h1
      · exact h2 q (by omega) h4
    · intro h
      exact ⟨h k (Nat.le_refl _) hlt, fun q h1 h2 => h q (by omega) h2⟩
theorem setsTo_mem (l : List Int) (x s : Int) : s ∈ setsTo l x l.length ↔ ∃ j : Nat, j < l.length ∧ s = (j : Int) + 1 ∧ ith l j = x := by
  simp only [setsTo, List.mem_map, List.mem_filter, List.mem_range, beq_iff_eq]
  constructor
  · rintro ⟨j, ⟨h1, h2⟩, rfl⟩; exact ⟨j, h1, rfl, h2⟩
  · rintro ⟨j, h1, rfl, h2⟩; exact ⟨j, ⟨h1, h2⟩, rfl⟩
theorem setsTo_nodup (l : List Int) (x : Int) : (setsTo l x l.length).Nodup := by
  unfold setsTo
  refine List.Pairwise.map _ (R := fun a b => a ≠ b) (fun a b h => by omega) ?_
  exact List.Pairwise.filter _ List.nodup_range
theorem cumL_mem (l L : List Int) : ∀ k, k ≤ L.length → ∀ s, s ∈ cumL l L k ↔ ∃ j : Nat, j < l.length ∧ s = (j : Int) + 1 ∧ ∃ m, m < k ∧ ith l j = ith L m
  | 0, _, s => by simp [cumL]
  | k + 1, hk, s => by
    rw [cumL, List.mem_append, cumL_mem l L k (by omega), setsTo_mem]
    constructor
    · rintro (⟨j, h1, h2, m, h3, h4⟩ | ⟨j, h1, h2, h3⟩)
      · exact ⟨j, h1, h2, m, by omega, h4⟩
      · exact ⟨j, h1, h2, k, by omega, h3⟩
    · rintro ⟨j, h1, h2, m, h3, h4⟩
      by_cases e : m = k
      · subst e; exact .inr ⟨j, h1, h2, h4⟩
      · exact .inl ⟨j, h1, h2, m, by omega, h4⟩
theorem desc_at {L : List Int} (hd : L.Pairwise fun x y => y < x) {i j : Nat} (hij : i < j) (hj : j < L.length) : ith L j < ith L i := by
  have := List.pairwise_iff_getElem.1 hd i j (by omega) hj hij
  simpa [ith, hj, show i < L.length by omega] using this
theorem cumL_nodup (l L : List Int) (hd : L.Pairwise fun x y => y < x) : ∀ k, k ≤ L.length → (cumL l L k).Nodup
  | 0, _ => by simp [cumL]
  | k + 1, hk => by
    rw [cumL, List.nodup_append]
    refine ⟨cumL_nodup l L hd k (by omega), setsTo_nodup _ _, fun a ha b hb e => ?_⟩
    subst e
    obtain ⟨j, h1, h2, m, h3, h4⟩ := (cumL_mem l L k (by omega) _).1 ha
    obtain ⟨j', h5, h6, h7⟩ := (setsTo_mem _ _ _).1 hb
    obtain rfl : j = j' := by omega
    have := desc_at hd h3 (by omega)
    omega
theorem compact_has (zs : List Int) : ∀ j, j < zs.length → ith zs j ∈ Lib.compact zs
  | 0, h => by
    unfold Lib.compact Lib.compactUpTo
    rw [List.mem_map]
    exact ⟨0, by rw [List.mem_filter, List.mem_range]; exact ⟨h, by simp [Lib.keeps]⟩, by simp [ith, h]⟩
  | j + 1, h => by
    by_cases hk : Lib.keeps zs.toArray (j + 1) = true
    · unfold Lib.compact Lib.compactUpTo
      rw [List.mem_map]
      exact ⟨j + 1, by rw [List.mem_filter, List.mem_range]; exact ⟨h, hk⟩, by simp [ith, h]⟩
    · have := compact_has zs j (by omega)
      have e : ith zs (j + 1) = ith zs j := Decidable.byContradiction fun hne => hk (by
        simp only [Lib.keeps, decide_eq_true_eq, Nat.add_sub_cancel]
        right
        intro e2
        refine hne ?_
        simpa [ith, h, show j < zs.length by omega] using e2)
      rw [e]; exact this
theorem compact_of (zs : List Int) {x : Int} (h : x ∈ Lib.compact zs) : x ∈ zs := by
  unfold Lib.compact Lib.compactUpTo at h
  rw [List.mem_map] at h
  obtain ⟨j, hj, rfl⟩ := h
  rw [List.mem_filter, List.mem_range] at hj
  rw [show zs.toArray[j]! = zs[j]'hj.1 by simp [hj.1]]
  exact List.getElem_mem _
theorem levels_has (l : List Int) {j : Nat} (h : j < l.length) : ∃ k, k < (levelsOf l).length ∧ ith (levelsOf l) k = ith l j := by
  have h1 : ith l j ∈ sortI l := (sortI_perm l).mem_iff.2 (by rw [show ith l j = l[j] by simp [ith, h]]; exact List.getElem_mem _)
  obtain ⟨p, hp, e⟩ := List.getElem_of_mem h1
  have h2 := compact_has (sortI l) p hp
  rw [show ith (sortI l) p = ith l j by simp only [ith, List.getD_eq_getElem?_getD, List.getElem?_eq_getElem hp]; exact e] at h2
  have h3 : ith l j ∈ levelsOf l := List.mem_reverse.2 h2
  obtain ⟨k, hk, e2⟩ := List.getElem_of_mem h3
  exact ⟨k, hk, by simp only [ith, List.getD_eq_getElem?_getD, List.getElem?_eq_getElem hk]; exact e2⟩
theorem levels_of (l : List Int) {k : Nat} (h : k < (levelsOf l).length) : ∃ j, j < l.length ∧ ith l j = ith (levelsOf l) k := by
  have h1 : ith (levelsOf l) k ∈ levelsOf l := by rw [show ith (levelsOf l) k = (levelsOf l)[k] by simp [ith, h]]; exact List.getElem_mem _
  have h2 := (sortI_perm l).mem_iff.1 (compact_of _ (List.mem_reverse.1 h1))
  obtain ⟨j, hj, e⟩ := List.getElem_of_mem h2
  exact ⟨j, hj, by simp only [ith, List.getD_eq_getElem?_getD, List.getElem?_eq_getElem hj]; exact e⟩
end Go.Proofs.Ytcngecibljgndaa

/- Levels in weights: Kohlberg's condition; only one division has it; plain. -/
namespace Go.Proofs.Ytcngecibljgndaa
open Go.RowKit Go.Shelf

/-- Each set has a positive weight among those with no less excess. -/
def KP (n : Nat) (l : List Int) : Prop := ∀ j, j < l.length → ∃ (ss : List Int) (w : Nat → Int) (D : Int) (p : Nat), IsW n ss w D ∧ (∀ k, k < ss.length → ∃ i : Nat, i < l.length ∧ ith ss k = (i : Int) + 1 ∧ ith l j ≤ ith l i) ∧ p < ss.length ∧ ith ss p = (j : Int) + 1 ∧ 0 < w p
theorem desc_le {L : List Int} (hd : L.Pairwise fun x y => y < x) {i j : Nat} (hij : i ≤ j) (hj : j < L.length) : ith L j ≤ ith L i := by
  by_cases e : i = j
  · rw [e]; exact Int.le_refl _
  · have := desc_at hd (show i < j by omega) hj; omega
theorem ith_get (l : List Int) {k : Nat} (h : k < l.length) : ith l k = l[k] := by simp [ith, h]
theorem ith_behind (a b : List Int) {k : Nat} (h : a.length ≤ k) : ith (a ++ b) k = ith b (k - a.length) := by
  simp only [ith, List.getD_eq_getElem?_getD]
  rw [List.getElem?_append_right h]
theorem levels_KP {n : Nat} {l : List Int} (h : levelsP n l (levelsOf l) []) : KP n l := by
  intro j hj
  have hd := levels_desc l
  obtain ⟨k, hk, e⟩ := levels_has l hj
  have h1 := (levels_iff n l (levelsOf l) _ 0 rfl (by omega)).1 h k (by omega) hk
  have hm : ((j : Int) + 1) ∈ setsTo l (ith (levelsOf l) k) l.length := (setsTo_mem _ _ _).2 ⟨j, hj, rfl, e.symm⟩
  obtain ⟨p, hp, e2⟩ := List.getElem_of_mem hm
  have hlen : (cumL l (levelsOf l) (k + 1)).length = (cumL l (levelsOf l) k).length + (setsTo l (ith (levelsOf l) k) l.length).length := by rw [cumL, List.length_append]
  have hat : ith (cumL l (levelsOf l) (k + 1)) ((cumL l (levelsOf l) k).length + p) = (j : Int) + 1 := by
    rw [cumL, ith_behind _ _ (by omega), show (cumL l (levelsOf l) k).length + p - (cumL l (levelsOf l) k).length = p by omega, ith_get _ hp, e2]
  obtain ⟨w, D, h2, h3⟩ := h1.each ((cumL l (levelsOf l) k).length + p) (by omega) (by omega)
  refine ⟨_, w, D, _, h2, fun q hq => ?_, by omega, hat, h3⟩
  obtain ⟨i, a1, a2, m, a3, a4⟩ := (cumL_mem l (levelsOf l) (k + 1) (by omega) (ith (cumL l (levelsOf l) (k + 1)) q)).1 (by
    rw [show ith (cumL l (levelsOf l) (k + 1)) q = (cumL l (levelsOf l) (k + 1))[q] by simp [ith, hq]]; exact List.getElem_mem _)
  exact ⟨i, a1, a2, by rw [a4, ← e]; exact desc_le hd (by omega) hk⟩
theorem KP_levels {n : Nat} {l : List Int} (h : ∀ j, j < l.length → ∃ (As : List Int) (D : Int), 0 < D ∧ ((j : Int) + 1) ∈ As ∧ (∀ a ∈ As, ∃ i : Nat, i < l.length ∧ a = (i : Int) + 1 ∧ ith l j ≤ ith l i) ∧ ∀ r, r < n → isum (As.map fun a => inB a r) = D) : levelsP n l (levelsOf l) [] := by
  have hd := levels_desc l
  refine (levels_iff n l (levelsOf l) _ 0 rfl (by omega)).2 (fun q _ hq => ?_)
  have key : ∀ j, j < l.length → ith l j = ith (levelsOf l) q → ∃ (As : List Int) (D : Int), ((j : Int) + 1) ∈ As ∧ IsW n (cumL l (levelsOf l) (q + 1)) (fun k => (As.count (ith (cumL l (levelsOf l) (q + 1)) k) : Int)) D := by
    intro j hj e
    obtain ⟨As, D, h1, h2, h3, h4⟩ := h j hj
    refine ⟨As, D, h2, isW_list (cumL_nodup l _ hd _ (by omega)) (fun a ha => ?_) h1 h4⟩
    obtain ⟨i, hi, rfl, h5⟩ := h3 a ha
    obtain ⟨m, hm, e2⟩ := levels_has l hi
    refine (cumL_mem l _ (q + 1) (by omega) _).2 ⟨i, hi, rfl, m, ?_, e2.symm⟩
    rcases Nat.lt_or_ge q m with h6 | h6
    · have := desc_at hd h6 hm; omega
    · omega
  constructor
  · obtain ⟨j, hj, e⟩ := levels_of l hq
    obtain ⟨As, D, -, h1⟩ := key j hj e
    exact ⟨_, D, h1⟩
  · intro p hp hp2
    have hlen : (cumL l (levelsOf l) (q + 1)).length = (cumL l (levelsOf l) q).length + (setsTo l (ith (levelsOf l) q) l.length).length := by rw [cumL, List.length_append]
    have hat : ith (cumL l (levelsOf l) (q + 1)) p = ith (setsTo l (ith (levelsOf l) q) l.length) (p - (cumL l (levelsOf l) q).length) := by
      rw [cumL, ith_behind _ _ hp]
    have hp3 : p - (cumL l (levelsOf l) q).length < (setsTo l (ith (levelsOf l) q) l.length).length := by omega
    obtain ⟨j, hj, e1, e2⟩ := (setsTo_mem l (ith (levelsOf l) q) (ith (cumL l (levelsOf l) (q + 1)) p)).1 (by
      rw [hat, ith_get _ hp3]
      exact List.getElem_mem _)
    obtain ⟨As, D, h0, h1⟩ := key j hj e2
    refine ⟨_, D, h1, ?_⟩
    simp only [e1]
    have := List.count_pos_iff.2 h0
    omega
/-- What a set gets. -/
def getsV (n : Nat) (x : Nat → Int) (s : Int) : Int := sm n fun r => inB s r * x r
/-- Excesses of a division over a divisor, by what the sets are given. -/
structure ExcOf (n : Nat) (v : Nat → Int) (E : Int) (x : Nat → Int) (d : Int) (l : List Int) : Prop where
  den : 0 < d
  sum : sm n x = E * d
  exc : ∀ j, j < l.length → ith l j = v j * d - getsV n x ((j : Int) + 1)
/-- Where one has more excess, the other one has more at a set with no less. -/
theorem KP.core {n : Nat} {v : Nat → Int} {E dx dy : Int} {x y : Nat → Int} {lx ly : List Int} (hx : ExcOf n v E x dx lx) (hy : ExcOf n v E y dy ly) (hl : ly.length = lx.length) (hk : KP n lx) {j : Nat} (hj : j < lx.length) (hgt : ith ly j * dx < ith lx j * dy) :
    ∃ i, i < lx.length ∧ ith lx j ≤ ith lx i ∧ ith lx i * dy < ith ly i * dx := by
  refine Classical.byContradiction fun hno => ?_
  obtain ⟨ss, w, D, p, h1, h2, h3, h4, h5⟩ := hk j hj
  have e : ∀ i, i < lx.length → getsV n y ((i : Int) + 1) * dx - getsV n x ((i : Int) + 1) * dy = ith lx i * dy - ith ly i * dx := fun i hi => by
    rw [hx.exc i hi, hy.exc i (by omega)]; grind
  have s1 := h1.sums x
  have s2 := h1.sums y
  rw [hx.sum] at s1
  rw [hy.sum] at s2
  have e3 : (sm ss.length fun k => w k * (getsV n y (ith ss k) * dx - getsV n x (ith ss k) * dy)) = 0 := by
    have e4 : (sm ss.length fun k => w k * (getsV n y (ith ss k) * dx - getsV n x (ith ss k) * dy)) = dx * (sm ss.length fun k => w k * getsV n y (ith ss k)) - dy * sm ss.length fun k => w k * getsV n x (ith ss k) := by
      rw [← sm_mul, ← sm_mul, ← sm_sub]
      exact sm_congr _ (fun k _ => by grind)
    rw [e4]
    unfold getsV
    rw [s1, s2]; grind
  have hnn : ∀ k, k < ss.length → 0 ≤ w k * (getsV n y (ith ss k) * dx - getsV n x (ith ss k) * dy) := fun k hk => by
    obtain ⟨i, hi, e5, h6⟩ := h2 k hk
    refine Int.mul_nonneg (h1.low k hk) ?_
    rw [e5, e i hi]
    rcases Int.lt_or_le (ith lx i * dy) (ith ly i * dx) with h7 | h7
    · exact absurd ⟨i, hi, h6, h7⟩ hno
    · omega
  have hz := sm_eq0 ss.length hnn e3 p h3
  rw [h4, e j hj] at hz
  have := Int.mul_pos h5 (show 0 < ith lx j * dy - ith ly j * dx by omega)
  omega
theorem argmax (P : Nat → Prop) (g : Nat → Int) : ∀ M, (∃ j, j < M ∧ P j) → ∃ j, j < M ∧ P j ∧ ∀ i, i < M → P i → g i ≤ g j
  | 0, ⟨j, hj, _⟩ => by omega
  | M + 1, ⟨j, hj, hp⟩ => by
    by_cases h : ∃ j, j < M ∧ P j
    · obtain ⟨a, ha, h1, h2⟩ := argmax P g M h
      by_cases hM : P M ∧ g a < g M
      · refine ⟨M, by omega, hM.1, fun i hi hpi => ?_⟩
        by_cases e : i = M
        · rw [e]; exact Int.le_refl _
        · have := h2 i (by omega) hpi; omega
      · refine ⟨a, by omega, h1, fun i hi hpi => ?_⟩
        by_cases e : i = M
        · subst e
          rcases Int.lt_or_le (g a) (g i) with h3 | h3
          · exact absurd ⟨hpi, h3⟩ hM
          · exact h3
        · exact h2 i (by omega) hpi
    · obtain rfl : j = M := Classical.byContradiction fun e => h ⟨j, by omega, hp⟩
      refine ⟨j, by omega, hp, fun i hi hpi => ?_⟩
      obtain rfl : i = j := Classical.byContradiction fun e => h ⟨i, by omega, hpi⟩
      exact Int.le_refl _
/-- Two divisions with Kohlberg's condition have the same excesses. -/
theorem KP.same {n : Nat} {v : Nat → Int} {E dx dy : Int} {x y : Nat → Int} {lx ly : List Int} (hx : ExcOf n v E x dx lx) (hy : ExcOf n v E y dy ly) (hl : ly.length = lx.length) (hkx : KP n lx) (hky : KP n ly) : ∀ j, j < lx.length → ith lx j * dy = ith ly j * dx := by
  refine Classical.byContradiction fun hno => ?_
  have hex : ∃ j, j < lx.length ∧ ith lx j * dy ≠ ith ly j * dx := Classical.byContradiction fun h => hno fun j hj => Classical.byContradiction fun h2 => h ⟨j, hj, h2⟩
  obtain ⟨j, hj, hne, hmax⟩ := argmax (fun j => ith lx j * dy ≠ ith ly j * dx) (fun j => max (ith lx j * dy) (ith ly j * dx)) lx.length hex
  have hdx := hx.den
  have hdy := hy.den
  rcases Int.lt_or_gt_of_ne hne with h | h
  · obtain ⟨i, hi, h1, h2⟩ := hky.core hy hx hl.symm (by omega) h
    have h3 := hmax i (by omega) (by omega)
    have h4 := Int.mul_le_mul_of_nonneg_right h1 (show 0 ≤ dx by omega)
    omega
  · obtain ⟨i, hi, h1, h2⟩ := hkx.core hx hy hl hj (by omega)
    have h3 := hmax i hi (by omega)
    have h4 := Int.mul_le_mul_of_nonneg_right h1 (show 0 ≤ dy by omega)
    omega
end Go.Proofs.Ytcngecibljgndaa
