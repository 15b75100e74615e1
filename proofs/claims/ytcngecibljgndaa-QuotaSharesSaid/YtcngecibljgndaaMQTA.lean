/- The tableau of sets, and what is asked of the closed problem: plain. -/
import Derived.Test.YtcngecibljgndaaMQLay
import Derived.Test.YtcngecibljgndaaMQO
import Derived.Test.YtcngecibljgndaaMQH
import Derived.Test.YtcngecibljgndaaMLA
import Derived.Test.YtcngecibljgndaaMQK
import Derived.Test.YtcngecibljgndaaMQA
namespace Go.Proofs.Ytcngecibljgndaa
open Go.RowKit Go.Shelf

/-- Is claimant c in the set s? -/
def inB (s : Int) (c : Nat) : Int := if s.toNat.testBit c = true then 1 else 0
/-- A row: its first k entries for sets. -/
def rowK (n : Nat) (ss : List Int) (c k : Nat) : List Int := (List.range (ss.length + n + 1)).map fun q => if q < k then inB (ith ss q) c else 0
def rowOf (n : Nat) (ss : List Int) (c : Nat) : List Int := ((rowK n ss c ss.length).set (ss.length + c) 1).set (ss.length + n) 1
/-- A goal, less the first k entries of a row. -/
def lessRow (m n : Nat) (g r : List Int) (k : Nat) : List Int := (List.range (m + n + 1)).map fun q => if q < k ∧ (q < m ∨ q = m + n) then ith g q - ith r q else ith g q
def goalOf (n : Nat) (ss : List Int) : Nat → List Int
  | 0 => List.replicate (ss.length + n + 1) 0
  | c + 1 => lessRow ss.length n (goalOf n ss c) (rowOf n ss c) (ss.length + n + 1)
/-- The tableau, when c claimants have a row. -/
def tabK (n : Nat) (ss : List Int) (c : Nat) : Tab := ⟨ss.length, n, (List.range c).map (rowOf n ss), goalOf n ss c, (List.range c).map fun q => ((ss.length + q : Nat) : Int), 1⟩


def greatAll (f : Nat) : Nat → Nat → Tab → Bool
  | 0, _, _ => true
  | c + 1, k, T => match greatestP f k T with | none => false | some (T', ws) => decide (ith ws k ≠ 0) && greatAll f c (k + 1) T'
def levelB (f n : Nat) (ss : List Int) (had : Nat) : Bool := match readyP f (tabK n ss n) with | none => false | some T => T.sm && decide (T.sets = ss.length) && greatAll f (ss.length - had) had T
/-- The sets of an excess, behind the first k of all. -/
def setsTo (l : List Int) (x : Int) (k : Nat) : List Int := ((List.range k).filter fun i => ith l i == x).map fun (i : Nat) => ((i : Int) + 1)
def levelsB (f n : Nat) (l : List Int) : List Int → List Int → Bool
  | [], _ => true
  | x :: r, ss => levelB f n (ss ++ setsTo l x l.length) ss.length && levelsB f n l r (ss ++ setsTo l x l.length)
def levelsOf (l : List Int) : List Int := (Lib.compact (sortI l)).reverse
theorem sort_claims : sortI [100, 200, 300] = [100, 200, 300] := by simp [sortI, List.mergeSort, List.MergeSort.Internal.splitInTwo]
theorem closed_exc : excP 200 [100, 200, 300] [50, 75, 75] 1 = [-50, -75, -125, -75, -125, -50] := by decide +kernel
theorem sort_exc : sortI [-50, -75, -125, -75, -125, -50] = [-125, -125, -75, -75, -50, -50] := by simp [sortI, List.mergeSort, List.MergeSort.Internal.splitInTwo]
theorem closed_compact : (Lib.compact [-125, -125, -75, -75, -50, -50]).reverse = ([-50, -75, -125] : List Int) := by decide +kernel
theorem closed_levels : levelsB 30 3 (excP 200 [100, 200, 300] [50, 75, 75] 1) (levelsOf (excP 200 [100, 200, 300] [50, 75, 75] 1)) [] = true := by
  rw [closed_exc, levelsOf, sort_exc, closed_compact]
  decide +kernel
theorem closed_talmud : shareP 3 200 [100, 200, 300] = some ([50, 75, 75], 1) := by
  unfold shareP ruleP talmudP equalP
  rw [sort_claims]
  decide +kernel
theorem closed_run : shareP 4 200 [100, 200, 300] = some ([100, 250, 250], 3) := by
  have h : ¬ (4 : Int) = 0 ∧ ¬ (4 : Int) = 1 ∧ ¬ (4 : Int) = 2 ∧ ¬ (4 : Int) = 3 := by decide
  unfold shareP ruleP
  rw [if_neg h.1, if_neg h.2.1, if_neg h.2.2.1, if_neg h.2.2.2]
  decide +kernel
theorem closed_is : isB 200 [100, 200, 300] [50, 75, 75] 1 = true := by decide +kernel
end Go.Proofs.Ytcngecibljgndaa

/- Weights of sets; what ready and greatest find of them; plain. -/
namespace Go.Proofs.Ytcngecibljgndaa
open Go.RowKit Go.Shelf
theorem sm_ge0 {f : Nat → Int} (n : Nat) (h : ∀ i, i < n → 0 ≤ f i) : 0 ≤ sm n f := by
  have := sm_le (f := fun _ => (0 : Int)) (g := f) n h
  rw [sm_zero] at this; exact this
theorem sm_eq0 {f : Nat → Int} : ∀ n, (∀ i, i < n → 0 ≤ f i) → sm n f = 0 → ∀ i, i < n → f i = 0
  | 0, _, _, i, hi => by omega
  | n + 1, h, h0, i, hi => by
    rw [sm] at h0
    have h1 := sm_ge0 n (fun i hi => h i (by omega))
    have h2 := h n (by omega)
    by_cases e : i = n
    · rw [e]; omega
    · exact sm_eq0 n (fun i hi => h i (by omega)) (by omega) i (by omega)

/-- Weights as a point of the kernel. -/
def wy (n : Nat) (ss : List Int) (w : Nat → Int) (D : Int) : Nat → Int := fun l => if l < ss.length then w l else if l = ss.length + n then - D else 0
end Go.Proofs.Ytcngecibljgndaa

/- The library's Compact and Reverse at a list that the call itself has made. -/
namespace Go.Proofs.Ytcngecibljgndaa
open Go.RowKit Go.Shelf Go.Sort

theorem Own.holds {w : World} {B g off n cap : Nat} {zs : List Int} (h : Own w B 1 (.slice (some ⟨g, off, none⟩) n cap) (ints zs)) : Holds (Value.int .i64) w g off zs.toArray := by
  intro j hj
  have hj' : j < zs.length := by simpa using hj
  have := h.intAt j hj'
  refine ⟨?_, this.2⟩
  rw [this.1, getElem!_pos _ j hj]
  simp [ith, hj']
theorem Own.put {w : World} {B g off n cap q : Nat} {zs d : List Int} (h : Own w B 1 (.slice (some ⟨g, off, none⟩) n cap) (ints zs)) (hd : d.length = zs.length) :
    Own (putRow (Value.int .i64) (Sort.ahead w q) g off d.toArray) B 1 (.slice (some ⟨g, off, none⟩) n cap) (ints d) ∧ w.grownBy (putRow (Value.int .i64) (Sort.ahead w q) g off d.toArray) (some g) := by
  have hH : Holds (Value.int .i64) (Sort.ahead w q) g off zs.toArray := h.holds
  refine ⟨?_, ⟨rfl, rfl, rfl, by simp, fun k _ hk => ?_⟩⟩
  · obtain ⟨n', hl, ⟨hv, _⟩ | ⟨g', off', cap', hv, hb, hlt, hnc, hcm, hc, hx⟩⟩ := h
    · simp at hv
    · simp only [Value.slice.injEq, Option.some.injEq, Addr.mk.injEq, and_true] at hv
      obtain ⟨⟨rfl, rfl⟩, rfl, rfl⟩ := hv
      have hsz : d.toArray.size = zs.toArray.size := by simp [hd]
      rw [ints_length] at hl
      have hin : ∀ j, j < d.length → (putRow (Value.int .i64) (Sort.ahead w q) g off d.toArray).cell? ⟨g, off + j, none⟩ = some (.int .i64 (ith d j)) := fun j hj => by
        rw [cell?_putRow _ _ _ _ zs.toArray d.toArray hH hsz j (by simpa using hj), getElem!_pos _ j (by simpa using hj)]
        simp [ith, hj]
      refine ⟨n, by rw [ints_length]; omega, .inr ⟨g, off, cap, rfl, hb, by simpa using hlt, hnc, hcm, fun j hj => ⟨?_, ?_⟩, fun j hj => ?_⟩⟩
      · by_cases hjd : j < d.length
        · rw [hin j hjd]; rfl
        · rw [cell?_putRow_other _ _ _ _ _ _ (.inr (.inr (by simp; omega)))]
          exact (hc j hj).1
      · rw [frozen?_putRow]; exact (hc j hj).2
      · rw [hin j (by omega), ints_at _ _ (by omega)]
  · have hne : ¬ g = k := fun e => hk (by rw [e])
    unfold putRow mapBlock
    simp [Array.getElem?_modify, hne]
theorem Own.shorter {w : World} {B g off n cap m : Nat} {zs : List Int} (h : Own w B 1 (.slice (some ⟨g, off, none⟩) n cap) (ints zs)) (hm : m ≤ zs.length) : Own w B 1 (.slice (some ⟨g, off, none⟩) m cap) (ints (zs.take m)) := by
  obtain ⟨n', hl, ⟨hv, _⟩ | ⟨g', off', cap', hv, hb, hlt, hnc, hcm, hc, hx⟩⟩ := h
  · simp at hv
  · simp only [Value.slice.injEq, Option.some.injEq, Addr.mk.injEq, and_true] at hv
    obtain ⟨⟨rfl, rfl⟩, rfl, rfl⟩ := hv
    rw [ints_length] at hl
    refine ⟨m, by rw [ints_length, List.length_take]; omega, .inr ⟨g, off, cap, rfl, hb, hlt, by omega, hcm, hc, fun j hj => ?_⟩⟩
    rw [hx j (by omega), ints_at _ _ (by omega), ints_at _ _ (by rw [List.length_take]; omega)]
    congr 2
    simp only [ith, List.getD_eq_getElem?_getD, List.getElem?_take]
    rw [if_pos (by omega)]

theorem compact_le (zs : List Int) : (Lib.compact zs).length ≤ zs.length := by
  unfold Lib.compact Lib.compactUpTo
  rw [List.length_map]
  exact Nat.le_trans (List.length_filter_le _ _) (by simp)
def CompactRes (w : World) (B g off cap : Nat) (zs : List Int) (e : Ending) (w' : World) : Prop :=
  e = .returned (.slice (some ⟨g, off, none⟩) (Lib.compact zs).length cap) ∧ Own w' B 1 (.slice (some ⟨g, off, none⟩) (Lib.compact zs).length cap) (ints (Lib.compact zs)) ∧ w.grownBy w' (some g)
theorem compact_calls (w : World) (B g off cap : Nat) (zs : List Int) (h : Own w B 1 (.slice (some ⟨g, off, none⟩) zs.length cap) (ints zs)) (hl : zs.length ≤ cap) (hl2 : zs.length ≤ 1000000) :
    Calls Try.prog 62 #[.slice (some ⟨g, off, none⟩) zs.length cap] w (CompactRes w B g off cap zs) := by
  refine Calls.mono (AnyG.slices_Compact_int compactI g off cap zs w h.holds (by omega) hl) ?_
  rintro e w' ⟨rfl, q, rfl⟩
  have hc := compact_le zs
  obtain ⟨h1, h2⟩ := h.put (q := q) (d := Lib.compact zs ++ List.replicate (zs.length - (Lib.compact zs).length) 0) (by simp; omega)
  have h3 := h1.shorter (m := (Lib.compact zs).length) (by simp)
  rw [List.take_left'] at h3
  · exact ⟨rfl, h3, h2⟩
  · rfl
theorem reverse_calls (w : World) (B g off cap : Nat) (zs : List Int) (h : Own w B 1 (.slice (some ⟨g, off, none⟩) zs.length cap) (ints zs)) (hl2 : zs.length ≤ 1000000) :
    Calls Try.prog 65 #[.slice (some ⟨g, off, none⟩) zs.length cap] w (fun e w' => e = .returned (.tuple #[]) ∧ Own w' B 1 (.slice (some ⟨g, off, none⟩) zs.length cap) (ints zs.reverse) ∧ w.grownBy w' (some g)) := by
  refine Calls.mono (AnyG.slices_Reverse_int revInts g off cap zs w h.holds (by omega)) ?_
  rintro e w' ⟨rfl, q, rfl⟩
  obtain ⟨h1, h2⟩ := h.put (q := q) (d := zs.reverse) (by simp)
  exact ⟨rfl, h1, h2⟩
end Go.Proofs.Ytcngecibljgndaa

/- The rules, plain: each gives shares of the estate. -/
namespace Go.Proofs.Ytcngecibljgndaa
open Go.RowKit Go.Shelf

theorem isum_perm {l m : List Int} (h : l.Perm m) : isum l = isum m := by
  induction h with
  | nil => rfl
  | cons x _ ih => simp only [isum_cons, ih]
  | swap x y l => simp only [isum_cons]; omega
  | trans _ _ h1 h2 => exact h1.trans h2
theorem isum_map_mul (f : Int → Int) (c : Int) : ∀ l : List Int, isum (l.map fun x => f x * c) = isum (l.map f) * c
  | [] => by simp [isum_nil]
  | x :: l => by simp only [List.map_cons, isum_cons, isum_map_mul f c l, Int.add_mul]
theorem isum_range_add (f g : Nat → Int) : ∀ k : Nat, isum ((List.range k).map fun i => f i + g i) = isum ((List.range k).map f) + isum ((List.range k).map g)
  | 0 => by simp [isum_nil]
  | k + 1 => by rw [range_snoc, range_snoc, range_snoc, isum_append, isum_append, isum_append, isum_range_add f g k]; simp only [isum_cons, isum_nil]; omega
theorem isum_range_sub (f g : Nat → Int) : ∀ k : Nat, isum ((List.range k).map fun i => f i - g i) = isum ((List.range k).map f) - isum ((List.range k).map g)
  | 0 => by simp [isum_nil]
  | k + 1 => by rw [range_snoc, range_snoc, range_snoc, isum_append, isum_append, isum_append, isum_range_sub f g k]; simp only [isum_cons, isum_nil]; omega
theorem isum_range_mul (f : Nat → Int) (c : Int) : ∀ k : Nat, isum ((List.range k).map fun i => f i * c) = isum ((List.range k).map f) * c
  | 0 => by simp [isum_nil]
  | k + 1 => by rw [range_snoc, range_snoc, isum_append, isum_append, isum_range_mul f c k, Int.add_mul]; simp only [isum_cons, isum_nil, Int.add_zero]
theorem isum_range_congr (f g : Nat → Int) (k : Nat) (h : ∀ i, i < k → f i = g i) : isum ((List.range k).map f) = isum ((List.range k).map g) := by
  congr 1
  exact List.map_congr_left (fun i hi => h i (List.mem_range.1 hi))
theorem list_eq_range (xs : List Int) : xs = (List.range xs.length).map fun i => ith xs i := by
  apply List.ext_getElem
  · simp
  · intro i h1 h2; simp [ith, h1]
theorem isum_eq_range (xs : List Int) : isum xs = isum ((List.range xs.length).map fun i => ith xs i) := congrArg isum (list_eq_range xs)

theorem sortI_perm (xs : List Int) : (sortI xs).Perm xs := List.mergeSort_perm _ _
theorem sortI_sorted (xs : List Int) : (sortI xs).Pairwise (fun x y => x ≤ y) := by
  have := List.pairwise_mergeSort (le := fun x y : Int => decide (x ≤ y)) (by intro a b c h1 h2; simp at *; omega) (by intro a b; simp; omega) xs
  exact this.imp (fun h => by simpa using h)

/-- The loop of equal: what it leaves. -/
theorem eqLoop_sum : ∀ (l : List Int) (left c0 : Int), l.Pairwise (fun x y => x ≤ y) → (∀ x ∈ l, c0 ≤ x) → 0 ≤ c0 → c0 * l.length ≤ left →
    c0 * (eqLoop l left l.length).2 ≤ (eqLoop l left l.length).1 ∧ 0 ≤ (eqLoop l left l.length).2 ∧
    isum (l.map fun c => min (c * (eqLoop l left l.length).2) (eqLoop l left l.length).1) = left * (eqLoop l left l.length).2 ∧
    ((eqLoop l left l.length).2 = 0 → (eqLoop l left l.length).1 = left - isum l)
  | [], left, c0, _, _, _, h => by simp [eqLoop, isum_nil] at h ⊢; omega
  | c :: l, left, c0, hs, hm, h0, h => by
    have hc := hm c (by simp)
    have hs2 := List.pairwise_cons.1 hs
    by_cases hb : c * ((c :: l).length : Int) > left
    · rw [eqLoop_stop _ hb]
      simp only []
      refine ⟨h, by omega, ?_, fun e => by simp at e; omega⟩
      have key : ∀ m : List Int, (∀ x ∈ m, c ≤ x) → isum (m.map fun x => min (x * ((c :: l).length : Int)) left) = left * m.length := by
        intro m
        induction m with
        | nil => intro _; simp [isum_nil]
        | cons x m ih =>
          intro hx
          have h1 : c * ((c :: l).length : Int) ≤ x * ((c :: l).length : Int) := Int.mul_le_mul_of_nonneg_right (hx x (by simp)) (by omega)
          rw [List.map_cons, isum_cons, ih (fun y hy => hx y (by simp [hy]))]
          have e : ((x :: m).length : Int) = m.length + 1 := by simp
          rw [e, Int.mul_add]
          omega
      exact key (c :: l) (fun x hx => by
        rcases List.mem_cons.1 hx with rfl | hx
        · omega
        · exact hs2.1 x hx)
    · rw [eqLoop_go _ hb]
      have e : ((c :: l).length : Int) - 1 = (l.length : Int) := by simp
      rw [e]
      have e2 : ((c :: l).length : Int) = l.length + 1 := by simp
      rw [e2, Int.mul_add] at hb
      obtain ⟨i1, i2, i3, i4⟩ := eqLoop_sum l (left - c) c hs2.2 hs2.1 (by omega) (by omega)
      generalize eqLoop l (left - c) l.length = p at *
      have h1 : c0 * p.2 ≤ c * p.2 := Int.mul_le_mul_of_nonneg_right hc i2
      refine ⟨by omega, i2, ?_, fun e3 => by rw [i4 e3, isum_cons]; omega⟩
      rw [List.map_cons, isum_cons, i3, Int.sub_mul]
      omega
/-- What equal gives: the same for all, but no more than the claim. -/
structure EqualIs (E : Int) (xs : List Int) (m L : Int) : Prop where
  den : 1 ≤ m
  val : equalP E xs = (xs.map fun c => min (c * m) L, m)
  sum : isum (xs.map fun c => min (c * m) L) = E * m
  low : 0 ≤ L
theorem le_isum {xs : List Int} (h : ∀ x ∈ xs, 0 ≤ x) : ∀ x ∈ xs, x ≤ isum xs := by
  induction xs with
  | nil => intro x hx; simp at hx
  | cons y l ih =>
    intro x hx
    have h2 : 0 ≤ isum l := by
      have : ∀ m : List Int, (∀ x ∈ m, 0 ≤ x) → 0 ≤ isum m := by
        intro m
        induction m with
        | nil => intro _; simp [isum_nil]
        | cons z m ih => intro hz; have := ih (fun x hx => hz x (by simp [hx])); have := hz z (by simp); rw [isum_cons]; omega
      exact this l (fun x hx => h x (by simp [hx]))
    have h1 := h y (by simp)
    rw [isum_cons]
    rcases List.mem_cons.1 hx with rfl | hx
    · omega
    · have := ih (fun x hx => h x (by simp [hx])) x hx; omega
theorem equal_is {E : Int} {xs : List Int} (h0 : ∀ x ∈ xs, 0 ≤ x) (hE : 0 ≤ E) (hS : E ≤ isum xs) : ∃ m L, EqualIs E xs m L := by
  obtain ⟨i1, i2, i3, i4⟩ := eqLoop_sum (sortI xs) E 0 (sortI_sorted xs) (fun x hx => h0 x ((sortI_mem xs x).1 hx)) (by omega) (by omega)
  rw [sortI_length] at i1 i2 i3 i4
  obtain ⟨p, hp⟩ : ∃ p, p = eqLoop (sortI xs) E xs.length := ⟨_, rfl⟩
  rw [← hp] at i1 i2 i3 i4
  by_cases hm : p.2 = 0
  · have h1 := i4 hm
    rw [isum_perm (sortI_perm xs)] at h1
    have hE2 : E = isum xs := by
      rw [hm] at i1; omega
    refine ⟨1, E, by omega, ?_, ?_, hE⟩
    · unfold equalP; rw [← hp, if_pos hm]
      have : xs.map (fun c => min (c * 1) E) = xs := by
        conv => rhs; rw [← List.map_id xs]
        refine List.map_congr_left (fun x hx => ?_)
        have := le_isum h0 x hx
        simp; omega
      rw [this]
    · have : xs.map (fun c => min (c * 1) E) = xs := by
        conv => rhs; rw [← List.map_id xs]
        refine List.map_congr_left (fun x hx => ?_)
        have := le_isum h0 x hx
        simp; omega
      rw [this]; omega
  · refine ⟨p.2, p.1, by omega, ?_, ?_, by omega⟩
    · unfold equalP; rw [← hp, if_neg hm]
    · rw [← isum_perm ((sortI_perm xs).map _)]; exact i3
/-- Numbers over a divisor share the estate. -/
structure Shares (E : Int) (xs : List Int) (p : List Int × Int) : Prop where
  len : p.1.length = xs.length
  den : 1 ≤ p.2 ∧ p.2 ≤ 1000000
  num : ∀ k, k < xs.length → 0 ≤ ith p.1 k ∧ ith p.1 k ≤ ith xs k * p.2
  sum : isum p.1 = E * p.2
theorem isum_lessOf (xs l : List Int) (c : Int) (hl : l.length = xs.length) : isum (lessOf xs c l) = isum xs * c - isum l := by
  unfold lessOf
  rw [isum_range_sub, isum_range_mul, ← isum_eq_range, ← hl, ← isum_eq_range]
theorem equal_shares {E F : Int} {xs : List Int} (h : IsProb E xs) (hF : 0 ≤ F) (hS : F ≤ isum xs) : Shares F xs (equalP F xs) := by
  obtain ⟨h1, h2, h3⟩ := equalP_bounds h.claims h.seven h.one hF
  obtain ⟨m, L, hm⟩ := equal_is (fun x hx => (h.claims x hx).1) hF hS
  exact ⟨h2, by omega, h3, by rw [hm.val]; exact hm.sum⟩
theorem less_shares {E F m : Int} {xs : List Int} (h : IsProb E xs) (hF : 0 ≤ F) (hS : F ≤ isum xs) (hm : 1 ≤ m ∧ m ≤ 2) (hFE : F = m * (isum xs - E)) : Shares E xs (lessOf xs (m * (equalP F xs).2) (equalP F xs).1, m * (equalP F xs).2) := by
  have hs := equal_shares h hF hS
  obtain ⟨h1, h2, h3⟩ := equalP_bounds h.claims h.seven h.one hF
  have hmm : (equalP F xs).2 ≤ m * (equalP F xs).2 ∧ m * (equalP F xs).2 ≤ 14 := by
    obtain rfl | rfl : m = 1 ∨ m = 2 := by omega
    · omega
    · omega
  refine ⟨lessOf_length _ _ _, ⟨by simp only []; omega, by simp only []; omega⟩, fun k hk => ?_, ?_⟩
  · have h4 := h3 k hk
    have h5 := h.claims.at_ k hk
    have h7 : ith xs k * (equalP F xs).2 ≤ ith xs k * (m * (equalP F xs).2) := Int.mul_le_mul_of_nonneg_left hmm.1 h5.1
    simp only []
    rw [lessOf_at _ _ _ _ hk]
    omega
  · simp only []
    rw [isum_lessOf _ _ _ h2, hs.sum, hFE]
    generalize (equalP (m * (isum xs - E)) xs).2 = d
    have e : m * (isum xs - E) * d = (isum xs - E) * (m * d) := by rw [Int.mul_comm m (isum xs - E), Int.mul_assoc]
    rw [e, Int.sub_mul]
    omega
end Go.Proofs.Ytcngecibljgndaa

/- Levels in weights: Kohlberg's condition; only one division has it; plain. -/
namespace Go.Proofs.Ytcngecibljgndaa
open Go.RowKit Go.Shelf
theorem ith_get (l : List Int) {k : Nat} (h : k < l.length) : ith l k = l[k] := by simp [ith, h]
end Go.Proofs.Ytcngecibljgndaa
