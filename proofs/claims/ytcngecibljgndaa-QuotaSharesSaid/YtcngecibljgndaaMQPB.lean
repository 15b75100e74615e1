/- inTurn, plain: what each one gets over all orders; and lowest terms. -/
import Derived.Test.YtcngecibljgndaaMQTA
namespace Go.Proofs.Ytcngecibljgndaa
open Go.RowKit Go.Shelf

/-- A sum over those who have not come. -/
def sumW (came : List Bool) (k : Nat) (t : Nat → Int) : Int := isum ((List.range k).map fun j => if bth came j = true then 0 else t j)
theorem sumW_zero (came : List Bool) (t : Nat → Int) : sumW came 0 t = 0 := by simp [sumW, isum_nil]
theorem sumW_succ (came : List Bool) (k : Nat) (t : Nat → Int) : sumW came (k + 1) t = sumW came k t + if bth came k = true then 0 else t k := by
  unfold sumW; rw [range_snoc, isum_append]; simp [isum_cons, isum_nil]
theorem sumW_le (came : List Bool) (t u : Nat → Int) : ∀ k, (∀ j, j < k → bth came j = false → t j ≤ u j) → sumW came k t ≤ sumW came k u
  | 0, _ => by simp [sumW_zero]
  | k + 1, h => by
    have := sumW_le came t u k (fun j hj => h j (by omega))
    rw [sumW_succ, sumW_succ]
    cases hc : bth came k with
    | true => simp; exact this
    | false => have := h k (by omega) hc; simp; omega
theorem sumW_congr (came : List Bool) (t u : Nat → Int) (k : Nat) (h : ∀ j, j < k → bth came j = false → t j = u j) : sumW came k t = sumW came k u :=
  Int.le_antisymm (sumW_le came t u k (fun j hj hc => by rw [h j hj hc]; omega)) (sumW_le came u t k (fun j hj hc => by rw [h j hj hc]; omega))
theorem sumW_const (came : List Bool) (c : Int) : ∀ k, sumW came k (fun _ => c) = wait came k * c
  | 0 => by simp [sumW_zero, wait]
  | k + 1 => by
    rw [sumW_succ, wait_succ, sumW_const came c k]
    cases hc : bth came k with
    | true => simp
    | false => simp [Int.add_mul]
theorem sumW_add (came : List Bool) (t u : Nat → Int) : ∀ k, sumW came k (fun j => t j + u j) = sumW came k t + sumW came k u
  | 0 => by simp [sumW_zero]
  | k + 1 => by
    rw [sumW_succ, sumW_succ, sumW_succ, sumW_add came t u k]
    cases hc : bth came k with
    | true => simp
    | false => simp; omega
theorem sumW_set (came : List Bool) (t : Nat → Int) (j : Nat) (hj : j < came.length) (h : bth came j = false) : ∀ k, sumW (came.set j true) k t + (if j < k then t j else 0) = sumW came k t
  | 0 => by simp [sumW_zero]
  | k + 1 => by
    have := sumW_set came t j hj h k
    rw [sumW_succ, sumW_succ, bth_set _ _ _ _ hj]
    by_cases e : k = j
    · subst e
      rw [if_pos rfl, h]
      simp at this ⊢
      exact this
    · rw [if_neg e]
      by_cases h2 : j < k
      · rw [if_pos h2] at this
        rw [if_pos (show j < k + 1 by omega)]
        omega
      · rw [if_neg h2] at this
        rw [if_neg (show ¬ j < k + 1 by omega)]
        omega
theorem sumW_swap (came : List Bool) (f : Nat → Nat → Int) (a : Nat) : ∀ b, sumW came a (fun i => sumW came b fun j => f i j) = sumW came b (fun j => sumW came a fun i => f i j)
  | 0 => by
    have e : ∀ k, sumW came k (fun _ => (0 : Int)) = 0 := fun k => by rw [sumW_const]; simp
    simp only [sumW_zero]; exact e a
  | b + 1 => by
    have ih := sumW_swap came f a b
    rw [sumW_succ, ← ih]
    cases hc : bth came b with
    | true =>
      rw [if_pos rfl, Int.add_zero]
      exact sumW_congr _ _ _ _ (fun i _ _ => by rw [sumW_succ, if_pos hc]; omega)
    | false =>
      rw [if_neg (by simp), ← sumW_add]
      exact sumW_congr _ _ _ _ (fun i _ _ => by rw [sumW_succ, if_neg (by simp [hc])])
theorem sumW_nonneg (came : List Bool) (t : Nat → Int) (k : Nat) (h : ∀ j, j < k → bth came j = false → 0 ≤ t j) : 0 ≤ sumW came k t := by
  have := sumW_le came (fun _ => 0) t k h
  rw [sumW_const] at this; simpa using this
theorem wait_none {came : List Bool} : ∀ {k : Nat}, wait came k = 0 → ∀ i, i < k → bth came i = true
  | 0, _, i, hi => by omega
  | k + 1, h, i, hi => by
    rw [wait_succ] at h
    have h1 : wait came k = 0 := by omega
    by_cases e : i = k
    · subst e
      cases hc : bth came i with
      | true => rfl
      | false => rw [hc] at h; simp at h
    · exact wait_none h1 i (by omega)
theorem wait_set' {came : List Bool} {n f j : Nat} (hl : came.length = n) (hw : wait came n = f + 1) (hj : j < n) (hc : bth came j = false) : wait (came.set j true) n = f := by
  have := wait_set came j (by omega) hc n
  rw [if_pos hj, hw] at this; omega

/-- What one gets, in all orders in which those can come who have not. -/
def gets (xs : List Int) : Nat → Int → List Bool → Nat → Int
  | 0, _, _, _ => 0
  | f + 1, left, came, i => sumW came xs.length fun j => if j = i then min (ith xs j) left * fact f else gets xs f (left - min (ith xs j) left) (came.set j true) i
theorem next_gets (xs : List Int) : ∀ (f : Nat) (left : Int) (came : List Bool) (st : St), came.length = xs.length → st.got.length = xs.length → st.out.length = xs.length → wait came xs.length = f →
    (nextP xs f left came st).got.length = xs.length ∧ (nextP xs f left came st).out.length = xs.length ∧ (∀ i, i < xs.length → bth came i = true → ith (nextP xs f left came st).got i = ith st.got i) ∧
    ∀ i, i < xs.length → ith (nextP xs f left came st).out i = ith st.out i + if bth came i = true then ith st.got i * fact f else gets xs f left came i
  | 0, left, came, st, hl, hg, ho, hw => by
    refine ⟨hg, by simp [nextP, addL, ho], fun i _ _ => rfl, fun i hi => ?_⟩
    rw [if_pos (wait_none hw i hi)]
    simp only [nextP, addL, ho]
    rw [ith_map_range _ _ _ hi]
    simp [fact]
  | f + 1, left, came, st, hl, hg, ho, hw => by
    have key : ∀ k, k ≤ xs.length → ((List.range k).foldl (stepP (nextP xs f) xs left came) st).got.length = xs.length ∧ ((List.range k).foldl (stepP (nextP xs f) xs left came) st).out.length = xs.length ∧
        (∀ i, i < xs.length → bth came i = true → ith ((List.range k).foldl (stepP (nextP xs f) xs left came) st).got i = ith st.got i) ∧
        ∀ i, i < xs.length → ith ((List.range k).foldl (stepP (nextP xs f) xs left came) st).out i = ith st.out i + if bth came i = true then ith st.got i * fact f * wait came k else sumW came k fun j => if j = i then min (ith xs j) left * fact f else gets xs f (left - min (ith xs j) left) (came.set j true) i := by
      intro k
      induction k with
      | zero =>
        intro _
        refine ⟨hg, ho, fun i _ _ => rfl, fun i hi => ?_⟩
        simp [wait, sumW_zero]
      | succ k ih =>
        intro hk
        obtain ⟨i1, i2, i3, i4⟩ := ih (by omega)
        rw [foldl_range_succ]
        generalize (List.range k).foldl (stepP (nextP xs f) xs left came) st = s at *
        unfold stepP
        by_cases hc : bth came k = true
        · rw [if_pos hc]
          refine ⟨i1, i2, i3, fun i hi => ?_⟩
          rw [i4 i hi, wait_succ, if_pos hc, sumW_succ, if_pos hc]
          simp
        · rw [if_neg hc]
          have hcf : bth came k = false := by simpa using hc
          have hw2 := wait_set' hl hw (show k < xs.length by omega) hcf
          obtain ⟨j1, j2, j3, j4⟩ := next_gets xs f (left - min (ith xs k) left) (came.set k true) ⟨s.got.set k (min (ith xs k) left), s.out, s.ord⟩ (by simpa using hl) (by simpa using i1) i2 hw2
          simp only [] at j3 j4
          refine ⟨j1, j2, fun i hi hci => ?_, fun i hi => ?_⟩
          · have hne : i ≠ k := fun e => by rw [e] at hci; exact hc hci
            rw [j3 i hi (by rw [bth_set _ _ _ _ (by omega), if_neg hne]; exact hci), ith_set _ _ _ _ (by omega), if_neg hne]
            exact i3 i hi hci
          · rw [j4 i hi, i4 i hi, wait_succ, if_neg hc, sumW_succ, if_neg hc, bth_set _ _ _ _ (by omega), ith_set _ _ _ _ (by omega)]
            by_cases e : i = k
            · subst e
              rw [if_pos rfl, if_pos rfl, if_neg hc, if_neg hc, if_pos rfl]
              simp; omega
            · have e' : ¬ k = i := fun h => e h.symm
              rw [if_neg e, if_neg e, if_neg e']
              by_cases hci : bth came i = true
              · rw [if_pos hci, if_pos hci, if_pos hci, i3 i hi hci]
                simp [Int.mul_add]; omega
              · rw [if_neg hci, if_neg hci, if_neg hci]; omega
    obtain ⟨k1, k2, k3, k4⟩ := key xs.length (Nat.le_refl _)
    refine ⟨k1, k2, k3, fun i hi => ?_⟩
    have := k4 i hi
    rw [hw] at this
    show ith ((List.range xs.length).foldl (stepP (nextP xs f) xs left came) st).out i = _
    rw [this]
    by_cases hci : bth came i = true
    · rw [if_pos hci, if_pos hci, fact, Int.natCast_mul, Int.mul_assoc, Int.mul_comm (fact f : Int)]
    · rw [if_neg hci, if_neg hci]; rfl
theorem wait_all (n : Nat) : wait (List.replicate n false) n = n := by
  have : ∀ k, k ≤ n → wait (List.replicate n false) k = k := by
    intro k
    induction k with
    | zero => intro _; simp [wait]
    | succ k ih =>
      intro hk
      rw [wait_succ, ih (by omega)]
      simp [bth, show k < n by omega]
  exact this _ (Nat.le_refl _)
theorem bth_none (n i : Nat) : bth (List.replicate n false) i = false := by
  unfold bth
  rw [List.getD_eq_getElem?_getD, List.getElem?_replicate]
  split <;> rfl
theorem inTurn_gets (E : Int) (xs : List Int) : (inTurnP E xs).1.length = xs.length ∧ ∀ i, i < xs.length → ith (inTurnP E xs).1 i = gets xs xs.length E (List.replicate xs.length false) i := by
  obtain ⟨_, h2, _, h4⟩ := next_gets xs xs.length E (List.replicate xs.length false) ⟨List.replicate xs.length 0, List.replicate xs.length 0, 0⟩ (by simp) (by simp) (by simp) (wait_all _)
  refine ⟨h2, fun i hi => ?_⟩
  have := h4 i hi
  rw [bth_none] at this
  simp only [] at this
  unfold inTurnP
  simp only []
  rw [this]
  simp [ith, hi]
theorem gets_bounds (xs : List Int) (h0 : ∀ i, i < xs.length → 0 ≤ ith xs i) : ∀ (f : Nat) (left : Int) (came : List Bool) (i : Nat), came.length = xs.length → wait came xs.length = f → 0 ≤ left → i < xs.length → bth came i = false →
    0 ≤ gets xs f left came i ∧ gets xs f left came i ≤ ith xs i * fact f
  | 0, left, came, i, hl, hw, hL, hi, hc => by
    have := wait_none hw i hi
    rw [this] at hc; simp at hc
  | f + 1, left, came, i, hl, hw, hL, hi, hc => by
    have hx := h0 i hi
    have hf := fact_pos f
    have hterm : ∀ j, j < xs.length → bth came j = false → 0 ≤ (if j = i then min (ith xs j) left * fact f else gets xs f (left - min (ith xs j) left) (came.set j true) i) ∧ (if j = i then min (ith xs j) left * fact f else gets xs f (left - min (ith xs j) left) (came.set j true) i) ≤ ith xs i * fact f := by
      intro j hj hcj
      by_cases e : j = i
      · subst e
        rw [if_pos rfl]
        exact ⟨Int.mul_nonneg (by omega) (by omega), Int.mul_le_mul_of_nonneg_right (by omega) (by omega)⟩
      · rw [if_neg e]
        exact gets_bounds xs h0 f _ _ i (by simpa using hl) (wait_set' hl hw hj hcj) (by omega) hi (by rw [bth_set _ _ _ _ (by omega), if_neg (fun h => e h.symm)]; exact hc)
    rw [gets]
    refine ⟨sumW_nonneg _ _ _ (fun j hj hcj => (hterm j hj hcj).1), ?_⟩
    have h1 := sumW_le came _ (fun _ => ith xs i * fact f) xs.length (fun j hj hcj => (hterm j hj hcj).2)
    rw [sumW_const, hw] at h1
    rw [fact, Int.natCast_mul, ← Int.mul_assoc, Int.mul_comm (ith xs i), Int.mul_assoc]
    exact h1
theorem gets_sum (xs : List Int) (h0 : ∀ i, i < xs.length → 0 ≤ ith xs i) : ∀ (f : Nat) (left : Int) (came : List Bool), came.length = xs.length → wait came xs.length = f → 0 ≤ left →
    sumW came xs.length (fun i => gets xs f left came i) = min left (sumW came xs.length fun i => ith xs i) * fact f
  | 0, left, came, hl, hw, hL => by
    have e : ∀ t, sumW came xs.length t = 0 := fun t => by
      have := sumW_congr came t (fun _ => 0) xs.length (fun j hj hc => by rw [wait_none hw j hj] at hc; simp at hc)
      rw [this, sumW_const]; simp
    rw [e, e, Int.min_eq_right hL]; simp
  | f + 1, left, came, hl, hw, hL => by
    have hR : ∀ j, j < xs.length → bth came j = false → sumW (came.set j true) xs.length (fun i => ith xs i) + ith xs j = sumW came xs.length fun i => ith xs i := fun j hj hc => by
      have := sumW_set came (fun i => ith xs i) j (by omega) hc xs.length
      rw [if_pos hj] at this; exact this
    have e1 : sumW came xs.length (fun i => gets xs (f + 1) left came i) = sumW came xs.length (fun j => sumW came xs.length fun i => if j = i then min (ith xs j) left * fact f else gets xs f (left - min (ith xs j) left) (came.set j true) i) := by
      rw [← sumW_swap]; rfl
    rw [e1]
    have e2 : ∀ j, j < xs.length → bth came j = false → (sumW came xs.length fun i => if j = i then min (ith xs j) left * fact f else gets xs f (left - min (ith xs j) left) (came.set j true) i) = min left (sumW came xs.length fun i => ith xs i) * fact f := by
      intro j hj hc
      have h1 := sumW_set came (fun i => if j = i then min (ith xs j) left * fact f else gets xs f (left - min (ith xs j) left) (came.set j true) i) j (by omega) hc xs.length
      rw [if_pos hj, if_pos rfl] at h1
      rw [← h1]
      have h2 : (sumW (came.set j true) xs.length fun i => if j = i then min (ith xs j) left * fact f else gets xs f (left - min (ith xs j) left) (came.set j true) i) = sumW (came.set j true) xs.length fun i => gets xs f (left - min (ith xs j) left) (came.set j true) i :=
        sumW_congr _ _ _ _ (fun i hi hci => by
          rw [bth_set _ _ _ _ (by omega)] at hci
          by_cases e : i = j
          · rw [if_pos e] at hci; simp at hci
          · rw [if_neg (fun h => e h.symm)])
      rw [h2, gets_sum xs h0 f _ _ (by simpa using hl) (wait_set' hl hw hj hc) (by omega), ← Int.add_mul]
      congr 1
      have h3 := hR j hj hc
      have h4 := h0 j hj
      have h5 : 0 ≤ sumW (came.set j true) xs.length fun i => ith xs i := sumW_nonneg _ _ _ (fun i hi _ => h0 i hi)
      omega
    rw [sumW_congr came _ (fun _ => min left (sumW came xs.length fun i => ith xs i) * fact f) xs.length e2, sumW_const, hw, fact, Int.natCast_mul, ← Int.mul_assoc, Int.mul_comm ((f + 1 : Nat) : Int), Int.mul_assoc]
theorem sumW_none (n : Nat) (t : Nat → Int) (k : Nat) : sumW (List.replicate n false) k t = isum ((List.range k).map t) := by
  unfold sumW
  exact isum_range_congr _ _ _ (fun i _ => by rw [bth_none]; simp)
theorem fact_seven {n : Nat} (h : n ≤ 7) : fact n ≤ 5040 := by
  match n, h with
  | 0, _ => decide
  | 1, _ => decide
  | 2, _ => decide
  | 3, _ => decide
  | 4, _ => decide
  | 5, _ => decide
  | 6, _ => decide
  | 7, _ => decide
theorem inTurn_shares {E : Int} {xs : List Int} (h : IsProb E xs) : Shares E xs (inTurnP E xs) := by
  obtain ⟨h1, h2⟩ := inTurn_gets E xs
  have h0 : ∀ i, i < xs.length → 0 ≤ ith xs i := fun i hi => (h.claims.at_ i hi).1
  have ho := inTurn_ord E xs
  have hf := fact_seven h.seven
  have hp := fact_pos xs.length
  refine ⟨h1, by omega, fun k hk => ?_, ?_⟩
  · rw [h2 k hk, ho]
    exact gets_bounds xs h0 xs.length E _ k (by simp) (wait_all _) h.estate.1 hk (bth_none _ _)
  · have h3 := gets_sum xs h0 xs.length E (List.replicate xs.length false) (by simp) (wait_all _) h.estate.1
    rw [sumW_none, sumW_none, ← isum_eq_range, Int.min_eq_left h.enough] at h3
    rw [ho, ← h3, isum_eq_range, h1]
    exact isum_range_congr _ _ _ (fun i hi => h2 i hi)
theorem rule_shares {rule E : Int} {xs : List Int} (h : IsProb E xs) : Shares E xs (ruleP rule E xs) := by
  have hE := h.estate
  have hs := h.enough
  have hm := h.claims.isum
  have hl := h.seven
  unfold ruleP
  split
  · exact equal_shares h hE.1 hs
  split
  · have := less_shares h (F := isum xs - E) (m := 1) (by omega) (by omega) (by omega) (by omega)
    simpa using this
  split
  · refine ⟨by simp, ⟨by simp only []; omega, by simp only []; omega⟩, fun k hk => ?_, ?_⟩
    · have h5 := h.claims.at_ k hk
      simp only []
      rw [ith_map _ _ _ hk]
      exact ⟨Int.mul_nonneg h5.1 hE.1, Int.mul_le_mul_of_nonneg_left (by omega) h5.1⟩
    · simp only []
      have e := isum_map_mul id E xs
      simp only [id_eq, List.map_id] at e
      rw [e, Int.mul_comm]
      by_cases h1 : 1 ≤ isum xs
      · rw [Int.max_eq_left h1]
      · have h2 : E = 0 := by omega
        rw [h2]; simp
  split
  · unfold talmudP
    split
    · have := equal_shares h (F := 2 * E) (by omega) (by omega)
      obtain ⟨h1, h2, h3⟩ := equalP_bounds h.claims h.seven h.one (show 0 ≤ 2 * E by omega)
      refine ⟨h2, by simp only []; omega, fun k hk => ?_, ?_⟩
      · have h4 := h3 k hk
        have h5 := h.claims.at_ k hk
        have h7 : ith xs k * (equalP (2 * E) xs).2 ≤ ith xs k * (2 * (equalP (2 * E) xs).2) := Int.mul_le_mul_of_nonneg_left (by omega) h5.1
        simp only []
        omega
      · simp only []
        rw [this.sum, Int.mul_comm 2 E, Int.mul_assoc]
    · exact less_shares h (F := 2 * (isum xs - E)) (m := 2) (by omega) (by omega) (by omega) rfl
  · exact inTurn_shares h
theorem gcdL_map_div (d : Int) (l : List Int) (hd : 0 < d) : gcdL (d / gcdL d l) (l.map (· / (gcdL d l : Int))) = 1 := by
  obtain ⟨g, hg⟩ : ∃ g, g = gcdL d l := ⟨_, rfl⟩
  have hb := gcdL_bounds l hd
  obtain ⟨e1, e2⟩ := gcdL_dvd d l
  rw [← hg] at hb e1 e2 ⊢
  -- the greatest common divisor, times g
  have key : ∀ (m : List Int) (a : Nat), (g : Int) ∣ (a : Int) → (∀ x ∈ m, (g : Int) ∣ x) → (m.map (· / (g : Int))).foldl (fun b n => Int.gcd b n) (a / g) * g = m.foldl (fun b n => Int.gcd b n) a := by
    intro m
    induction m with
    | nil =>
      intro a ha _
      simp only [List.map_nil, List.foldl_nil]
      exact Nat.div_mul_cancel (Int.natCast_dvd_natCast.1 ha)
    | cons x m ih =>
      intro a ha hm
      obtain ⟨y, hy⟩ := hm x (by simp)
      obtain ⟨c, hc⟩ := Int.natCast_dvd_natCast.1 ha
      simp only [List.map_cons, List.foldl_cons]
      have hgp : 0 < g := hb.1
      have h1 : Int.gcd ((a / g : Nat) : Int) (x / g) * g = Int.gcd a x := by
        subst hy hc
        rw [Nat.mul_div_cancel_left _ hgp, Int.mul_ediv_cancel_left _ (by omega), Int.natCast_mul, Int.gcd_mul_left]
        simp [Nat.mul_comm]
      have h2 : Int.gcd ((a / g : Nat) : Int) (x / g) = Int.gcd a x / g := by rw [← h1, Nat.mul_div_cancel _ hgp]
      rw [h2]
      refine ih _ ?_ (fun z hz => hm z (by simp [hz]))
      rw [← h1, Int.natCast_mul]
      exact Int.dvd_mul_left _ _
  have h1 := key l d.natAbs (by rw [Int.dvd_natAbs]; exact e1) e2
  have h2 : (d / (g : Int)).natAbs = d.natAbs / g := by
    obtain ⟨c, hc⟩ := e1
    have hgp : 0 < g := hb.1
    subst hc
    rw [Int.mul_ediv_cancel_left _ (by omega), Int.natAbs_mul, Int.natAbs_natCast, Nat.mul_div_cancel_left _ hgp]
  have h3 : l.foldl (fun b n => Int.gcd b n) d.natAbs = g := by rw [hg]; rfl
  rw [h3] at h1
  unfold gcdL
  rw [h2]
  exact Nat.eq_of_mul_eq_mul_right hb.1 (by omega)
/-- Shares in lowest terms are shares. -/
theorem isum_map_div (g : Int) (hg : g ≠ 0) : ∀ l : List Int, (∀ x ∈ l, g ∣ x) → isum (l.map (· / g)) * g = isum l
  | [], _ => by simp [isum_nil]
  | x :: l, h => by
    rw [List.map_cons, isum_cons, isum_cons, Int.add_mul, isum_map_div g hg l (fun y hy => h y (by simp [hy])), Int.ediv_mul_cancel (h x (by simp))]
theorem low_is {E : Int} {xs : List Int} {p : List Int × Int} (h : Shares E xs p) : IsSh E xs (lowP p).1 (lowP p).2 := by
  have hd := h.den
  have hb := gcdL_bounds p.1 (show 0 < p.2 by omega)
  obtain ⟨e1, e2⟩ := gcdL_dvd p.2 p.1
  have hlow := gcdL_map_div p.2 p.1 (by omega)
  unfold lowP
  generalize gcdL p.2 p.1 = g at *
  have hg0 : (0 : Int) < g := by omega
  have hden : p.2 / (g : Int) * g = p.2 := Int.ediv_mul_cancel e1
  have h1 : 1 ≤ p.2 / (g : Int) := Int.le_ediv_of_mul_le hg0 (by omega)
  have h2 : p.2 / (g : Int) ≤ p.2 := Int.ediv_le_self _ (by omega)
  refine ⟨⟨h1, by simp only []; omega⟩, by simp [h.len], fun k hk => ?_, hlow, ?_⟩
  · simp only []
    rw [ith_map _ _ _ (by rw [h.len]; exact hk)]
    have hn := h.num k hk
    have hk2 : k < p.1.length := by rw [h.len]; exact hk
    have hdv : (g : Int) ∣ ith p.1 k := e2 _ (by rw [show ith p.1 k = p.1[k] by simp [ith, hk2]]; exact List.getElem_mem _)
    refine ⟨Int.ediv_nonneg hn.1 (by omega), ?_⟩
    refine Int.ediv_le_of_le_mul hg0 ?_
    rw [Int.mul_assoc, hden]; exact hn.2
  · simp only []
    have h3 := isum_map_div g (by omega) p.1 e2
    have h4 : E * (p.2 / g) * g = isum p.1 := by rw [Int.mul_assoc, hden, h.sum]
    exact Int.eq_of_mul_eq_mul_right (show (g : Int) ≠ 0 by omega) (by rw [h3, h4])
theorem share_is {rule E : Int} {xs : List Int} {q : List Int × Int} (h : shareP rule E xs = some q) : IsProb E xs ∧ IsSh E xs q.1 q.2 := by
  unfold shareP at h
  split at h
  · rename_i hp
    have hP := (probB_true E xs).1 hp.1
    rw [Option.some.injEq] at h
    subst h
    exact ⟨hP, low_is (rule_shares hP)⟩
  · simp at h
end Go.Proofs.Ytcngecibljgndaa
