/- inTurn is its own dual, and the mean of what each one adds, plain. -/
import Derived.Test.YtcngecibljgndaaMQCA
namespace Go.Proofs.Ytcngecibljgndaa
open Go.RowKit Go.Shelf

theorem isum_turned (σ : Nat → Nat) (K : Nat) (h : ∀ s, s < K → σ s < K ∧ σ (σ s) = s) (F : Nat → Int) : isum ((List.range K).map fun s => F (σ s)) = isum ((List.range K).map fun s => F s) := by
  have e1 : isum ((List.range K).map fun s => F (σ s)) = isum ((List.range K).map fun s => isum ((List.range K).map fun t => if t = σ s then F t else 0)) :=
    isum_range_congr _ _ _ (fun s hs => by rw [isum_one F (σ s) K, if_pos (h s hs).1])
  rw [e1, isum_range_swap]
  refine isum_range_congr _ _ _ (fun t ht => ?_)
  have e2 : isum ((List.range K).map fun s => if t = σ s then F t else 0) = isum ((List.range K).map fun s => if s = σ t then F t else 0) := by
    refine isum_range_congr _ _ _ (fun s hs => ?_)
    by_cases e : t = σ s
    · rw [if_pos e, if_pos (by rw [e, (h s hs).2])]
    · rw [if_neg e, if_neg (fun e2 => e (by rw [e2, (h t ht).2]))]
  rw [e2, isum_one (fun _ => F t) (σ t) K, if_pos (h t ht).1]
/-- All others but one. -/
def others (n i s : Nat) : Nat := (2 ^ n - (s + 1)) ^^^ 2 ^ i
theorem others_bit {n i s : Nat} (hs : s < 2 ^ n) (k : Nat) (hk : k < n) : (others n i s).testBit k = if k = i then s.testBit k else !s.testBit k := by
  unfold others
  rw [Nat.testBit_xor, Nat.testBit_two_pow_sub_succ hs, Nat.testBit_two_pow]
  by_cases e : k = i
  · subst e; simp [hk]
  · rw [if_neg e]
    have : ¬ i = k := fun h => e h.symm
    simp [this, hk]
theorem others_lt {n i s : Nat} (hi : i < n) : others n i s < 2 ^ n := by
  have hp : 0 < 2 ^ n := Nat.pow_pos (by omega)
  exact Nat.xor_lt_two_pow (by omega) (Nat.pow_lt_pow_right (by omega) hi)
theorem others_twice {n i s : Nat} (hi : i < n) (hs : s < 2 ^ n) : others n i (others n i s) = s :=
  bits_eq (others_lt hi) hs (fun j hj => by
    rw [others_bit (others_lt hi) j hj, others_bit hs j hj]
    split <;> simp)
theorem many_others {n i s : Nat} (hs : s < 2 ^ n) (hb : s.testBit i = false) : ∀ k, k ≤ n → many1 s k + many1 (others n i s) k + (if i < k then 1 else 0) = k
  | 0, _ => by simp [many1]
  | k + 1, h => by
    have ih := many_others hs hb k (by omega)
    rw [many1, many1, others_bit hs k (by omega)]
    by_cases e : k = i
    · subst e
      rw [if_pos rfl, hb]
      simp at ih ⊢
      omega
    · rw [if_neg e]
      by_cases h2 : i < k
      · rw [if_pos h2] at ih
        rw [if_pos (show i < k + 1 by omega)]
        cases s.testBit k <;> simp <;> omega
      · rw [if_neg h2] at ih
        rw [if_neg (show ¬ i < k + 1 by omega)]
        cases s.testBit k <;> simp <;> omega
theorem setP_others {n i s : Nat} (xs : List Int) (hs : s < 2 ^ n) (hb : s.testBit i = false) : ∀ k, k ≤ n → setP xs s k + setP xs (others n i s) k + (if i < k then ith xs i else 0) = isum ((List.range k).map fun j => ith xs j)
  | 0, _ => by simp [setP, isum_nil]
  | k + 1, h => by
    have ih := setP_others xs hs hb k (by omega)
    rw [setP, setP, others_bit hs k (by omega), range_snoc, isum_append, isum_cons, isum_nil, ← ih]
    by_cases e : k = i
    · subst e
      rw [if_pos rfl, hb]
      simp
    · rw [if_neg e]
      by_cases h2 : i < k
      · rw [if_pos h2, if_pos (show i < k + 1 by omega)]
        cases s.testBit k <;> simp <;> omega
      · rw [if_neg h2, if_neg (show ¬ i < k + 1 by omega)]
        cases s.testBit k <;> simp <;> omega
theorem setP_nonneg (xs : List Int) (h0 : ∀ i, i < xs.length → 0 ≤ ith xs i) (s : Nat) : ∀ k, k ≤ xs.length → 0 ≤ setP xs s k
  | 0, _ => by simp [setP]
  | k + 1, h => by
    have := setP_nonneg xs h0 s k (by omega)
    have := h0 k (by omega)
    rw [setP]; split <;> omega
/-- What is known of a set and of all others but one. -/
theorem others_sums (xs : List Int) (h0 : ∀ i, i < xs.length → 0 ≤ ith xs i) (i s : Nat) (hi : i < xs.length) (hs : s < 2 ^ xs.length) (hb : s.testBit i = false) :
    setP xs (others xs.length i s) xs.length = isum xs - ith xs i - setP xs s xs.length ∧ many1 (others xs.length i s) xs.length = xs.length - 1 - many1 s xs.length ∧ xs.length - 1 - many1 (others xs.length i s) xs.length = many1 s xs.length ∧ 0 ≤ setP xs s xs.length ∧ 0 ≤ setP xs (others xs.length i s) xs.length := by
  have h1 := many_others (n := xs.length) hs hb xs.length (Nat.le_refl _)
  have h2 := setP_others (n := xs.length) xs hs hb xs.length (Nat.le_refl _)
  rw [if_pos hi] at h1 h2
  rw [← isum_eq_range] at h2
  have h3 := setP_nonneg xs h0 s xs.length (Nat.le_refl _)
  have h4 := setP_nonneg xs h0 (others xs.length i s) xs.length (Nat.le_refl _)
  omega
theorem inTurn_dual (E : Int) (xs : List Int) (h0 : ∀ i, i < xs.length → 0 ≤ ith xs i) (hE : 0 ≤ E) (hS : E ≤ isum xs) (i : Nat) (hi : i < xs.length) :
    ith (inTurnP E xs).1 i + ith (inTurnP (isum xs - E) xs).1 i = ith (inTurnP (isum xs) xs).1 i := by
  rw [inTurn_sets E hE xs h0 i hi, inTurn_sets (isum xs - E) (by omega) xs h0 i hi, inTurn_sets (isum xs) (by omega) xs h0 i hi,
    ← isum_turned (others xs.length i) (2 ^ xs.length) (fun s hs => ⟨others_lt hi, others_twice hi hs⟩) (fun s => setTerm (isum xs - E) xs i s), ← isum_range_add]
  refine isum_range_congr _ _ _ (fun s hs => ?_)
  unfold setTerm
  rw [others_bit hs i hi, if_pos rfl]
  cases hb : s.testBit i with
  | true => simp
  | false =>
    obtain ⟨e1, e2, e3, e4, e5⟩ := others_sums xs h0 i s hi hs hb
    rw [if_neg (by simp), if_neg (by simp), if_neg (by simp)]
    unfold restP payP
    rw [e3, e2, e1]
    have hx := h0 i hi
    rw [e1] at e5
    generalize setP xs s xs.length = C at *
    generalize isum xs = S at *
    generalize ith xs i = x at *
    generalize (fact (many1 s xs.length) : Int) = a
    generalize (fact (xs.length - 1 - many1 s xs.length) : Int) = b
    have k : min x (max 0 (E - C)) + min x (max 0 (S - E - (S - x - C))) = min x (max 0 (S - C)) := by omega
    rw [← k, Int.mul_add, Int.mul_add, Int.mul_left_comm b a]
theorem inTurn_full (xs : List Int) (h0 : ∀ i, i < xs.length → 0 ≤ ith xs i) (i : Nat) (hi : i < xs.length) : ith (inTurnP (isum xs) xs).1 i = ith xs i * fact xs.length := by
  obtain ⟨hlen, h2⟩ := inTurn_gets (isum xs) xs
  have hS : 0 ≤ isum xs := by
    rw [isum_eq_range]
    have := isum_range_le (fun _ => 0) (fun i => ith xs i) xs.length (fun i hi => h0 i hi)
    have e : isum ((List.range xs.length).map fun _ => (0 : Int)) = 0 := by
      have := isum_range_mul (fun _ => (0 : Int)) 0 xs.length
      simpa using this
    omega
  have hb := fun k (hk : k < xs.length) => gets_bounds xs h0 xs.length (isum xs) (List.replicate xs.length false) k (by simp) (wait_all _) hS hk (bth_none _ _)
  have hs := gets_sum xs h0 xs.length (isum xs) (List.replicate xs.length false) (by simp) (wait_all _) hS
  rw [sumW_none, sumW_none, ← isum_eq_range, Int.min_self] at hs
  have e1 : isum (xs.map fun x => x * fact xs.length) = isum xs * fact xs.length := by
    have := isum_map_mul id (fact xs.length) xs
    simpa using this
  -- no term falls short
  have key : ∀ k, k ≤ xs.length → isum ((List.range k).map fun j => gets xs xs.length (isum xs) (List.replicate xs.length false) j) ≤ isum ((List.range k).map fun j => ith xs j * fact xs.length) ∧
      (isum ((List.range k).map fun j => ith xs j * fact xs.length) ≤ isum ((List.range k).map fun j => gets xs xs.length (isum xs) (List.replicate xs.length false) j) → ∀ j, j < k → gets xs xs.length (isum xs) (List.replicate xs.length false) j = ith xs j * fact xs.length) := by
    intro k
    induction k with
    | zero => intro _; simp
    | succ k ih =>
      intro hk
      obtain ⟨i1, i2⟩ := ih (by omega)
      have := hb k (by omega)
      rw [range_snoc, range_snoc, isum_append, isum_append, isum_cons, isum_cons, isum_nil]
      refine ⟨by omega, fun h j hj => ?_⟩
      by_cases e : j = k
      · subst e; omega
      · exact i2 (by omega) j (by omega)
  rw [h2 i hi]
  refine (key xs.length (Nat.le_refl _)).2 ?_ i hi
  rw [hs, isum_range_mul (fun j => ith xs j), ← isum_eq_range]
  omega
/-- The mean of what one adds, all orders together. -/
def addsP (E : Int) (xs : List Int) (i s : Nat) : Int :=
  if s.testBit i = true then 0 else (fact (many1 s xs.length) : Int) * fact (xs.length - 1 - many1 s xs.length) * (ith (gameP E xs) (s + 2 ^ i) - ith (gameP E xs) s)
theorem leftP_setP (E : Int) (xs : List Int) (s : Nat) : ∀ k, leftP E xs s k = E - isum ((List.range k).map fun j => ith xs j) + setP xs s k
  | 0 => by simp [leftP, setP, isum_nil]
  | k + 1 => by
    rw [leftP, setP, leftP_setP E xs s k, range_snoc, isum_append, isum_cons, isum_nil]
    cases s.testBit k <;> simp <;> omega
theorem add_or {s i : Nat} (h : s.testBit i = false) : s + 2 ^ i = s ||| 2 ^ i := by
  apply Nat.eq_of_testBit_eq
  intro j
  rw [bit_or]
  by_cases e : j = i
  · subst e
    rw [if_pos rfl, Nat.add_comm, Nat.testBit_two_pow_add_eq, h]; rfl
  · rw [if_neg e]
    have h1 : s = 2 ^ (i + 1) * (s / 2 ^ (i + 1)) + s % 2 ^ (i + 1) := (Nat.div_add_mod _ _).symm
    have hlt : s % 2 ^ (i + 1) < 2 ^ i := by
      have h2 := Nat.mod_lt s (Nat.pow_pos (show 0 < 2 by omega) (n := i + 1))
      by_cases h3 : s % 2 ^ (i + 1) < 2 ^ i
      · exact h3
      · have h4 : (s % 2 ^ (i + 1)).testBit i = true := by
          apply Nat.testBit_of_two_pow_le_and_two_pow_add_one_gt <;> omega
        rw [Nat.testBit_mod_two_pow, h] at h4
        simp at h4
    have h5 : s % 2 ^ (i + 1) + 2 ^ i < 2 ^ (i + 1) := by
      have h7 : 2 ^ (i + 1) = 2 ^ i * 2 := Nat.pow_succ _ _
      generalize s % 2 ^ (i + 1) = y at *
      omega
    have h6 : s + 2 ^ i = 2 ^ (i + 1) * (s / 2 ^ (i + 1)) + (s % 2 ^ (i + 1) + 2 ^ i) := by omega
    rw [h6, Nat.testBit_two_pow_mul_add _ h5]
    conv => rhs; rw [h1, Nat.testBit_two_pow_mul_add _ (Nat.mod_lt _ (Nat.pow_pos (by omega)))]
    split
    · rename_i hj
      rw [Nat.add_comm]
      have : j < i := by omega
      rw [Nat.testBit_two_pow_add_gt this]
    · rfl
theorem shapley (E : Int) (xs : List Int) (h0 : ∀ i, i < xs.length → 0 ≤ ith xs i) (hE : 0 ≤ E) (i : Nat) (hi : i < xs.length) :
    isum ((List.range (2 ^ xs.length)).map fun s => addsP E xs i s) = ith (inTurnP E xs).1 i := by
  rw [inTurn_sets E hE xs h0 i hi, ← isum_turned (others xs.length i) (2 ^ xs.length) (fun s hs => ⟨others_lt hi, others_twice hi hs⟩) (fun s => setTerm E xs i s)]
  refine isum_range_congr _ _ _ (fun s hs => ?_)
  unfold addsP setTerm
  rw [others_bit hs i hi, if_pos rfl]
  cases hb : s.testBit i with
  | true => rfl
  | false =>
    obtain ⟨e1, e2, e3, e4, e5⟩ := others_sums xs h0 i s hi hs hb
    have hor : s ||| 2 ^ i < 2 ^ xs.length := Nat.or_lt_two_pow hs (Nat.pow_lt_pow_right (by omega) hi)
    rw [if_neg (by simp), if_neg (by simp), add_or hb]
    unfold restP payP
    have g : ∀ t, t < 2 ^ xs.length → ith (gameP E xs) t = max (E - isum xs + setP xs t xs.length) 0 := fun t ht => by
      unfold gameP
      rw [ith_map_range _ _ _ ht, leftP_setP, ← isum_eq_range]
    rw [g _ hor, g _ hs, e3, e2, e1, setP_or xs s i hb, if_pos hi]
    have hx := h0 i hi
    rw [e1] at e5
    generalize setP xs s xs.length = C at *
    generalize isum xs = S at *
    generalize ith xs i = x at *
    generalize (fact (many1 s xs.length) : Int) = a
    generalize (fact (xs.length - 1 - many1 s xs.length) : Int) = b
    have k : max (E - S + (C + x)) 0 - max (E - S + C) 0 = min x (max 0 (E - (S - x - C))) := by omega
    rw [k, Int.mul_comm a b, Int.mul_assoc]
end Go.Proofs.Ytcngecibljgndaa
