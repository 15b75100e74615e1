/- The rules keep the order of claims and of losses, plain. -/
import Derived.Test.YtcngecibljgndaaMQPB
import Derived.Test.YtcngecibljgndaaMQH
namespace Go.Proofs.Ytcngecibljgndaa
open Go.RowKit Go.Shelf

theorem sumW_same {A B : List Bool} (t : Nat → Int) : ∀ k, (∀ j, j < k → bth A j = bth B j) → sumW A k t = sumW B k t
  | 0, _ => by simp [sumW_zero]
  | k + 1, h => by rw [sumW_succ, sumW_succ, sumW_same t k (fun j hj => h j (by omega)), h k (by omega)]
theorem sumW_out {came : List Bool} {n i : Nat} (hl : came.length = n) (hi : i < n) (hc : bth came i = false) (t : Nat → Int) : sumW came n t = sumW (came.set i true) n t + t i := by
  have := sumW_set came t i (by omega) hc n
  rw [if_pos hi] at this; exact this.symm
theorem sumW_addc (came : List Bool) (t : Nat → Int) (c : Int) (n : Nat) : sumW came n (fun k => t k + c) = sumW came n t + wait came n * c := by
  rw [sumW_add, sumW_const]
theorem gets_mono (xs : List Int) : ∀ (f : Nat) (left left' : Int) (came : List Bool) (i : Nat), left ≤ left' → gets xs f left came i ≤ gets xs f left' came i
  | 0, _, _, _, _, _ => by simp [gets]
  | f + 1, left, left', came, i, h => by
    rw [gets, gets]
    have hf := fact_pos f
    refine sumW_le _ _ _ _ (fun k hk hc => ?_)
    split
    · exact Int.mul_le_mul_of_nonneg_right (by omega) (by omega)
    · exact gets_mono xs f _ _ _ _ (by omega)
/-- The one with the greater claim in the place of the other one. -/
theorem gets_swap (xs : List Int) (h0 : ∀ i, i < xs.length → 0 ≤ ith xs i) (i j : Nat) (hi : i < xs.length) (hj : j < xs.length) (hij : i ≠ j) (hx : ith xs i ≤ ith xs j) :
    ∀ (f : Nat) (left left' : Int) (A B : List Bool), A.length = xs.length → B.length = xs.length → wait A xs.length = f → bth A i = false → bth B j = false → bth A j = true → bth B i = true → (∀ k, k ≠ i → k ≠ j → bth A k = bth B k) →
      left ≤ left' → left' - left ≤ ith xs j - ith xs i → gets xs f left A i ≤ gets xs f left' B j ∧ gets xs f left' B j - gets xs f left A i ≤ (ith xs j - ith xs i) * fact f
  | 0, _, _, A, _, _, _, hw, hA, _, _, _, _, _, _ => by
    rw [wait_none hw i hi] at hA; simp at hA
  | f + 1, left, left', A, B, hlA, hlB, hw, hA, hB, hA2, hB2, hsame, hll, hld => by
    have hf := fact_pos f
    obtain ⟨b, hb⟩ : ∃ b, b = ith xs j - ith xs i := ⟨_, rfl⟩
    have hb0 : 0 ≤ b * fact f := Int.mul_nonneg (by omega) (by omega)
    have hwC := wait_set' hlA hw hi hA
    rw [gets, gets, sumW_out hlA hi hA, sumW_out hlB hj hB]
    have hbs : ∀ k, k < xs.length → bth (B.set j true) k = bth (A.set i true) k := fun k hk => by
      rw [bth_set _ _ _ _ (by omega), bth_set _ _ _ _ (by omega)]
      by_cases e1 : k = i
      · subst e1
        rw [if_neg hij, if_pos rfl]; exact hB2
      · by_cases e2 : k = j
        · subst e2
          rw [if_pos rfl, if_neg e1]; exact hA2.symm
        · rw [if_neg e2, if_neg e1]; exact (hsame k e1 e2).symm
    rw [sumW_same _ _ hbs]
    have hterm : ∀ k, k < xs.length → bth (A.set i true) k = false →
        (if k = i then min (ith xs k) left * fact f else gets xs f (left - min (ith xs k) left) (A.set k true) i) ≤ (if k = j then min (ith xs k) left' * fact f else gets xs f (left' - min (ith xs k) left') (B.set k true) j) ∧
        (if k = j then min (ith xs k) left' * fact f else gets xs f (left' - min (ith xs k) left') (B.set k true) j) ≤ (if k = i then min (ith xs k) left * fact f else gets xs f (left - min (ith xs k) left) (A.set k true) i) + b * fact f := by
      intro k hk hck
      rw [bth_set _ _ _ _ (by omega)] at hck
      have e1 : ¬ k = i := fun e => by rw [if_pos e] at hck; simp at hck
      rw [if_neg e1] at hck
      have e2 : ¬ k = j := fun e => by rw [e, hA2] at hck; simp at hck
      rw [if_neg e1, if_neg e2]
      have hckB : bth B k = false := by rw [← hsame k e1 e2]; exact hck
      have h1 := gets_swap xs h0 i j hi hj hij hx f (left - min (ith xs k) left) (left' - min (ith xs k) left') (A.set k true) (B.set k true) (by simpa using hlA) (by simpa using hlB) (wait_set' hlA hw hk hck)
        (by rw [bth_set _ _ _ _ (by omega), if_neg (fun e => e1 e.symm)]; exact hA) (by rw [bth_set _ _ _ _ (by omega), if_neg (fun e => e2 e.symm)]; exact hB)
        (by rw [bth_set _ _ _ _ (by omega), if_neg (fun e => e2 e.symm)]; exact hA2) (by rw [bth_set _ _ _ _ (by omega), if_neg (fun e => e1 e.symm)]; exact hB2)
        (fun q h2 h3 => by rw [bth_set _ _ _ _ (by omega), bth_set _ _ _ _ (by omega), hsame q h2 h3]) (by omega) (by omega)
      rw [← hb] at h1
      omega
    have l1 := sumW_le (A.set i true) _ _ xs.length (fun k hk hc => (hterm k hk hc).1)
    have l2 := sumW_le (A.set i true) _ _ xs.length (fun k hk hc => (hterm k hk hc).2)
    rw [sumW_addc, hwC] at l2
    rw [if_pos rfl, if_pos rfl]
    have m1 : min (ith xs i) left * fact f ≤ min (ith xs j) left' * fact f := Int.mul_le_mul_of_nonneg_right (by omega) (by omega)
    have m2 : min (ith xs j) left' * fact f ≤ (min (ith xs i) left + b) * fact f := Int.mul_le_mul_of_nonneg_right (by omega) (by omega)
    rw [Int.add_mul] at m2
    refine ⟨by omega, ?_⟩
    have e : b * (fact (f + 1) : Int) = b * fact f + f * (b * fact f) := by
      rw [fact, Int.natCast_mul, ← Int.mul_assoc, Int.mul_comm b ((f + 1 : Nat) : Int), Int.mul_assoc, Int.natCast_add, Int.add_mul]; simp; omega
    rw [← hb, e]
    omega
theorem gets_order (xs : List Int) (h0 : ∀ i, i < xs.length → 0 ≤ ith xs i) (i j : Nat) (hi : i < xs.length) (hj : j < xs.length) (hij : i ≠ j) (hx : ith xs i ≤ ith xs j) :
    ∀ (f : Nat) (left : Int) (came : List Bool), came.length = xs.length → wait came xs.length = f → bth came i = false → bth came j = false →
      gets xs f left came i ≤ gets xs f left came j ∧ gets xs f left came j - gets xs f left came i ≤ (ith xs j - ith xs i) * fact f
  | 0, left, came, hl, hw, hci, _ => by
    rw [wait_none hw i hi] at hci; simp at hci
  | f + 1, left, came, hl, hw, hci, hcj => by
    have hf := fact_pos f
    obtain ⟨b, hb⟩ : ∃ b, b = ith xs j - ith xs i := ⟨_, rfl⟩
    have hb0 : 0 ≤ b * fact f := Int.mul_nonneg (by omega) (by omega)
    have hcj2 : bth (came.set i true) j = false := by rw [bth_set _ _ _ _ (by omega), if_neg (fun e => hij e.symm)]; exact hcj
    have hwi := wait_set' hl hw hi hci
    have hli : (came.set i true).length = xs.length := by simpa using hl
    have hf1 : 1 ≤ f := by
      rcases Nat.eq_zero_or_pos f with e | e
      · rw [e] at hwi
        rw [wait_none hwi j hj] at hcj2; simp at hcj2
      · exact e
    have hwij := wait_set' hli (show wait (came.set i true) xs.length = (f - 1) + 1 by omega) hj hcj2
    rw [gets, gets, sumW_out hl hi hci, sumW_out hl hi hci, sumW_out hli hj hcj2, sumW_out hli hj hcj2]
    have hterm : ∀ k, k < xs.length → bth ((came.set i true).set j true) k = false →
        (if k = i then min (ith xs k) left * fact f else gets xs f (left - min (ith xs k) left) (came.set k true) i) ≤ (if k = j then min (ith xs k) left * fact f else gets xs f (left - min (ith xs k) left) (came.set k true) j) ∧
        (if k = j then min (ith xs k) left * fact f else gets xs f (left - min (ith xs k) left) (came.set k true) j) ≤ (if k = i then min (ith xs k) left * fact f else gets xs f (left - min (ith xs k) left) (came.set k true) i) + b * fact f := by
      intro k hk hck
      rw [bth_set _ _ _ _ (by omega)] at hck
      have e2 : ¬ k = j := fun e => by rw [if_pos e] at hck; simp at hck
      rw [if_neg e2, bth_set _ _ _ _ (by omega)] at hck
      have e1 : ¬ k = i := fun e => by rw [if_pos e] at hck; simp at hck
      rw [if_neg e1] at hck
      rw [if_neg e1, if_neg e2]
      have h1 := gets_order xs h0 i j hi hj hij hx f (left - min (ith xs k) left) (came.set k true) (by simpa using hl) (wait_set' hl hw hk hck)
        (by rw [bth_set _ _ _ _ (by omega), if_neg (fun e => e1 e.symm)]; exact hci) (by rw [bth_set _ _ _ _ (by omega), if_neg (fun e => e2 e.symm)]; exact hcj)
      rw [← hb] at h1
      omega
    have l1 := sumW_le ((came.set i true).set j true) _ _ xs.length (fun k hk hc => (hterm k hk hc).1)
    have l2 := sumW_le ((came.set i true).set j true) _ _ xs.length (fun k hk hc => (hterm k hk hc).2)
    rw [sumW_addc, hwij] at l2
    rw [if_pos rfl, if_pos rfl, if_neg (fun e => hij e.symm), if_neg hij]
    have hsw := gets_swap xs h0 i j hi hj hij hx f (left - min (ith xs j) left) (left - min (ith xs i) left) (came.set j true) (came.set i true) (by simpa using hl) hli (wait_set' hl hw hj hcj)
      (by rw [bth_set _ _ _ _ (by omega), if_neg hij]; exact hci) hcj2 (by rw [bth_set _ _ _ _ (by omega), if_pos rfl]) (by rw [bth_set _ _ _ _ (by omega), if_pos rfl])
      (fun q h2 h3 => by rw [bth_set _ _ _ _ (by omega), bth_set _ _ _ _ (by omega), if_neg h3, if_neg h2]) (by omega) (by omega)
    rw [← hb] at hsw
    have m1 : min (ith xs i) left * fact f ≤ min (ith xs j) left * fact f := Int.mul_le_mul_of_nonneg_right (by omega) (by omega)
    have m2 : min (ith xs j) left * fact f ≤ (min (ith xs i) left + b) * fact f := Int.mul_le_mul_of_nonneg_right (by omega) (by omega)
    rw [Int.add_mul] at m2
    refine ⟨by omega, ?_⟩
    have e : b * (fact (f + 1) : Int) = 2 * (b * fact f) + ((f - 1 : Nat) : Int) * (b * fact f) := by
      obtain ⟨q, rfl⟩ : ∃ q, f = q + 1 := ⟨f - 1, by omega⟩
      rw [fact, Int.natCast_mul, ← Int.mul_assoc, Int.mul_comm b ((q + 1 + 1 : Nat) : Int), Int.mul_assoc]
      generalize b * (fact (q + 1) : Int) = z
      simp only [Nat.add_sub_cancel]
      rw [show ((q + 1 + 1 : Nat) : Int) = 2 + (q : Int) by omega, Int.add_mul]
    rw [← hb, e]
    omega
/-- The order of claims is kept, and that of losses. -/
def Orderly (xs : List Int) (p : List Int × Int) : Prop := ∀ i j, i < xs.length → j < xs.length → ith xs i ≤ ith xs j → ith p.1 i ≤ ith p.1 j ∧ ith xs i * p.2 - ith p.1 i ≤ ith xs j * p.2 - ith p.1 j
theorem rule_orderly {rule E : Int} {xs : List Int} (h : IsProb E xs) : Orderly xs (ruleP rule E xs) := by
  have hE := h.estate
  have hs := h.enough
  have h0 : ∀ x ∈ xs, 0 ≤ x := fun x hx => (h.claims x hx).1
  intro i j hi hj hx
  unfold ruleP
  split
  · obtain ⟨m, L, hm⟩ := equal_is h0 hE.1 hs
    have hden := hm.den
    rw [hm.val]
    simp only []
    rw [ith_map _ _ _ hi, ith_map _ _ _ hj]
    have h1 : ith xs i * m ≤ ith xs j * m := Int.mul_le_mul_of_nonneg_right hx (by omega)
    omega
  split
  · obtain ⟨m, L, hm⟩ := equal_is h0 (show 0 ≤ isum xs - E by omega) (show isum xs - E ≤ isum xs by omega)
    have hden := hm.den
    rw [hm.val]
    simp only []
    rw [lessOf_at _ _ _ _ hi, lessOf_at _ _ _ _ hj, ith_map _ _ _ hi, ith_map _ _ _ hj]
    have h1 : ith xs i * m ≤ ith xs j * m := Int.mul_le_mul_of_nonneg_right hx (by omega)
    omega
  split
  · simp only []
    rw [ith_map _ _ _ hi, ith_map _ _ _ hj]
    have h1 : ith xs i * E ≤ ith xs j * E := Int.mul_le_mul_of_nonneg_right hx (by omega)
    have h2 : ith xs i * (max (isum xs) 1 - E) ≤ ith xs j * (max (isum xs) 1 - E) := Int.mul_le_mul_of_nonneg_right hx (by omega)
    rw [Int.mul_sub, Int.mul_sub] at h2
    exact ⟨h1, h2⟩
  split
  · unfold talmudP
    split
    · obtain ⟨m, L, hm⟩ := equal_is h0 (show 0 ≤ 2 * E by omega) (show 2 * E ≤ isum xs by omega)
      have hden := hm.den
      rw [hm.val]
      simp only []
      rw [ith_map _ _ _ hi, ith_map _ _ _ hj]
      have h1 : ith xs i * m ≤ ith xs j * m := Int.mul_le_mul_of_nonneg_right hx (by omega)
      have e : ∀ x : Int, x * (2 * m) = 2 * (x * m) := fun x => by rw [← Int.mul_assoc, Int.mul_comm x 2, Int.mul_assoc]
      rw [e, e]
      omega
    · obtain ⟨m, L, hm⟩ := equal_is h0 (show 0 ≤ 2 * (isum xs - E) by omega) (show 2 * (isum xs - E) ≤ isum xs by omega)
      have hden := hm.den
      rw [hm.val]
      simp only []
      rw [lessOf_at _ _ _ _ hi, lessOf_at _ _ _ _ hj, ith_map _ _ _ hi, ith_map _ _ _ hj]
      have h1 : ith xs i * m ≤ ith xs j * m := Int.mul_le_mul_of_nonneg_right hx (by omega)
      have e : ∀ x : Int, x * (2 * m) = 2 * (x * m) := fun x => by rw [← Int.mul_assoc, Int.mul_comm x 2, Int.mul_assoc]
      rw [e, e]
      omega
  · obtain ⟨h1, h2⟩ := inTurn_gets E xs
    rw [h2 i hi, h2 j hj, inTurn_ord]
    by_cases e : i = j
    · subst e; omega
    · have := gets_order xs (fun i hi => (h.claims.at_ i hi).1) i j hi hj e hx xs.length E (List.replicate xs.length false) (by simp) (wait_all _) (bth_none _ _) (bth_none _ _)
      rw [Int.sub_mul] at this
      omega
theorem low_orderly {E : Int} {xs : List Int} {p : List Int × Int} (h : Shares E xs p) (ho : Orderly xs p) : Orderly xs (lowP p) := by
  have hd := h.den
  have hb := gcdL_bounds p.1 (show 0 < p.2 by omega)
  obtain ⟨e1, e2⟩ := gcdL_dvd p.2 p.1
  unfold lowP
  generalize gcdL p.2 p.1 = g at *
  have hg0 : (0 : Int) < g := by omega
  have hden : p.2 / (g : Int) * g = p.2 := Int.ediv_mul_cancel e1
  have hdv : ∀ k, k < xs.length → ith p.1 k / (g : Int) * g = ith p.1 k := fun k hk => by
    have hk2 : k < p.1.length := by rw [h.len]; exact hk
    exact Int.ediv_mul_cancel (e2 _ (by rw [show ith p.1 k = p.1[k] by simp [ith, hk2]]; exact List.getElem_mem _))
  intro i j hi hj hx
  obtain ⟨h1, h2⟩ := ho i j hi hj hx
  simp only []
  rw [ith_map _ _ _ (by rw [h.len]; exact hi), ith_map _ _ _ (by rw [h.len]; exact hj)]
  refine ⟨Int.ediv_le_ediv hg0 h1, Int.le_of_mul_le_mul_right ?_ hg0⟩
  rw [Int.sub_mul, Int.sub_mul, Int.mul_assoc, Int.mul_assoc, hden, hdv i hi, hdv j hj]
  exact h2
theorem share_orderly {rule E : Int} {xs : List Int} {q : List Int × Int} (h : shareP rule E xs = some q) : Orderly xs q := by
  unfold shareP at h
  split at h
  · rename_i hp
    have hP := (probB_true E xs).1 hp.1
    rw [Option.some.injEq] at h
    subst h
    exact low_orderly (rule_shares hP) (rule_orderly hP)
  · simp at h
end Go.Proofs.Ytcngecibljgndaa

/- With a greater estate nobody gets less, plain. -/
namespace Go.Proofs.Ytcngecibljgndaa
open Go.RowKit Go.Shelf

theorem isum_eq_terms (f g : Int → Int) : ∀ l : List Int, (∀ x ∈ l, f x ≤ g x) → isum (l.map g) ≤ isum (l.map f) → ∀ x ∈ l, g x ≤ f x
  | [], _, _, x, hx => by simp at hx
  | y :: l, h, hs, x, hx => by
    have hle : ∀ m : List Int, (∀ x ∈ m, f x ≤ g x) → isum (m.map f) ≤ isum (m.map g) := by
      intro m
      induction m with
      | nil => intro _; simp
      | cons z m ih => intro hz; have := ih (fun x hx => hz x (by simp [hx])); have := hz z (by simp); simp only [List.map_cons, isum_cons]; omega
    have h1 := h y (by simp)
    have h2 := hle l (fun x hx => h x (by simp [hx]))
    simp only [List.map_cons, isum_cons] at hs
    rcases List.mem_cons.1 hx with rfl | hx
    · omega
    · exact isum_eq_terms f g l (fun x hx => h x (by simp [hx])) (by omega) x hx
theorem min_mul {p q c : Int} (hc : 0 ≤ c) : min p q * c = min (p * c) (q * c) := by
  rcases Int.le_total p q with h | h
  · rw [Int.min_eq_left h, Int.min_eq_left (Int.mul_le_mul_of_nonneg_right h hc)]
  · rw [Int.min_eq_right h, Int.min_eq_right (Int.mul_le_mul_of_nonneg_right h hc)]
/-- Equal division of a greater estate gives nobody less. -/
theorem equal_mono {F F' m L m' L' : Int} {xs : List Int} (h : EqualIs F xs m L) (h' : EqualIs F' xs m' L') (hF : F ≤ F') : ∀ c ∈ xs, min (c * m) L * m' ≤ min (c * m') L' * m := by
  have hm := h.den
  have hm' := h'.den
  intro c hc
  have e : ∀ c : Int, c * m * m' = c * m' * m := fun c => by rw [Int.mul_assoc, Int.mul_assoc, Int.mul_comm m m']
  rcases Int.le_total (L * m') (L' * m) with hL | hL
  · rw [min_mul (by omega), min_mul (by omega), e]
    omega
  · have key := isum_eq_terms (fun c => min (c * m') L' * m) (fun c => min (c * m) L * m') xs (fun c _ => by
      rw [min_mul (by omega), min_mul (by omega), e]
      omega) (by
      rw [isum_map_mul (fun c => min (c * m) L) m', isum_map_mul (fun c => min (c * m') L') m, h.sum, h'.sum, Int.mul_assoc, Int.mul_assoc, Int.mul_comm m m']
      exact Int.mul_le_mul_of_nonneg_right hF (Int.mul_nonneg (by omega) (by omega)))
    exact key c hc
/-- A part of one division is at most that of another one. -/
def NoLess (xs : List Int) (p p' : List Int × Int) : Prop := ∀ k, k < xs.length → ith p.1 k * p'.2 ≤ ith p'.1 k * p.2
theorem ith_mem {xs : List Int} {k : Nat} (hk : k < xs.length) : ith xs k ∈ xs := by rw [show ith xs k = xs[k] by simp [ith, hk]]; exact List.getElem_mem _
theorem rule_grows {rule E E' : Int} {xs : List Int} (h : IsProb E xs) (h' : IsProb E' xs) (hE : E ≤ E') : NoLess xs (ruleP rule E xs) (ruleP rule E' xs) := by
  have h0 : ∀ x ∈ xs, 0 ≤ x := fun x hx => (h.claims x hx).1
  have e1 := h.estate
  have e2 := h.enough
  have e3 := h'.enough
  intro k hk
  have hck := h0 _ (ith_mem hk)
  unfold ruleP
  split
  · obtain ⟨m, L, hm⟩ := equal_is h0 e1.1 e2
    obtain ⟨m', L', hm'⟩ := equal_is h0 (show 0 ≤ E' by omega) e3
    rw [hm.val, hm'.val]
    simp only []
    rw [ith_map _ _ _ hk, ith_map _ _ _ hk]
    exact equal_mono hm hm' hE _ (ith_mem hk)
  split
  · obtain ⟨m, L, hm⟩ := equal_is h0 (show 0 ≤ isum xs - E by omega) (show isum xs - E ≤ isum xs by omega)
    obtain ⟨m', L', hm'⟩ := equal_is h0 (show 0 ≤ isum xs - E' by omega) (show isum xs - E' ≤ isum xs by omega)
    rw [hm.val, hm'.val]
    simp only []
    rw [lessOf_at _ _ _ _ hk, lessOf_at _ _ _ _ hk, ith_map _ _ _ hk, ith_map _ _ _ hk]
    have := equal_mono hm' hm (by omega) _ (ith_mem hk)
    rw [Int.sub_mul, Int.sub_mul, Int.mul_assoc, Int.mul_assoc, Int.mul_comm m m']
    omega
  split
  · simp only []
    rw [ith_map _ _ _ hk, ith_map _ _ _ hk]
    exact Int.mul_le_mul_of_nonneg_right (Int.mul_le_mul_of_nonneg_left hE hck) (by omega)
  split
  · unfold talmudP
    split
    · split
      · obtain ⟨m, L, hm⟩ := equal_is h0 (show 0 ≤ 2 * E by omega) (show 2 * E ≤ isum xs by omega)
        obtain ⟨m', L', hm'⟩ := equal_is h0 (show 0 ≤ 2 * E' by omega) (show 2 * E' ≤ isum xs by omega)
        rw [hm.val, hm'.val]
        simp only []
        rw [ith_map _ _ _ hk, ith_map _ _ _ hk]
        have := equal_mono hm hm' (by omega) _ (ith_mem hk)
        have q : ∀ a b : Int, a * (2 * b) = 2 * (a * b) := fun a b => by rw [← Int.mul_assoc, Int.mul_comm a 2, Int.mul_assoc]
        rw [q, q]
        omega
      · obtain ⟨m, L, hm⟩ := equal_is h0 (show 0 ≤ 2 * E by omega) (show 2 * E ≤ isum xs by omega)
        obtain ⟨m', L', hm'⟩ := equal_is h0 (show 0 ≤ 2 * (isum xs - E') by omega) (show 2 * (isum xs - E') ≤ isum xs by omega)
        have d1 := hm.den
        have d2 := hm'.den
        rw [hm.val, hm'.val]
        simp only []
        rw [lessOf_at _ _ _ _ hk, ith_map _ _ _ hk, ith_map _ _ _ hk]
        generalize ith xs k = c at *
        have a1 : min (c * m) L * (2 * m') ≤ c * m * (2 * m') := Int.mul_le_mul_of_nonneg_right (by omega) (by omega)
        have a2 : (c * (2 * m') - c * m') * (2 * m) ≤ (c * (2 * m') - min (c * m') L') * (2 * m) := Int.mul_le_mul_of_nonneg_right (by omega) (by omega)
        have a3 : (c * (2 * m') - c * m') * (2 * m) = c * m * (2 * m') := by
          rw [show c * (2 * m') - c * m' = c * m' by rw [← Int.mul_assoc, Int.mul_comm c 2, Int.mul_assoc]; omega]
          ac_rfl
        omega
    · split
      · omega
      · obtain ⟨m, L, hm⟩ := equal_is h0 (show 0 ≤ 2 * (isum xs - E) by omega) (show 2 * (isum xs - E) ≤ isum xs by omega)
        obtain ⟨m', L', hm'⟩ := equal_is h0 (show 0 ≤ 2 * (isum xs - E') by omega) (show 2 * (isum xs - E') ≤ isum xs by omega)
        rw [hm.val, hm'.val]
        simp only []
        rw [lessOf_at _ _ _ _ hk, lessOf_at _ _ _ _ hk, ith_map _ _ _ hk, ith_map _ _ _ hk]
        have := equal_mono hm' hm (by omega) _ (ith_mem hk)
        generalize ith xs k = c at *
        have e : c * m * m' = c * m' * m := by rw [Int.mul_assoc, Int.mul_assoc, Int.mul_comm m m']
        have f1 : (c * (2 * m) - min (c * m) L) * (2 * m') = 4 * (c * m * m') - 2 * (min (c * m) L * m') := by
          generalize min (c * m) L = z
          grind
        have f2 : (c * (2 * m') - min (c * m') L') * (2 * m) = 4 * (c * m' * m) - 2 * (min (c * m') L' * m) := by
          generalize min (c * m') L' = z
          grind
        rw [f1, f2, e]
        omega
  · obtain ⟨_, h2⟩ := inTurn_gets E xs
    obtain ⟨_, h3⟩ := inTurn_gets E' xs
    rw [h2 k hk, h3 k hk, inTurn_ord, inTurn_ord]
    exact Int.mul_le_mul_of_nonneg_right (gets_mono xs _ _ _ _ _ hE) (by omega)
theorem lowP_at {E : Int} {xs : List Int} {p : List Int × Int} (h : Shares E xs p) : ∃ g : Int, 0 < g ∧ (lowP p).2 * g = p.2 ∧ ∀ k, k < xs.length → ith (lowP p).1 k * g = ith p.1 k := by
  have hd := h.den
  have hb := gcdL_bounds p.1 (show 0 < p.2 by omega)
  obtain ⟨e1, e2⟩ := gcdL_dvd p.2 p.1
  refine ⟨gcdL p.2 p.1, by omega, Int.ediv_mul_cancel e1, fun k hk => ?_⟩
  have hk2 : k < p.1.length := by rw [h.len]; exact hk
  unfold lowP
  simp only []
  rw [ith_map _ _ _ hk2]
  exact Int.ediv_mul_cancel (e2 _ (ith_mem hk2))
theorem low_noLess {E E' : Int} {xs : List Int} {p p' : List Int × Int} (h : Shares E xs p) (h' : Shares E' xs p') (hn : NoLess xs p p') : NoLess xs (lowP p) (lowP p') := by
  obtain ⟨g, hg, hd, hk⟩ := lowP_at h
  obtain ⟨g', hg', hd', hk'⟩ := lowP_at h'
  intro k hkk
  have := hn k hkk
  rw [← hk k hkk, ← hk' k hkk, ← hd, ← hd'] at this
  refine Int.le_of_mul_le_mul_right ?_ (Int.mul_pos hg hg')
  calc ith (lowP p).1 k * (lowP p').2 * (g * g') = ith (lowP p).1 k * g * ((lowP p').2 * g') := by ac_rfl
    _ ≤ _ := this
    _ = _ := by ac_rfl
theorem share_grows {rule E E' : Int} {xs : List Int} {q r : List Int × Int} (h : shareP rule E xs = some q) (h' : shareP rule E' xs = some r) (hE : E ≤ E') : NoLess xs q r := by
  unfold shareP at h h'
  split at h
  · rename_i hp
    split at h'
    · rename_i hp'
      have hP := (probB_true E xs).1 hp.1
      have hP' := (probB_true E' xs).1 hp'.1
      rw [Option.some.injEq] at h h'
      subst h h'
      exact low_noLess (rule_shares hP) (rule_shares hP') (rule_grows hP hP' hE)
    · simp at h'
  · simp at h
theorem divInt_le {a b c d : Int} (hb : 0 < b) (hd : 0 < d) (h : a * d ≤ c * b) : Rat.divInt a b ≤ Rat.divInt c d := by
  obtain ⟨x, hx⟩ : ∃ x, x = Rat.divInt a b := ⟨_, rfl⟩
  obtain ⟨y, hy⟩ : ∃ y, y = Rat.divInt c d := ⟨_, rfl⟩
  have hxd := x.den_pos
  have hyd := y.den_pos
  have e1 : x.num * b = a * x.den := (Rat.divInt_eq_divInt_iff (by omega) (by omega)).1 (by rw [Rat.num_divInt_den]; exact hx)
  have e2 : y.num * d = c * y.den := (Rat.divInt_eq_divInt_iff (by omega) (by omega)).1 (by rw [Rat.num_divInt_den]; exact hy)
  rw [← hx, ← hy, Rat.le_iff]
  refine Int.le_of_mul_le_mul_right ?_ (Int.mul_pos hb hd)
  calc x.num * (y.den : Int) * (b * d) = (x.num * b) * (y.den * d) := by ac_rfl
    _ = (a * d) * ((x.den : Int) * y.den) := by rw [e1]; ac_rfl
    _ ≤ (c * b) * ((x.den : Int) * y.den) := Int.mul_le_mul_of_nonneg_right h (Int.mul_nonneg (by omega) (by omega))
    _ = (y.num * d) * (x.den * b) := by rw [e2]; ac_rfl
    _ = y.num * (x.den : Int) * (b * d) := by ac_rfl
end Go.Proofs.Ytcngecibljgndaa

/- The specification's Gcd, Problem, Lowest, IsShares, Is. -/
namespace Go.Proofs.Ytcngecibljgndaa
open Go.RowKit Go.Shelf

theorem refGcd_calls (w : World) (a b : Int) (ha : -4611686018427387904 ≤ a ∧ a ≤ 4611686018427387904) (hb : -4611686018427387904 ≤ b ∧ b ≤ 4611686018427387904) :
    Calls Try.prog 85 #[.int .i64 a, .int .i64 b] w fun e w' => e = .returned (.int .i64 (Int.gcd a b)) ∧ Ext w w' := by
  go_enter Try.func85, Try.ntmps85
  go_wp2_with fail
  go_loopw [0, 1] (fun x y wr => ∃ p q : Int, x = .int .i64 p ∧ y = .int .i64 q ∧ Hid (Int.gcd p q = Int.gcd a b) ∧ (-4611686018427387904 ≤ p ∧ p ≤ 4611686018427387904) ∧ (-4611686018427387904 ≤ q ∧ q ≤ 4611686018427387904) ∧ Ext w wr) (fun _ y _ => (intOf y).natAbs)
  case atStart => exact ⟨a, b, rfl, rfl, Lib.hid rfl, ha, hb, Ext.refl _⟩
  case round =>
    obtain ⟨p, q, rfl, rfl, HG, hp, hq, hx⟩ := hrel
    by_cases h0 : q = 0
    · subst h0
      have hg := HG.out
      by_cases hn : p < 0
      · go_wp2_with fail
        go_ret
        refine ⟨ret_int ?_, hx⟩
        rw [← hg, Int.gcd_zero]
        omega
      · go_wp2_with fail
        go_ret
        refine ⟨ret_int ?_, hx⟩
        rw [← hg, Int.gcd_zero]
        omega
    · have hm := Int.tmod_lt_of_pos
      have h1 : (p.tmod q).natAbs < q.natAbs := by
        rw [Int.natAbs_tmod]; exact Nat.mod_lt _ (by omega)
      go_wp2_with fail
      go_region
      go_wp2_with fail
      refine ⟨⟨q, p.tmod q, rfl, rfl, Lib.hid ?_, hq, by omega, (by repeat (first | exact Ext.refl _ | assumption | refine Ext.alloc ?_ _ | refine Ext.drewN ?_ _ | refine Ext.drew ?_))⟩, by simp only [intOf]; omega⟩
      rw [← HG.out, Int.gcd, Int.gcd, Int.natAbs_tmod, Nat.gcd_comm, ← Nat.gcd_rec, Nat.gcd_comm]

theorem probB_est {E : Int} {xs : List Int} (h : ¬ (0 ≤ E ∧ E ≤ 100000)) : probB E xs = false := by
  cases hp : probB E xs with
  | false => rfl
  | true => exact absurd ((probB_true E xs).1 hp).estate h
theorem probB_len {E : Int} {xs : List Int} (h : ¬ (1 ≤ xs.length ∧ xs.length ≤ 7)) : probB E xs = false := by
  cases hp : probB E xs with
  | false => rfl
  | true => exact absurd ⟨((probB_true E xs).1 hp).one, ((probB_true E xs).1 hp).seven⟩ h
theorem probB_claim {E : Int} {xs : List Int} {k : Nat} (hk : k < xs.length) (h : ¬ (0 ≤ ith xs k ∧ ith xs k ≤ 100000)) : probB E xs = false := by
  cases hp : probB E xs with
  | false => rfl
  | true => exact absurd (((probB_true E xs).1 hp).claims.at_ k hk) h
theorem probB_sum {E : Int} {xs : List Int} (h1 : 0 ≤ E ∧ E ≤ 100000) (h2 : 1 ≤ xs.length ∧ xs.length ≤ 7) (h3 : ∀ k, k < xs.length → 0 ≤ ith xs k ∧ ith xs k ≤ 100000) : probB E xs = decide (E ≤ isum xs) := by
  have hu : Upto 100000 xs := fun x hx => by
    obtain ⟨j, hj, rfl⟩ := List.getElem_of_mem hx
    have := h3 j hj
    rw [show ith xs j = xs[j] by simp [ith, hj]] at this
    exact this
  by_cases h : E ≤ isum xs
  · rw [decide_eq_true h]; exact (probB_true E xs).2 ⟨h1, h2.1, h2.2, hu, h⟩
  · rw [decide_eq_false h]
    cases hp : probB E xs with
    | false => rfl
    | true => exact absurd ((probB_true E xs).1 hp).enough h
set_option maxRecDepth 100000 in
theorem refProblem_calls (w : World) (E : Int) (ao : Option Addr) (cap : Nat) (xs : List Int) (hI : IntsIn w ao xs) :
    Calls Try.prog 49 #[.int .i64 E, .slice ao xs.length cap] w fun e w' => e = .returned (.bool (probB E xs)) ∧ Ext w w' := by
  go_enter Try.func49, Try.ntmps49
  by_cases h1 : 0 ≤ E
  · by_cases h2 : E ≤ 100000
    · by_cases h3 : 1 ≤ xs.length
      · by_cases h4 : xs.length ≤ 7
        · go_wp2_with fail
          go_loopw [5, 6] (fun s i wr => ∃ k : Nat, k ≤ xs.length ∧ i = .int .i64 k ∧ s = .int .i64 (isum (xs.take k)) ∧ (0 ≤ isum (xs.take k) ∧ isum (xs.take k) ≤ 100000 * k) ∧ Hid (∀ j, j < k → 0 ≤ ith xs j ∧ ith xs j ≤ 100000) ∧ Ext w wr) (fun _ i _ => xs.length - (intOf i).toNat)
          case atStart => exact ⟨0, by omega, rfl, rfl, by simp [isum_nil], Lib.hid (fun j hj => by omega), Ext.refl _⟩
          case round =>
            obtain ⟨k, hk, rfl, rfl, hb, HX, hx⟩ := hrel
            by_cases hlt : k < xs.length
            · obtain ⟨b, off, rfl, hb2, hc⟩ := hI.ext hx k hlt
              have hst := isum_take xs k hlt
              by_cases h5 : 0 ≤ ith xs k
              · by_cases h6 : ith xs k ≤ 100000
                · have HST := Lib.hid hst
                  clear hst
                  go_wp2_with fail
                  refine ⟨⟨k + 1, by omega, rfl, by rw [HST.out], by rw [HST.out]; omega, Lib.hid (fun j hj => ?_), hx⟩, by simp only [intOf]; omega⟩
                  rcases Nat.lt_or_ge j k with h | h
                  · exact HX.out j h
                  · rw [show j = k by omega]; exact ⟨h5, h6⟩
                · have HN := Lib.hid (probB_claim (E := E) hlt (by omega))
                  go_wp2_with fail
                  go_ret
                  exact ⟨ret_bool HN.out.symm, (by repeat (first | exact Ext.refl _ | assumption | refine Ext.alloc ?_ _ | refine Ext.drewN ?_ _ | refine Ext.drew ?_))⟩
              · have HN := Lib.hid (probB_claim (E := E) hlt (by omega))
                go_wp2_with fail
                go_ret
                exact ⟨ret_bool HN.out.symm, (by repeat (first | exact Ext.refl _ | assumption | refine Ext.alloc ?_ _ | refine Ext.drewN ?_ _ | refine Ext.drew ?_))⟩
            · obtain rfl : k = xs.length := by omega
              rw [List.take_length] at hb ⊢
              have HP := Lib.hid (probB_sum (E := E) (xs := xs) (by omega) (by omega) HX.out)
              go_wp2_with fail
              go_ret
              refine ⟨ret_bool ?_, hx⟩
              rw [HP.out]
        · have HN := Lib.hid (probB_len (E := E) (xs := xs) (by omega))
          go_wp2_with fail
          go_ret
          exact ⟨ret_bool HN.out.symm, (by repeat (first | exact Ext.refl _ | assumption | refine Ext.alloc ?_ _ | refine Ext.drewN ?_ _ | refine Ext.drew ?_))⟩
      · have HN := Lib.hid (probB_len (E := E) (xs := xs) (by omega))
        go_wp2_with fail
        go_ret
        exact ⟨ret_bool HN.out.symm, (by repeat (first | exact Ext.refl _ | assumption | refine Ext.alloc ?_ _ | refine Ext.drewN ?_ _ | refine Ext.drew ?_))⟩
    · have HN := Lib.hid (probB_est (E := E) (xs := xs) (by omega))
      go_wp2_with fail
      go_ret
      exact ⟨ret_bool HN.out.symm, (by repeat (first | exact Ext.refl _ | assumption | refine Ext.alloc ?_ _ | refine Ext.drewN ?_ _ | refine Ext.drew ?_))⟩
  · have HN := Lib.hid (probB_est (E := E) (xs := xs) (by omega))
    go_wp2_with fail
    go_ret
    exact ⟨ret_bool HN.out.symm, (by repeat (first | exact Ext.refl _ | assumption | refine Ext.alloc ?_ _ | refine Ext.drewN ?_ _ | refine Ext.drew ?_))⟩
end Go.Proofs.Ytcngecibljgndaa
