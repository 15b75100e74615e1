/- The rules keep the order of claims and of losses, plain. -/
import Derived.Test.YtcngecibljgndaaMQPB
namespace Go.Proofs.Ytcngecibljgndaa
open Go.RowKit Go.Shelf

theorem sumW_same {A B : List Bool} (t : Nat → Int) : ∀ k, (∀ j, j < k → bth A j = bth B j) → sumW A k t = sumW B k t
  | 0, _ => by simp [sumW_zero]
  | k + 1, h => by rw [sumW_succ, sumW_succ, sumW_same t k (fun j hj => h j (by omega)), h k (by omega)]
theorem sumW_out {came : List Bool} {n i : Nat} (hl : came.length = n) (hi : i < n) (hc : bth came i = false) (t : Nat → Int) : sumW came n t = sumW (came.set i true) n t + t i := by
  have := sumW_set came t i (by omega) hc n
  rw [if_pos hi] at this; exact this.symm
theorem sumW_addc (came : List Bool) (t : Nat → Int) (c : Int) (n : Nat) : sumW came n (fun k => t k + c) = sumW came n t + wait came n * c := by
  rw [sumW_add, sumW_const]
theorem gets_mono (xs : List Int) : ∀ (f : Nat) (left left' : Int) (came : List Bool) (i : Nat), left ≤ left' → gets xs f left came i ≤ gets xs f left' came i
  | 0, _, _, _, _, _ => by simp [gets]
  | f + 1, left, left', came, i, h => by
    rw [gets, gets]
    have hf := fact_pos f
    refine sumW_le _ _ _ _ (fun k hk hc => ?_)
    split
    · exact Int.mul_le_mul_of_nonneg_right (by omega) (by omega)
    · exact gets_mono xs f _ _ _ _ (by omega)
/-- The one with the greater claim in the place of the other one. -/
theorem gets_swap (xs : List Int) (h0 : ∀ i, i < xs.length → 0 ≤ ith xs i) (i j : Nat) (hi : i < xs.length) (hj : j < xs.length) (hij : i ≠ j) (hx : ith xs i ≤ ith xs j) :
    ∀ (f : Nat) (left left' : Int) (A B : List Bool), A.length = xs.length → B.length = xs.length → wait A xs.length = f → bth A i = false → bth B j = false → bth A j = true → bth B i = true → (∀ k, k ≠ i → k ≠ j → bth A k = bth B k) →
      left ≤ left' → left' - left ≤ ith xs j - ith xs i → gets xs f left A i ≤ gets xs f left' B j ∧ gets xs f left' B j - gets xs f left A i ≤ (ith xs j - ith xs i) * fact f
  | 0, _, _, A, _, _, _, hw, hA, _, _, _, _, _, _ => by
    rw [wait_none hw i hi] at hA; simp at hA
  | f + 1, left, left', A, B, hlA, hlB, hw, hA, hB, hA2, hB2, hsame, hll, hld => by
    have hf := fact_pos f
    obtain ⟨b, hb⟩ : ∃ b, b = ith xs j - ith xs i := ⟨_, rfl⟩
    have hb0 : 0 ≤ b * fact f := Int.mul_nonneg (by omega) (by omega)
    have hwC := wait_set' hlA hw hi hA
    rw [gets, gets, sumW_out hlA hi hA, sumW_out hlB hj hB]
    have hbs : ∀ k, k < xs.length → bth (B.set j true) k = bth (A.set i true) k := fun k hk => by
      rw [bth_set _ _ _ _ (by omega), bth_set _ _ _ _ (by omega)]
      by_cases e1 : k = i
      · subst e1
        rw [if_neg hij, if_pos rfl]; exact hB2
      · by_cases e2 : k = j
        · subst e2
          rw [if_pos rfl, if_neg e1]; exact hA2.symm
        · rw [if_neg e2, if_neg e1]; exact (hsame k e1 e2).symm
    rw [sumW_same _ _ hbs]
    have hterm : ∀ k, k < xs.length → bth (A.set i true) k = false →
        (if k = i then min (ith xs k) left * fact f else gets xs f (left - min (ith xs k) left) (A.set k true) i) ≤ (if k = j then min (ith xs k) left' * fact f else gets xs f (left' - min (ith xs k) left') (B.set k true) j) ∧
        (if k = j then min (ith xs k) left' * fact f else gets xs f (left' - min (ith xs k) left') (B.set k true) j) ≤ (if k = i then min (ith xs k) left * fact f else gets xs f (left - min (ith xs k) left) (A.set k true) i) + b * fact f := by
      intro k hk hck
      rw [bth_set _ _ _ _ (by omega)] at hck
      have e1 : ¬ k = i := fun e => by rw [if_pos e] at hck; simp at hck
      rw [if_neg e1] at hck
      have e2 : ¬ k = j := fun e => by rw [e, hA2] at hck; simp at hck
      rw [if_neg e1, if_neg e2]
      have hckB : bth B k = false := by rw [← hsame k e1 e2]; exact hck
      have h1 := gets_swap xs h0 i j hi hj hij hx f (left - min (ith xs k) left) (left' - min (ith xs k) left') (A.set k true) (B.set k true) (by simpa using hlA) (by simpa using hlB) (wait_set' hlA hw hk hck)
        (by rw [bth_set _ _ _ _ (by omega), if_neg (fun e => e1 e.symm)]; exact hA) (by rw [bth_set _ _ _ _ (by omega), if_neg (fun e => e2 e.symm)]; exact hB)
        (by rw [bth_set _ _ _ _ (by omega), if_neg (fun e => e2 e.symm)]; exact hA2) (by rw [bth_set _ _ _ _ (by omega), if_neg (fun e => e1 e.symm)]; exact hB2)
        (fun q h2 h3 => by rw [bth_set _ _ _ _ (by omega), bth_set _ _ _ _ (by omega), hsame q h2 h3]) (by omega) (by omega)
      rw [← hb] at h1
      omega
    have l1 := sumW_le (A.set i true) _ _ xs.length (fun k hk hc => (hterm k hk hc).1)
    have l2 := sumW_le (A.set i true) _ _ xs.length (fun k hk hc => (hterm k hk hc).2)
    rw [sumW_addc, hwC] at l2
    rw [if_pos rfl, if_pos rfl]
    have m1 : min (ith xs i) left * fact f ≤ min (ith xs j) left' * fact f := Int.mul_le_mul_of_nonneg_right (by omega) (by omega)
    have m2 : min (ith xs j) left' * fact f ≤ (min (ith xs i) left + b) * fact f := Int.mul_le_mul_of_nonneg_right (by omega) (by omega)
    rw [Int.add_mul] at m2
    refine ⟨by omega, ?_⟩
    have e : b * (fact (f + 1) : Int) = b * fact f + f * (b * fact f) := by
      rw [fact, Int.natCast_mul, ← Int.mul_assoc, Int.mul_comm b ((f + 1 : Nat) : Int), Int.mul_assoc, Int.natCast_add, Int.add_mul]; simp; omega
    rw [← hb, e]
    omega
theorem gets_order (xs : List Int) (h0 : ∀ i, i < xs.length → 0 ≤ ith xs i) (i j : Nat) (hi : i < xs.length) (hj : j < xs.length) (hij : i ≠ j) (hx : ith xs i ≤ ith xs j) :
    ∀ (f : Nat) (left : Int) (came : List Bool), came.length = xs.length → wait came xs.length = f → bth came i = false → bth came j = false →
      gets xs f left came i ≤ gets xs f left came j ∧ gets xs f left came j - gets xs f left came i ≤ (ith xs j - ith xs i) * fact f
  | 0, left, came, hl, hw, hci, _ => by
    rw [wait_none hw i hi] at hci; simp at hci
  | f + 1, left, came, hl, hw, hci, hcj => by
    have hf := fact_pos f
    obtain ⟨b, hb⟩ : ∃ b, b = ith xs j - ith xs i := ⟨_, rfl⟩
    have hb0 : 0 ≤ b * fact f := Int.mul_nonneg (by omega) (by omega)
    have hcj2 : bth (came.set i true) j = false := by rw [bth_set _ _ _ _ (by omega), if_neg (fun e => hij e.symm)]; exact hcj
    have hwi := wait_set' hl hw hi hci
    have hli : (came.set i true).length = xs.length := by simpa using hl
    have hf1 : 1 ≤ f := by
      rcases Nat.eq_zero_or_pos f with e | e
      · rw [e] at hwi
        rw [wait_none hwi j hj] at hcj2; simp at hcj2
      · exact e
    have hwij := wait_set' hli (show wait (came.set i true) xs.length = (f - 1) + 1 by omega) hj hcj2
    rw [gets, gets, sumW_out hl hi hci, sumW_out hl hi hci, sumW_out hli hj hcj2, sumW_out hli hj hcj2]
    have hterm : ∀ k, k < xs.length → bth ((came.set i true).set j true) k = false →
        (if k = i then min (ith xs k) left * fact f else gets xs f (left - min (ith xs k) left) (came.set k true) i) ≤ (if k = j then min (ith xs k) left * fact f else gets xs f (left - min (ith xs k) left) (came.set k true) j) ∧
        (if k = j then min (ith xs k) left * fact f else gets xs f (left - min (ith xs k) left) (came.set k true) j) ≤ (if k = i then min (ith xs k) left * fact f else gets xs f (left - min (ith xs k) left) (came.set k true) i) + b * fact f := by
      intro k hk hck
      rw [bth_set _ _ _ _ (by omega)] at hck
      have e2 : ¬ k = j := fun e => by rw [if_pos e] at hck; simp at hck
      rw [if_neg e2, bth_set _ _ _ _ (by omega)] at hck
      have e1 : ¬ k = i := fun e => by rw [if_pos e] at hck; simp at hck
      rw [if_neg e1] at hck
      rw [if_neg e1, if_neg e2]
      have h1 := gets_order xs h0 i j hi hj hij hx f (left - min (ith xs k) left) (came.set k true) (by simpa using hl) (wait_set' hl hw hk hck)
        (by rw [bth_set _ _ _ _ (by omega), if_neg (fun e => e1 e.symm)]; exact hci) (by rw [bth_set _ _ _ _ (by omega), if_neg (fun e => e2 e.symm)]; exact hcj)
      rw [← hb] at h1
      omega
    have l1 := sumW_le ((came.set i true).set j true) _ _ xs.length (fun k hk hc => (hterm k hk hc).1)
    have l2 := sumW_le ((came.set i true).set j true) _ _ xs.length (fun k hk hc => (hterm k hk hc).2)
    rw [sumW_addc, hwij] at l2
    rw [if_pos rfl, if_pos rfl, if_neg (fun e => hij e.symm), if_neg hij]
    have hsw := gets_swap xs h0 i j hi hj hij hx f (left - min (ith xs j) left) (left - min (ith xs i) left) (came.set j true) (came.set i true) (by simpa using hl) hli (wait_set' hl hw hj hcj)
      (by rw [bth_set _ _ _ _ (by omega), if_neg hij]; exact hci) hcj2 (by rw [bth_set _ _ _ _ (by omega), if_pos rfl]) (by rw [bth_set _ _ _ _ (by omega), if_pos rfl])
      (fun q h2 h3 => by rw [bth_set _ _ _ _ (by omega), bth_set _ _ _ _ (by omega), if_neg h3, if_neg h2]) (by omega) (by omega)
    rw [← hb] at hsw
    have m1 : min (ith xs i) left * fact f ≤ min (ith xs j) left * fact f := Int.mul_le_mul_of_nonneg_right (by omega) (by omega)
    have m2 : min (ith xs j) left * fact f ≤ (min (ith xs i) left + b) * fact f := Int.mul_le_mul_of_nonneg_right (by omega) (by omega)
    rw [Int.add_mul] at m2
    refine ⟨by omega, ?_⟩
    have e : b * (fact (f + 1) : Int) = 2 * (b * fact f) + ((f - 1 : Nat) : Int) * (b * fact f) := by
      obtain ⟨q, rfl⟩ : ∃ q, f = q + 1 := ⟨f - 1, by omega⟩
      rw [fact, Int.natCast_mul, ← Int.mul_assoc, Int.mul_comm b ((q + 1 + 1 : Nat) : Int), Int.mul_assoc]
      generalize b * (fact (q + 1) : Int) = z
      simp only [Nat.add_sub_cancel]
      rw [show ((q + 1 + 1 : Nat) : Int) = 2 + (q : Int) by omega, Int.add_mul]
    rw [← hb, e]
    omega
/-- The order of claims is kept, and that of losses. -/
def Orderly (xs : List Int) (p : List Int × Int) : Prop := ∀ i j, i < xs.length → j < xs.length → ith xs i ≤ ith xs j → ith p.1 i ≤ ith p.1 j ∧ ith xs i * p.2 - ith p.1 i ≤ ith xs j * p.2 - ith p.1 j
theorem rule_orderly {rule E : Int} {xs : List Int} (h : IsProb E xs) : Orderly xs (ruleP rule E xs) := by
  have hE := h.estate
  have hs := h.enough
  have h0 : ∀ x ∈ xs, 0 ≤ x := fun x hx => (h.claims x hx).1
  intro i j hi hj hx
  unfold ruleP
  split
  · obtain ⟨m, L, hm⟩ := equal_is h0 hE.1 hs
    have hden := hm.den
    rw [hm.val]
    simp only []
    rw [ith_map _ _ _ hi, ith_map _ _ _ hj]
    have h1 : ith xs i * m ≤ ith xs j * m := Int.mul_le_mul_of_nonneg_right hx (by omega)
    omega
  split
  · obtain ⟨m, L, hm⟩ := equal_is h0 (show 0 ≤ isum xs - E by omega) (show isum xs - E ≤ isum xs by omega)
    have hden := hm.den
    rw [hm.val]
    simp only []
    rw [lessOf_at _ _ _ _ hi, lessOf_at _ _ _ _ hj, ith_map _ _ _ hi, ith_map _ _ _ hj]
    have h1 : ith xs i * m ≤ ith xs j * m := Int.mul_le_mul_of_nonneg_right hx (by omega)
    omega
  split
  · simp only []
    rw [ith_map _ _ _ hi, ith_map _ _ _ hj]
    have h1 : ith xs i * E ≤ ith xs j * E := Int.mul_le_mul_of_nonneg_right hx (by omega)
    have h2 : ith xs i * (max (isum xs) 1 - E) ≤ ith xs j * (max (isum xs) 1 - E) := Int.mul_le_mul_of_nonneg_right hx (by omega)
    rw [Int.mul_sub, Int.mul_sub] at h2
    exact ⟨h1, h2⟩
  split
  · unfold talmudP
    split
    · obtain ⟨m, L, hm⟩ := equal_is h0 (show 0 ≤ 2 * E by omega) (show 2 * E ≤ isum xs by omega)
      have hden := hm.den
      rw [hm.val]
      simp only []
      rw [ith_map _ _ _ hi, ith_map _ _ _ hj]
      have h1 : ith xs i * m ≤ ith xs j * m := Int.mul_le_mul_of_nonneg_right hx (by omega)
      have e : ∀ x : Int, x * (2 * m) = 2 * (x * m) := fun x => by rw [← Int.mul_assoc, Int.mul_comm x 2, Int.mul_assoc]
      rw [e, e]
      omega
    · obtain ⟨m, L, hm⟩ := equal_is h0 (show 0 ≤ 2 * (isum xs - E) by omega) (show 2 * (isum xs - E) ≤ isum xs by omega)
      have hden := hm.den
      rw [hm.val]
      simp only []
      rw [lessOf_at _ _ _ _ hi, lessOf_at _ _ _ _ hj, ith_map _ _ _ hi, ith_map _ _ _ hj]
      have h1 : ith xs i * m ≤ ith xs j * m := Int.mul_le_mul_of_nonneg_right hx (by omega)
      have e : ∀ x : Int, x * (2 * m) = 2 * (x * m) := fun x => by rw [← Int.mul_assoc, Int.mul_comm x 2, Int.mul_assoc]
      rw [e, e]
      omega
  · obtain ⟨h1, h2⟩ := inTurn_gets E xs
    rw [h2 i hi, h2 j hj, inTurn_ord]
    by_cases e : i = j
    · subst e; omega
    · have := gets_order xs (fun i hi => (h.claims.at_ i hi).1) i j hi hj e hx xs.length E (List.replicate xs.length false) (by simp) (wait_all _) (bth_none _ _) (bth_none _ _)
      rw [Int.sub_mul] at this
      omega
theorem low_orderly {E : Int} {xs : List Int} {p : List Int × Int} (h : Shares E xs p) (ho : Orderly xs p) : Orderly xs (lowP p) := by
  have hd := h.den
  have hb := gcdL_bounds p.1 (show 0 < p.2 by omega)
  obtain ⟨e1, e2⟩ := gcdL_dvd p.2 p.1
  unfold lowP
  generalize gcdL p.2 p.1 = g at *
  have hg0 : (0 : Int) < g := by omega
  have hden : p.2 / (g : Int) * g = p.2 := Int.ediv_mul_cancel e1
  have hdv : ∀ k, k < xs.length → ith p.1 k / (g : Int) * g = ith p.1 k := fun k hk => by
    have hk2 : k < p.1.length := by rw [h.len]; exact hk
    exact Int.ediv_mul_cancel (e2 _ (by rw [show ith p.1 k = p.1[k] by simp [ith, hk2]]; exact List.getElem_mem _))
  intro i j hi hj hx
  obtain ⟨h1, h2⟩ := ho i j hi hj hx
  simp only []
  rw [ith_map _ _ _ (by rw [h.len]; exact hi), ith_map _ _ _ (by rw [h.len]; exact hj)]
  refine ⟨Int.ediv_le_ediv hg0 h1, Int.le_of_mul_le_mul_right ?_ hg0⟩
  rw [Int.sub_mul, Int.sub_mul, Int.mul_assoc, Int.mul_assoc, hden, hdv i hi, hdv j hj]
  exact h2
theorem share_orderly {rule E : Int} {xs : List Int} {q : List Int × Int} (h : shareP rule E xs = some q) : Orderly xs q := by
  unfold shareP at h
  split at h
  · rename_i hp
    have hP := (probB_true E xs).1 hp.1
    rw [Option.some.injEq] at h
    subst h
    exact low_orderly (rule_shares hP) (rule_orderly hP)
  · simp at h
end Go.Proofs.Ytcngecibljgndaa
