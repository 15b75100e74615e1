/- If a claimant leaves with a whole share, the others get by the same rule, of what is left, what they had: plain. -/
import Derived.Test.YtcngecibljgndaaQPG
namespace Go.Proofs.Ytcngecibljgndaa
open Go.RowKit Go.Shelf

/-- All but one. -/
def restL (xs : List Int) (w : Nat) : List Int := xs.take w ++ xs.drop (w + 1)
theorem restL_length {xs : List Int} {w : Nat} (h : w < xs.length) : (restL xs w).length = xs.length - 1 := by simp [restL]; omega
theorem restL_at {xs : List Int} {w : Nat} (h : w < xs.length) (i : Nat) : ith (restL xs w) i = ith xs (if w ≤ i then i + 1 else i) := by
  unfold restL ith
  simp only [List.getD_eq_getElem?_getD, List.getElem?_append, List.length_take, List.getElem?_take, List.getElem?_drop]
  split
  · rw [if_pos (by omega), if_neg (by omega)]
  · rw [if_pos (by omega), Nat.min_eq_left (by omega), show w + 1 + (i - w) = i + 1 by omega]
theorem isum_rest {xs : List Int} {w : Nat} (h : w < xs.length) (f : Int → Int) : isum ((restL xs w).map f) + f (ith xs w) = isum (xs.map f) := by
  have e : xs = xs.take w ++ ith xs w :: xs.drop (w + 1) := by rw [← drop_cons' xs w h, List.take_append_drop]
  conv => rhs; rw [e]
  unfold restL
  rw [List.map_append, List.map_append, isum_append, isum_append, List.map_cons, isum_cons]
  omega
theorem isum_rest' {xs : List Int} {w : Nat} (h : w < xs.length) : isum (restL xs w) + ith xs w = isum xs := by simpa using isum_rest h id
theorem mem_rest {xs : List Int} {w : Nat} {x : Int} (h : x ∈ restL xs w) : x ∈ xs := by
  rcases List.mem_append.1 h with h | h
  · exact List.mem_of_mem_take h
  · exact List.mem_of_mem_drop h
theorem min_same {F m L m' L' : Int} {xs : List Int} (hm : 1 ≤ m) (hm' : 1 ≤ m') (h : isum (xs.map fun c => min (c * m) L) = F * m) (h' : isum (xs.map fun c => min (c * m') L') = F * m') : ∀ c ∈ xs, min (c * m) L * m' = min (c * m') L' * m := by
  have e : ∀ c : Int, c * m * m' = c * m' * m := fun c => by rw [Int.mul_assoc, Int.mul_assoc, Int.mul_comm m m']
  have s1 : isum (xs.map fun c => min (c * m) L * m') = isum (xs.map fun c => min (c * m') L' * m) := by
    rw [isum_map_mul (fun c => min (c * m) L) m', isum_map_mul (fun c => min (c * m') L') m, h, h', Int.mul_right_comm]
  intro c hc
  rcases Int.le_total (L * m') (L' * m) with hL | hL
  · have p1 : ∀ c ∈ xs, min (c * m) L * m' ≤ min (c * m') L' * m := fun c _ => by rw [min_mul (by omega), min_mul (by omega), e]; omega
    have := isum_eq_terms (fun c => min (c * m) L * m') (fun c => min (c * m') L' * m) xs p1 (by omega) c hc
    have := p1 c hc
    omega
  · have p1 : ∀ c ∈ xs, min (c * m') L' * m ≤ min (c * m) L * m' := fun c _ => by rw [min_mul (by omega), min_mul (by omega), e]; omega
    have := isum_eq_terms (fun c => min (c * m') L' * m) (fun c => min (c * m) L * m') xs p1 (by omega) c hc
    have := p1 c hc
    omega
/-- Those who stay have what they had. -/
def Stay (xs : List Int) (w : Nat) (p p' : List Int × Int) : Prop := ∀ i, i < (restL xs w).length → ith p'.1 i * p.2 = ith p.1 (if w ≤ i then i + 1 else i) * p'.2
theorem at_lt {xs : List Int} {w i : Nat} (h : w < xs.length) (hi : i < (restL xs w).length) : (if w ≤ i then i + 1 else i) < xs.length := by
  rw [restL_length h] at hi
  split <;> omega
theorem sum_at {E : Int} {xs : List Int} {p : List Int × Int} (h : Shares E xs p) {w : Nat} (hw : w < xs.length) : isum (restL p.1 w) + ith p.1 w = E * p.2 := by
  rw [← h.sum]; exact isum_rest' (by rw [h.len]; exact hw)
theorem isum_take_range' (l : List Int) (d : Int) : isum ((List.range l.length).map fun i => ith l i * d) = isum l * d := by
  rw [isum_range_mul, ← isum_eq_range]
theorem stay_prob {E s : Int} {xs : List Int} (h : IsProb E xs) {p : List Int × Int} (hs : Shares E xs p) {w : Nat} (hw : w < xs.length) (h2 : 2 ≤ xs.length) (hw1 : ith p.1 w = s * p.2) : IsProb (E - s) (restL xs w) := by
  have hd := hs.den
  have hn := hs.num w hw
  rw [hw1] at hn
  have s0 : 0 ≤ s := by
    rcases Int.lt_or_le s 0 with h1 | h1
    · have := Int.mul_lt_mul_of_pos_right h1 (show 0 < p.2 by omega); omega
    · exact h1
  have hsum := sum_at hs hw
  have hr0 : ∀ x ∈ restL p.1 w, 0 ≤ x := fun x hx => by
    obtain ⟨k, hk, rfl⟩ := List.getElem_of_mem (mem_rest hx)
    have := (hs.num k (by rw [← hs.len]; exact hk)).1
    rwa [show ith p.1 k = p.1[k] by simp [ith, hk]] at this
  have hr1 : 0 ≤ isum (restL p.1 w) := by
    have : ∀ l : List Int, (∀ x ∈ l, 0 ≤ x) → 0 ≤ isum l := by
      intro l
      induction l with
      | nil => intro _; simp [isum_nil]
      | cons y l ih => intro h; have := ih (fun x hx => h x (by simp [hx])); have := h y (by simp); rw [isum_cons]; omega
    exact this _ hr0
  have he := h.estate
  have hsE : s ≤ E := by
    refine Int.le_of_mul_le_mul_right (a := p.2) ?_ (by omega)
    omega
  have hlw : w < p.1.length := by rw [hs.len]; exact hw
  refine ⟨by omega, by rw [restL_length hw]; omega, by rw [restL_length hw]; have := h.seven; omega, fun x hx => h.claims x (mem_rest hx), ?_⟩
  have hle : isum (restL p.1 w) ≤ isum (restL xs w) * p.2 := by
    have e1 := isum_eq_range (restL p.1 w)
    have e2 := isum_take_range' (restL xs w) p.2
    rw [e1, ← e2, restL_length hlw, hs.len, ← restL_length hw]
    refine isum_range_le _ _ _ (fun i hi => ?_)
    rw [restL_at hlw, restL_at hw]
    exact (hs.num _ (at_lt hw hi)).2
  refine Int.le_of_mul_le_mul_right (a := p.2) ?_ (show 0 < p.2 by omega)
  rw [Int.sub_mul]
  omega
theorem rule_stays {rule E s : Int} {xs : List Int} (h : IsProb E xs) (hr : rule ≠ 4) (h04 : 0 ≤ rule ∧ rule ≤ 4) {w : Nat} (hw : w < xs.length) (h2 : 2 ≤ xs.length) (hs : ith (ruleP rule E xs).1 w = s * (ruleP rule E xs).2) : Stay xs w (ruleP rule E xs) (ruleP rule (E - s) (restL xs w)) := by
  have hP := stay_prob h (rule_shares (rule := rule) h) hw h2 hs
  have h0 : ∀ x ∈ xs, 0 ≤ x := fun x hx => (h.claims x hx).1
  have h0' : ∀ x ∈ restL xs w, 0 ≤ x := fun x hx => h0 x (mem_rest hx)
  have e1 := h.estate
  have e2 := h.enough
  have e3 := hP.estate
  have e4 := hP.enough
  have hC := isum_rest' hw
  have hcw := h0 _ (ith_mem hw)
  by_cases r0 : rule = 0
  · subst r0
    simp only [ruleP, if_pos] at hs ⊢
    obtain ⟨m, L, hm⟩ := equal_is h0 e1.1 e2
    obtain ⟨m', L', hm'⟩ := equal_is h0' e3.1 e4
    rw [hm.val] at hs ⊢
    rw [hm'.val]
    simp only [] at hs ⊢
    rw [ith_map _ _ _ hw] at hs
    have hsum := isum_rest hw (fun c => min (c * m) L)
    rw [hm.sum] at hsum
    have key := min_same hm.den hm'.den (show isum ((restL xs w).map fun c => min (c * m) L) = (E - s) * m by rw [Int.sub_mul]; omega) hm'.sum
    intro i hi
    simp only []
    rw [ith_map _ _ _ hi, ith_map _ _ _ (at_lt hw hi), ← restL_at hw]
    exact (key _ (ith_mem hi)).symm
  by_cases r1 : rule = 1
  · subst r1
    simp only [ruleP, if_pos, if_neg (show ¬ (1 : Int) = 0 by omega)] at hs ⊢
    obtain ⟨m, L, hm⟩ := equal_is h0 (show 0 ≤ isum xs - E by omega) (show isum xs - E ≤ isum xs by omega)
    obtain ⟨m', L', hm'⟩ := equal_is h0' (show 0 ≤ isum (restL xs w) - (E - s) by omega) (show isum (restL xs w) - (E - s) ≤ isum (restL xs w) by omega)
    rw [hm.val] at hs ⊢
    rw [hm'.val]
    simp only [] at hs ⊢
    rw [lessOf_at _ _ _ _ hw, ith_map _ _ _ hw] at hs
    have hsum := isum_rest hw (fun c => min (c * m) L)
    rw [hm.sum] at hsum
    have key := min_same hm.den hm'.den (show isum ((restL xs w).map fun c => min (c * m) L) = (isum (restL xs w) - (E - s)) * m by
      have e : isum (restL xs w) - (E - s) = isum xs - E - ith xs w + s := by omega
      rw [e, Int.add_mul, Int.sub_mul (isum xs - E)]; omega) hm'.sum
    intro i hi
    simp only []
    rw [lessOf_at _ _ _ _ hi, lessOf_at _ _ _ _ (at_lt hw hi), ith_map _ _ _ hi, ith_map _ _ _ (at_lt hw hi), ← restL_at hw, Int.sub_mul, Int.sub_mul]
    have := key _ (ith_mem hi)
    have e : ith (restL xs w) i * m' * m = ith (restL xs w) i * m * m' := Int.mul_right_comm _ _ _
    omega
  by_cases r2 : rule = 2
  · subst r2
    simp only [ruleP, if_pos, if_neg (show ¬ (2 : Int) = 0 by omega), if_neg (show ¬ (2 : Int) = 1 by omega)] at hs ⊢
    rw [ith_map _ _ _ hw] at hs
    intro i hi
    simp only []
    rw [ith_map _ _ _ hi, ith_map _ _ _ (at_lt hw hi), ← restL_at hw]
    have hc0 := h0' _ (ith_mem hi)
    have hc1 := le_isum h0' _ (ith_mem hi)
    by_cases hz : isum (restL xs w) = 0
    · have : ith (restL xs w) i = 0 := by omega
      rw [this]; simp
    · rw [Int.max_eq_left (show 1 ≤ isum (restL xs w) by omega), Int.max_eq_left (show 1 ≤ isum xs by omega)]
      rw [Int.max_eq_left (show 1 ≤ isum xs by omega)] at hs
      have e : (E - s) * isum xs = E * isum (restL xs w) := by
        have h3 : E * isum (restL xs w) + E * ith xs w = E * isum xs := by rw [← Int.mul_add, hC]
        rw [Int.sub_mul, ← hs, Int.mul_comm (ith xs w)]; omega
      rw [Int.mul_assoc, Int.mul_assoc, e]
  obtain rfl : rule = 3 := by omega
  have e5 : ∀ (E : Int) (xs : List Int), ruleP 3 E xs = talmudP E xs := fun E xs => by simp [ruleP]
  rw [e5] at hs
  rw [e5, e5]
  have hmul : ∀ c m : Int, c * (2 * m) = 2 * (c * m) := fun c m => by rw [Int.mul_left_comm]
  have hle : ∀ (m L : Int), isum ((restL xs w).map fun c => min (c * m) L) ≤ isum (restL xs w) * m := fun m L => by
    have h3 := isum_map_mul (fun c => c) m (restL xs w)
    simp only [List.map_id'] at h3
    rw [← h3]
    have : ∀ l : List Int, isum (l.map fun c => min (c * m) L) ≤ isum (l.map fun c => c * m) := by
      intro l
      induction l with
      | nil => simp
      | cons y l ih => simp only [List.map_cons, isum_cons]; omega
    exact this _
  by_cases hE : 2 * E ≤ isum xs
  · obtain ⟨m, L, hm⟩ := equal_is h0 (show 0 ≤ 2 * E by omega) (show 2 * E ≤ isum xs by omega)
    have et : talmudP E xs = (xs.map fun c => min (c * m) L, 2 * m) := by unfold talmudP; rw [if_pos hE, hm.val]
    rw [et] at hs ⊢
    simp only [] at hs
    rw [ith_map _ _ _ hw, hmul] at hs
    have hsum := isum_rest hw (fun c => min (c * m) L)
    rw [hm.sum] at hsum
    have hF : isum ((restL xs w).map fun c => min (c * m) L) = 2 * (E - s) * m := by
      have e : 2 * (E - s) * m = 2 * E * m - 2 * (s * m) := by rw [Int.mul_sub, Int.sub_mul, Int.mul_assoc 2 s]
      omega
    have hE' : 2 * (E - s) ≤ isum (restL xs w) := Int.le_of_mul_le_mul_right (by have := hle m L; omega) (show 0 < m by have := hm.den; omega)
    obtain ⟨m', L', hm'⟩ := equal_is h0' (show 0 ≤ 2 * (E - s) by omega) hE'
    have et' : talmudP (E - s) (restL xs w) = ((restL xs w).map fun c => min (c * m') L', 2 * m') := by unfold talmudP; rw [if_pos hE', hm'.val]
    rw [et']
    have key := min_same hm.den hm'.den hF hm'.sum
    intro i hi
    simp only []
    rw [ith_map _ _ _ hi, ith_map _ _ _ (at_lt hw hi), ← restL_at hw, hmul, hmul]
    have := key _ (ith_mem hi)
    omega
  · obtain ⟨m, L, hm⟩ := equal_is h0 (show 0 ≤ 2 * (isum xs - E) by omega) (show 2 * (isum xs - E) ≤ isum xs by omega)
    have et : talmudP E xs = (lessOf xs (2 * m) (xs.map fun c => min (c * m) L), 2 * m) := by unfold talmudP; rw [if_neg hE, hm.val]
    rw [et] at hs ⊢
    simp only [] at hs
    rw [lessOf_at _ _ _ _ hw, ith_map _ _ _ hw, hmul, hmul] at hs
    have hsum := isum_rest hw (fun c => min (c * m) L)
    rw [hm.sum] at hsum
    have hF : isum ((restL xs w).map fun c => min (c * m) L) = 2 * (isum (restL xs w) - (E - s)) * m := by
      have e : isum (restL xs w) - (E - s) = isum xs - E - ith xs w + s := by omega
      rw [e, Int.mul_assoc, Int.add_mul, Int.sub_mul (isum xs - E)]
      rw [Int.mul_assoc] at hsum
      omega
    by_cases hE' : 2 * (E - s) ≤ isum (restL xs w)
    · have hh : 2 * (isum (restL xs w) - (E - s)) ≤ isum (restL xs w) := Int.le_of_mul_le_mul_right (by have := hle m L; omega) (show 0 < m by have := hm.den; omega)
      have hhalf : 2 * (E - s) = isum (restL xs w) := by omega
      obtain ⟨m', L', hm'⟩ := equal_is h0' (show 0 ≤ 2 * (E - s) by omega) hE'
      have et' : talmudP (E - s) (restL xs w) = ((restL xs w).map fun c => min (c * m') L', 2 * m') := by unfold talmudP; rw [if_pos hE', hm'.val]
      rw [et']
      have hF2 : isum ((restL xs w).map fun c => min (c * m) L) = 2 * (E - s) * m := by rw [hF]; congr 1; omega
      have key := min_same hm.den hm'.den hF2 hm'.sum
      have hall := isum_eq_terms (fun c => min (c * m) L) (fun c => c * m) (restL xs w) (fun c _ => by omega) (by
        have h3 := isum_map_mul (fun c => c) m (restL xs w)
        simp only [List.map_id'] at h3
        rw [h3, hF2, hhalf]; omega)
      intro i hi
      simp only []
      rw [ith_map _ _ _ hi, lessOf_at _ _ _ _ (at_lt hw hi), ith_map _ _ _ (at_lt hw hi), ← restL_at hw, hmul, hmul, hmul]
      have k1 := key _ (ith_mem hi)
      have k2 := hall _ (ith_mem hi)
      have k3 : min (ith (restL xs w) i * m) L = ith (restL xs w) i * m := by omega
      rw [k3] at k1 ⊢
      have k4 : (2 * (ith (restL xs w) i * m) - ith (restL xs w) i * m) * m' = ith (restL xs w) i * m * m' := by congr 1; omega
      rw [k4]; omega
    · obtain ⟨m', L', hm'⟩ := equal_is h0' (show 0 ≤ 2 * (isum (restL xs w) - (E - s)) by omega) (show 2 * (isum (restL xs w) - (E - s)) ≤ isum (restL xs w) by omega)
      have et' : talmudP (E - s) (restL xs w) = (lessOf (restL xs w) (2 * m') ((restL xs w).map fun c => min (c * m') L'), 2 * m') := by unfold talmudP; rw [if_neg hE', hm'.val]
      rw [et']
      have key := min_same hm.den hm'.den hF hm'.sum
      intro i hi
      simp only []
      rw [lessOf_at _ _ _ _ hi, ith_map _ _ _ hi, lessOf_at _ _ _ _ (at_lt hw hi), ith_map _ _ _ (at_lt hw hi), ← restL_at hw, hmul, hmul, hmul, hmul, Int.sub_mul, Int.sub_mul]
      have k1 := key _ (ith_mem hi)
      have e : ith (restL xs w) i * m' * m = ith (restL xs w) i * m * m' := Int.mul_right_comm _ _ _
      rw [Int.mul_assoc 2, Int.mul_assoc 2, e]
      omega
/-- The same of shares in lowest terms. -/
theorem share_stays {rule E s : Int} {xs : List Int} {q : List Int × Int} (hr : rule ≠ 4) (h : shareP rule E xs = some q) {w : Nat} (hw : w < xs.length) (h2 : 2 ≤ xs.length) (hs : ith q.1 w = s * q.2) :
    ∃ r, shareP rule (E - s) (restL xs w) = some r ∧ Stay xs w q r := by
  unfold shareP at h
  split at h
  · rename_i hp
    have hP := (probB_true E xs).1 hp.1
    rw [Option.some.injEq] at h
    subst h
    obtain ⟨g, hg, hd, hk⟩ := lowP_at (rule_shares (rule := rule) hP)
    have hs2 : ith (ruleP rule E xs).1 w = s * (ruleP rule E xs).2 := by rw [← hk w hw, hs, Int.mul_assoc, hd]
    have hP' := stay_prob hP (rule_shares (rule := rule) hP) hw h2 hs2
    have hst := rule_stays hP hr hp.2 hw h2 hs2
    obtain ⟨g', hg', hd', hk'⟩ := lowP_at (rule_shares (rule := rule) hP')
    refine ⟨_, by unfold shareP; rw [if_pos ⟨(probB_true _ _).2 hP', hp.2⟩], fun i hi => ?_⟩
    have := hst i hi
    rw [← hk _ (at_lt hw hi), ← hk' i hi, ← hd, ← hd'] at this
    refine Int.eq_of_mul_eq_mul_right (show g * g' ≠ 0 from Int.ne_of_gt (Int.mul_pos hg hg')) ?_
    calc ith (lowP (ruleP rule (E - s) (restL xs w))).1 i * (lowP (ruleP rule E xs)).2 * (g * g') = ith (lowP (ruleP rule (E - s) (restL xs w))).1 i * g' * ((lowP (ruleP rule E xs)).2 * g) := by ac_rfl
      _ = _ := this
      _ = _ := by ac_rfl
  · simp at h
end Go.Proofs.Ytcngecibljgndaa
