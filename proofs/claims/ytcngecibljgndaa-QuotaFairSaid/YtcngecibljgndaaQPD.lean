/- With a greater estate nobody gets less, plain. -/
import Derived.Test.YtcngecibljgndaaQPC
namespace Go.Proofs.Ytcngecibljgndaa
open Go.RowKit Go.Shelf

theorem isum_eq_terms (f g : Int → Int) : ∀ l : List Int, (∀ x ∈ l, f x ≤ g x) → isum (l.map g) ≤ isum (l.map f) → ∀ x ∈ l, g x ≤ f x
  | [], _, _, x, hx => by simp at hx
  | y :: l, h, hs, x, hx => by
    have hle : ∀ m : List Int, (∀ x ∈ m, f x ≤ g x) → isum (m.map f) ≤ isum (m.map g) := by
      intro m
      induction m with
      | nil => intro _; simp
      | cons z m ih => intro hz; have := ih (fun x hx => hz x (by simp [hx])); have := hz z (by simp); simp only [List.map_cons, isum_cons]; omega
    have h1 := h y (by simp)
    have h2 := hle l (fun x hx => h x (by simp [hx]))
    simp only [List.map_cons, isum_cons] at hs
    rcases List.mem_cons.1 hx with rfl | hx
    · omega
    · exact isum_eq_terms f g l (fun x hx => h x (by simp [hx])) (by omega) x hx
theorem min_mul {p q c : Int} (hc : 0 ≤ c) : min p q * c = min (p * c) (q * c) := by
  rcases Int.le_total p q with h | h
  · rw [Int.min_eq_left h, Int.min_eq_left (Int.mul_le_mul_of_nonneg_right h hc)]
  · rw [Int.min_eq_right h, Int.min_eq_right (Int.mul_le_mul_of_nonneg_right h hc)]
/-- Equal division of a greater estate gives nobody less. -/
theorem equal_mono {F F' m L m' L' : Int} {xs : List Int} (h : EqualIs F xs m L) (h' : EqualIs F' xs m' L') (hF : F ≤ F') : ∀ c ∈ xs, min (c * m) L * m' ≤ min (c * m') L' * m := by
  have hm := h.den
  have hm' := h'.den
  intro c hc
  have e : ∀ c : Int, c * m * m' = c * m' * m := fun c => by rw [Int.mul_assoc, Int.mul_assoc, Int.mul_comm m m']
  rcases Int.le_total (L * m') (L' * m) with hL | hL
  · rw [min_mul (by omega), min_mul (by omega), e]
    omega
  · have key := isum_eq_terms (fun c => min (c * m') L' * m) (fun c => min (c * m) L * m') xs (fun c _ => by
      rw [min_mul (by omega), min_mul (by omega), e]
      omega) (by
      rw [isum_map_mul (fun c => min (c * m) L) m', isum_map_mul (fun c => min (c * m') L') m, h.sum, h'.sum, Int.mul_assoc, Int.mul_assoc, Int.mul_comm m m']
      exact Int.mul_le_mul_of_nonneg_right hF (Int.mul_nonneg (by omega) (by omega)))
    exact key c hc
/-- A part of one division is at most that of another one. -/
def NoLess (xs : List Int) (p p' : List Int × Int) : Prop := ∀ k, k < xs.length → ith p.1 k * p'.2 ≤ ith p'.1 k * p.2
theorem ith_mem {xs : List Int} {k : Nat} (hk : k < xs.length) : ith xs k ∈ xs := by rw [show ith xs k = xs[k] by simp [ith, hk]]; exact List.getElem_mem _
theorem rule_grows {rule E E' : Int} {xs : List Int} (h : IsProb E xs) (h' : IsProb E' xs) (hE : E ≤ E') : NoLess xs (ruleP rule E xs) (ruleP rule E' xs) := by
  have h0 : ∀ x ∈ xs, 0 ≤ x := fun x hx => (h.claims x hx).1
  have e1 := h.estate
  have e2 := h.enough
  have e3 := h'.enough
  intro k hk
  have hck := h0 _ (ith_mem hk)
  unfold ruleP
  split
  · obtain ⟨m, L, hm⟩ := equal_is h0 e1.1 e2
    obtain ⟨m', L', hm'⟩ := equal_is h0 (show 0 ≤ E' by omega) e3
    rw [hm.val, hm'.val]
    simp only []
    rw [ith_map _ _ _ hk, ith_map _ _ _ hk]
    exact equal_mono hm hm' hE _ (ith_mem hk)
  split
  · obtain ⟨m, L, hm⟩ := equal_is h0 (show 0 ≤ isum xs - E by omega) (show isum xs - E ≤ isum xs by omega)
    obtain ⟨m', L', hm'⟩ := equal_is h0 (show 0 ≤ isum xs - E' by omega) (show isum xs - E' ≤ isum xs by omega)
    rw [hm.val, hm'.val]
    simp only []
    rw [lessOf_at _ _ _ _ hk, lessOf_at _ _ _ _ hk, ith_map _ _ _ hk, ith_map _ _ _ hk]
    have := equal_mono hm' hm (by omega) _ (ith_mem hk)
    rw [Int.sub_mul, Int.sub_mul, Int.mul_assoc, Int.mul_assoc, Int.mul_comm m m']
    omega
  split
  · simp only []
    rw [ith_map _ _ _ hk, ith_map _ _ _ hk]
    exact Int.mul_le_mul_of_nonneg_right (Int.mul_le_mul_of_nonneg_left hE hck) (by omega)
  split
  · unfold talmudP
    split
    · split
      · obtain ⟨m, L, hm⟩ := equal_is h0 (show 0 ≤ 2 * E by omega) (show 2 * E ≤ isum xs by omega)
        obtain ⟨m', L', hm'⟩ := equal_is h0 (show 0 ≤ 2 * E' by omega) (show 2 * E' ≤ isum xs by omega)
        rw [hm.val, hm'.val]
        simp only []
        rw [ith_map _ _ _ hk, ith_map _ _ _ hk]
        have := equal_mono hm hm' (by omega) _ (ith_mem hk)
        have q : ∀ a b : Int, a * (2 * b) = 2 * (a * b) := fun a b => by rw [← Int.mul_assoc, Int.mul_comm a 2, Int.mul_assoc]
        rw [q, q]
        omega
      · obtain ⟨m, L, hm⟩ := equal_is h0 (show 0 ≤ 2 * E by omega) (show 2 * E ≤ isum xs by omega)
        obtain ⟨m', L', hm'⟩ := equal_is h0 (show 0 ≤ 2 * (isum xs - E') by omega) (show 2 * (isum xs - E') ≤ isum xs by omega)
        have d1 := hm.den
        have d2 := hm'.den
        rw [hm.val, hm'.val]
        simp only []
        rw [lessOf_at _ _ _ _ hk, ith_map _ _ _ hk, ith_map _ _ _ hk]
        generalize ith xs k = c at *
        have a1 : min (c * m) L * (2 * m') ≤ c * m * (2 * m') := Int.mul_le_mul_of_nonneg_right (by omega) (by omega)
        have a2 : (c * (2 * m') - c * m') * (2 * m) ≤ (c * (2 * m') - min (c * m') L') * (2 * m) := Int.mul_le_mul_of_nonneg_right (by omega) (by omega)
        have a3 : (c * (2 * m') - c * m') * (2 * m) = c * m * (2 * m') := by
          rw [show c * (2 * m') - c * m' = c * m' by rw [← Int.mul_assoc, Int.mul_comm c 2, Int.mul_assoc]; omega]
          ac_rfl
        omega
    · split
      · omega
      · obtain ⟨m, L, hm⟩ := equal_is h0 (show 0 ≤ 2 * (isum xs - E) by omega) (show 2 * (isum xs - E) ≤ isum xs by omega)
        obtain ⟨m', L', hm'⟩ := equal_is h0 (show 0 ≤ 2 * (isum xs - E') by omega) (show 2 * (isum xs - E') ≤ isum xs by omega)
        rw [hm.val, hm'.val]
        simp only []
        rw [lessOf_at _ _ _ _ hk, lessOf_at _ _ _ _ hk, ith_map _ _ _ hk, ith_map _ _ _ hk]
        have := equal_mono hm' hm (by omega) _ (ith_mem hk)
        generalize ith xs k = c at *
        have e : c * m * m' = c * m' * m := by rw [Int.mul_assoc, Int.mul_assoc, Int.mul_comm m m']
        have f1 : (c * (2 * m) - min (c * m) L) * (2 * m') = 4 * (c * m * m') - 2 * (min (c * m) L * m') := by
          generalize min (c * m) L = z
          grind
        have f2 : (c * (2 * m') - min (c * m') L') * (2 * m) = 4 * (c * m' * m) - 2 * (min (c * m') L' * m) := by
          generalize min (c * m') L' = z
          grind
        rw [f1, f2, e]
        omega
  · obtain ⟨_, h2⟩ := inTurn_gets E xs
    obtain ⟨_, h3⟩ := inTurn_gets E' xs
    rw [h2 k hk, h3 k hk, inTurn_ord, inTurn_ord]
    exact Int.mul_le_mul_of_nonneg_right (gets_mono xs _ _ _ _ _ hE) (by omega)
theorem lowP_at {E : Int} {xs : List Int} {p : List Int × Int} (h : Shares E xs p) : ∃ g : Int, 0 < g ∧ (lowP p).2 * g = p.2 ∧ ∀ k, k < xs.length → ith (lowP p).1 k * g = ith p.1 k := by
  have hd := h.den
  have hb := gcdL_bounds p.1 (show 0 < p.2 by omega)
  obtain ⟨e1, e2⟩ := gcdL_dvd p.2 p.1
  refine ⟨gcdL p.2 p.1, by omega, Int.ediv_mul_cancel e1, fun k hk => ?_⟩
  have hk2 : k < p.1.length := by rw [h.len]; exact hk
  unfold lowP
  simp only []
  rw [ith_map _ _ _ hk2]
  exact Int.ediv_mul_cancel (e2 _ (ith_mem hk2))
theorem low_noLess {E E' : Int} {xs : List Int} {p p' : List Int × Int} (h : Shares E xs p) (h' : Shares E' xs p') (hn : NoLess xs p p') : NoLess xs (lowP p) (lowP p') := by
  obtain ⟨g, hg, hd, hk⟩ := lowP_at h
  obtain ⟨g', hg', hd', hk'⟩ := lowP_at h'
  intro k hkk
  have := hn k hkk
  rw [← hk k hkk, ← hk' k hkk, ← hd, ← hd'] at this
  refine Int.le_of_mul_le_mul_right ?_ (Int.mul_pos hg hg')
  calc ith (lowP p).1 k * (lowP p').2 * (g * g') = ith (lowP p).1 k * g * ((lowP p').2 * g') := by ac_rfl
    _ ≤ _ := this
    _ = _ := by ac_rfl
theorem share_grows {rule E E' : Int} {xs : List Int} {q r : List Int × Int} (h : shareP rule E xs = some q) (h' : shareP rule E' xs = some r) (hE : E ≤ E') : NoLess xs q r := by
  unfold shareP at h h'
  split at h
  · rename_i hp
    split at h'
    · rename_i hp'
      have hP := (probB_true E xs).1 hp.1
      have hP' := (probB_true E' xs).1 hp'.1
      rw [Option.some.injEq] at h h'
      subst h h'
      exact low_noLess (rule_shares hP) (rule_shares hP') (rule_grows hP hP' hE)
    · simp at h'
  · simp at h
theorem divInt_le {a b c d : Int} (hb : 0 < b) (hd : 0 < d) (h : a * d ≤ c * b) : Rat.divInt a b ≤ Rat.divInt c d := by
  obtain ⟨x, hx⟩ : ∃ x, x = Rat.divInt a b := ⟨_, rfl⟩
  obtain ⟨y, hy⟩ : ∃ y, y = Rat.divInt c d := ⟨_, rfl⟩
  have hxd := x.den_pos
  have hyd := y.den_pos
  have e1 : x.num * b = a * x.den := (Rat.divInt_eq_divInt_iff (by omega) (by omega)).1 (by rw [Rat.num_divInt_den]; exact hx)
  have e2 : y.num * d = c * y.den := (Rat.divInt_eq_divInt_iff (by omega) (by omega)).1 (by rw [Rat.num_divInt_den]; exact hy)
  rw [← hx, ← hy, Rat.le_iff]
  refine Int.le_of_mul_le_mul_right ?_ (Int.mul_pos hb hd)
  calc x.num * (y.den : Int) * (b * d) = (x.num * b) * (y.den * d) := by ac_rfl
    _ = (a * d) * ((x.den : Int) * y.den) := by rw [e1]; ac_rfl
    _ ≤ (c * b) * ((x.den : Int) * y.den) := Int.mul_le_mul_of_nonneg_right h (Int.mul_nonneg (by omega) (by omega))
    _ = (y.num * d) * (x.den * b) := by rw [e2]; ac_rfl
    _ = y.num * (x.den : Int) * (b * d) := by ac_rfl
end Go.Proofs.Ytcngecibljgndaa
