/- The rules and their duals, and the mean of what each one adds: of shares in lowest terms, plain. -/
import Derived.Test.YtcngecibljgndaaQPF
namespace Go.Proofs.Ytcngecibljgndaa
open Go.RowKit Go.Shelf

def dualOf (rule : Int) : Int := if rule = 0 then 1 else if rule = 1 then 0 else rule
def AddUp (xs : List Int) (p p' : List Int × Int) : Prop := ∀ k, k < xs.length → ith p.1 k * p'.2 + ith p'.1 k * p.2 = ith xs k * (p.2 * p'.2)
theorem less_add (xs : List Int) (p : List Int × Int) : AddUp xs p (lessOf xs p.2 p.1, p.2) := by
  intro k hk
  simp only []
  rw [lessOf_at _ _ _ _ hk, Int.sub_mul, Int.mul_assoc]
  omega
theorem AddUp.symm {xs : List Int} {p p' : List Int × Int} (h : AddUp xs p p') : AddUp xs p' p := by
  intro k hk
  have := h k hk
  rw [Int.mul_comm p'.2 p.2]; omega
theorem rule_dual {rule E : Int} {xs : List Int} (h : IsProb E xs) : AddUp xs (ruleP rule E xs) (ruleP (dualOf rule) (isum xs - E) xs) := by
  have h0 : ∀ x ∈ xs, 0 ≤ x := fun x hx => (h.claims x hx).1
  have e1 := h.estate
  have e2 := h.enough
  by_cases r0 : rule = 0
  · subst r0
    have : isum xs - (isum xs - E) = E := by omega
    simp only [ruleP, dualOf, if_pos, if_neg (show ¬ (1 : Int) = 0 by omega), this]
    exact less_add xs _
  by_cases r1 : rule = 1
  · subst r1
    simp only [ruleP, dualOf, if_pos, if_neg (show ¬ (1 : Int) = 0 by omega)]
    exact (less_add xs _).symm
  have hd : dualOf rule = rule := by unfold dualOf; rw [if_neg r0, if_neg r1]
  rw [hd]
  unfold ruleP
  rw [if_neg r0, if_neg r1, if_neg r0, if_neg r1]
  by_cases r2 : rule = 2
  · rw [if_pos r2, if_pos r2]
    intro k hk
    simp only []
    rw [ith_map _ _ _ hk, ith_map _ _ _ hk, ← Int.add_mul, ← Int.mul_add]
    have : E + (isum xs - E) = isum xs := by omega
    rw [this, Int.mul_assoc]
    by_cases hs : 1 ≤ isum xs
    · rw [Int.max_eq_left hs]
    · have hk0 := h0 _ (ith_mem hk)
      have hk1 := le_isum h0 _ (ith_mem hk)
      have : ith xs k = 0 := by omega
      rw [this]; simp
  rw [if_neg r2, if_neg r2]
  by_cases r3 : rule = 3
  · rw [if_pos r3, if_pos r3]
    unfold talmudP
    have e3 : isum xs - (isum xs - E) = E := by omega
    by_cases hE : 2 * E ≤ isum xs
    · by_cases hE2 : 2 * (isum xs - E) ≤ isum xs
      · rw [if_pos hE, if_pos hE2]
        have e4 : 2 * (isum xs - E) = 2 * E := by omega
        rw [e4]
        obtain ⟨m, L, hm⟩ := equal_is h0 (show 0 ≤ 2 * E by omega) (show 2 * E ≤ isum xs by omega)
        have hall := isum_eq_terms (fun c => c * m) (fun c => min (c * m) L)
        have hs : isum (xs.map fun c => c * m) = isum xs * m := by
          have := isum_map_mul id m xs
          simpa using this
        have hmm : isum (xs.map fun c => min (c * m) L) = isum xs * m := by rw [hm.sum]; congr 1; omega
        have hge := isum_eq_terms (fun c => min (c * m) L) (fun c => c * m) xs (fun x _ => by omega) (by rw [hs, hmm]; omega)
        intro k hk
        rw [hm.val]
        simp only []
        rw [ith_map _ _ _ hk]
        have h1 := hge _ (ith_mem hk)
        have h2 : min (ith xs k * m) L = ith xs k * m := by omega
        rw [h2]
        have q : ith xs k * m * (2 * m) = ith xs k * (m * (2 * m)) := Int.mul_assoc _ _ _
        have q2 : ith xs k * (2 * m * (2 * m)) = 2 * (ith xs k * (m * (2 * m))) := by
          rw [Int.mul_assoc 2 m, Int.mul_left_comm (ith xs k) 2]
        rw [q, q2]; omega
      · rw [if_pos hE, if_neg hE2, e3]
        exact less_add xs (((equalP (2 * E) xs).1), 2 * (equalP (2 * E) xs).2)
    · by_cases hE2 : 2 * (isum xs - E) ≤ isum xs
      · rw [if_neg hE, if_pos hE2]
        exact (less_add xs (((equalP (2 * (isum xs - E)) xs).1), 2 * (equalP (2 * (isum xs - E)) xs).2)).symm
      · omega
  rw [if_neg r3, if_neg r3]
  intro k hk
  have h1 := inTurn_dual E xs (fun i hi => (h.claims.at_ i hi).1) e1.1 e2 k hk
  rw [inTurn_full xs (fun i hi => (h.claims.at_ i hi).1) k hk] at h1
  rw [inTurn_ord, inTurn_ord, ← Int.add_mul, h1, Int.mul_assoc]
theorem low_addUp {E E' : Int} {xs : List Int} {p p' : List Int × Int} (h : Shares E xs p) (h' : Shares E' xs p') (hn : AddUp xs p p') : AddUp xs (lowP p) (lowP p') := by
  obtain ⟨g, hg, hd, hk⟩ := lowP_at h
  obtain ⟨g', hg', hd', hk'⟩ := lowP_at h'
  intro k hkk
  have := hn k hkk
  rw [← hk k hkk, ← hk' k hkk, ← hd, ← hd'] at this
  refine Int.eq_of_mul_eq_mul_right (show g * g' ≠ 0 from Int.ne_of_gt (Int.mul_pos hg hg')) ?_
  calc (ith (lowP p).1 k * (lowP p').2 + ith (lowP p').1 k * (lowP p).2) * (g * g') = ith (lowP p).1 k * g * ((lowP p').2 * g') + ith (lowP p').1 k * g' * ((lowP p).2 * g) := by rw [Int.add_mul]; ac_rfl
    _ = _ := this
    _ = _ := by ac_rfl
theorem share_dual {rule E : Int} {xs : List Int} {q r : List Int × Int} (h : shareP rule E xs = some q) (h' : shareP (dualOf rule) (isum xs - E) xs = some r) : AddUp xs q r := by
  unfold shareP at h h'
  split at h
  · rename_i hp
    split at h'
    · rename_i hp'
      have hP := (probB_true E xs).1 hp.1
      have hP' := (probB_true (isum xs - E) xs).1 hp'.1
      rw [Option.some.injEq] at h h'
      subst h h'
      exact low_addUp (rule_shares hP) (rule_shares hP') (rule_dual hP)
    · simp at h'
  · simp at h
theorem divInt_add {a b c d e : Int} (hb : b ≠ 0) (hd : d ≠ 0) (h : a * d + c * b = e * (b * d)) : Rat.divInt a b + Rat.divInt c d = Rat.divInt e 1 := by
  rw [Rat.divInt_add_divInt _ _ hb hd]
  exact (Rat.divInt_eq_divInt_iff (Int.mul_ne_zero hb hd) (by omega)).2 (by rw [Int.mul_one]; exact h)
/-- The run is the mean of what each one adds. -/
theorem share_shapley {E : Int} {xs : List Int} {q : List Int × Int} (h : shareP 4 E xs = some q) (k : Nat) (hk : k < xs.length) : ith q.1 k * fact xs.length = isum ((List.range (2 ^ xs.length)).map fun s => addsP E xs k s) * q.2 := by
  unfold shareP at h
  split at h
  · rename_i hp
    have hP := (probB_true E xs).1 hp.1
    rw [Option.some.injEq] at h
    subst h
    obtain ⟨g, hg, hd, hkk⟩ := lowP_at (rule_shares (rule := 4) hP)
    rw [shapley E xs (fun i hi => (hP.claims.at_ i hi).1) hP.estate.1 k hk]
    have hr : ruleP 4 E xs = inTurnP E xs := by unfold ruleP; rfl
    rw [hr] at hd hkk ⊢
    have h1 := hkk k hk
    rw [inTurn_ord] at hd
    refine Int.eq_of_mul_eq_mul_right (show g ≠ 0 by omega) ?_
    rw [Int.mul_right_comm, h1, Int.mul_assoc, hd]
  · simp at h
end Go.Proofs.Ytcngecibljgndaa
