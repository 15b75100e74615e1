/- What Trips and Earliest say of one another: plain law. -/
import Derived.Test.YtmmjjfjbhogfgaaLawA
namespace Go.Proofs.Ytmmjjfjbhogfgaa

theorem getD_snoc {α : Type} (r : List α) (p d : α) (i : Nat) : (r ++ [p]).getD i d = if i < r.length then r.getD i d else if i = r.length then p else d := by
  simp only [List.getD_eq_getElem?_getD]
  split
  · rename_i h; rw [List.getElem?_append_left h]
  · rename_i h
    rw [List.getElem?_append_right (by omega)]
    split
    · rename_i h'; subst h'; simp
    · rename_i h'
      rw [List.getElem?_eq_none (by simp; omega)]
      rfl
theorem getLastD_at {α : Type} (d : α) : ∀ (r : List α), r.getLastD d = r.getD (r.length - 1) d
  | [] => rfl
  | [a] => rfl
  | a :: b :: s => by
    have := getLastD_at d (b :: s)
    simp [List.getD_eq_getElem?_getD] at this ⊢
    exact this

structure RecOk (Q : Nat → Int → Prop) (k : Nat) (r : List (Int × Int)) : Prop where
  tot : ∀ j, j < k → ∃ a, Q j a
  idx : ∀ i, i < r.length → 0 ≤ (r.getD i (0, 0)).1 ∧ (r.getD i (0, 0)).1 < k
  up : ∀ i, i + 1 < r.length → (r.getD i (0, 0)).1 < (r.getD (i + 1) (0, 0)).1 ∧ (r.getD (i + 1) (0, 0)).2 < (r.getD i (0, 0)).2
  none : r = [] → ∀ j a, j < k → Q j a → a < 0
  last : r ≠ [] → ∃ q : Nat, (r.getD (r.length - 1) (0, 0)).1 = q ∧ q < k ∧ Q q (lastArr r) ∧ 0 ≤ lastArr r ∧ (∀ j a, j < k → Q j a → a < 0 ∨ lastArr r ≤ a) ∧ ∀ j a, j < q → Q j a → a < 0 ∨ lastArr r < a
theorem Rec.ok {Q : Nat → Int → Prop} (hQ : ∀ k a b, Q k a → Q k b → a = b) {k : Nat} {r : List (Int × Int)} (h : Rec Q k r) : RecOk Q k r := by
  induction h with
  | zero => exact ⟨fun j hj => by omega, fun i hi => by simp at hi, fun i hi => by simp at hi, fun _ j a hj => by omega, fun h => (h rfl).elim⟩
  | @skip k r a h hq hs ih =>
    refine ⟨fun j hj => ?_, fun i hi => ?_, ih.up, fun hr j b hj hb => ?_, fun hr => ?_⟩
    · by_cases e : j = k
      · subst e; exact ⟨a, hq⟩
      · exact ih.tot j (by omega)
    · have := ih.idx i hi; omega
    · by_cases e : j = k
      · subst e
        obtain rfl := hQ _ _ _ hq hb
        rcases hs with hs | ⟨hs, _⟩
        · exact hs
        · exact (hs hr).elim
      · exact ih.none hr j b (by omega) hb
    · obtain ⟨q, h1, h2, h3, h4, h5, h6⟩ := ih.last hr
      refine ⟨q, h1, by omega, h3, h4, fun j b hj hb => ?_, h6⟩
      by_cases e : j = k
      · subst e
        obtain rfl := hQ _ _ _ hq hb
        rcases hs with hs | ⟨_, hs⟩
        · exact .inl hs
        · exact .inr hs
      · exact h5 j b (by omega) hb
  | @add k r a h hq h0 hs ih =>
    have hlast : lastArr (r ++ [((k : Int), a)]) = a := by simp [lastArr]
    refine ⟨fun j hj => ?_, fun i hi => ?_, fun i hi => ?_, fun hr => by simp at hr, fun _ => ⟨k, ?_, by omega, ?_, ?_, fun j b hj hb => ?_, fun j b hj hb => ?_⟩⟩
    · by_cases e : j = k
      · subst e; exact ⟨a, hq⟩
      · exact ih.tot j (by omega)
    · rw [getD_snoc]
      split
      · rename_i h'; have := ih.idx i h'; omega
      · rw [if_pos (by simp at hi; omega)]
        simp
        omega
    · simp only [List.length_append, List.length_singleton] at hi
      rw [getD_snoc, getD_snoc, if_pos (by omega)]
      by_cases e : i + 1 < r.length
      · rw [if_pos e]; exact ih.up i e
      · rw [if_neg e, if_pos (by omega)]
        have hne : r ≠ [] := by rintro rfl; simp at hi
        have h1 := ih.idx i (by omega)
        have h2 : i = r.length - 1 := by omega
        have h3 : lastArr r = (r.getD i (0, 0)).2 := by unfold lastArr; rw [getLastD_at, h2]
        rcases hs with hs | hs
        · exact (hne hs).elim
        · rw [h3] at hs
          exact ⟨h1.2, hs⟩
    · rw [getD_snoc, if_neg (by simp), if_pos (by simp)]
    · rw [hlast]; exact hq
    · rw [hlast]; exact h0
    · rw [hlast]
      by_cases e : j = k
      · subst e
        obtain rfl := hQ _ _ _ hq hb
        exact .inr (Int.le_refl _)
      · by_cases hr : r = []
        · exact .inl (ih.none hr j b (by omega) hb)
        · obtain ⟨q, h1, h2, h3, h4, h5, h6⟩ := ih.last hr
          rcases hs with hs | hs
          · exact (hr hs).elim
          · rcases h5 j b (by omega) hb with h | h
            · exact .inl h
            · exact .inr (by omega)
    · rw [hlast]
      by_cases hr : r = []
      · exact .inl (ih.none hr j b (by omega) hb)
      · obtain ⟨q, h1, h2, h3, h4, h5, h6⟩ := ih.last hr
        rcases hs with hs | hs
        · exact (hr hs).elim
        · rcases h5 j b (by omega) hb with h | h
          · exact .inl h
          · exact .inr (by omega)

def tFst (T : List (Int × Int)) (k : Nat) : Int := (T.getD k (0, 0)).1
def tSnd (T : List (Int × Int)) (k : Nat) : Int := (T.getD k (0, 0)).2
/-- What RoutePairs asks of the pairs. -/
structure PairsOk (L : List Leg) (T : List (Int × Int)) (a : Int) (xs : List Nat) : Prop where
  ne : T ≠ []
  last : tSnd T (T.length - 1) = a
  up : ∀ i, i + 1 < T.length → tFst T i < tFst T (i + 1) ∧ tSnd T (i + 1) < tSnd T i
  low : 0 ≤ tFst T 0
  few : tFst T (T.length - 1) ≤ wsum (wtL L) xs
  len : T.length ≤ 100
theorem Rec.le {Q : Nat → Int → Prop} {k : Nat} {r : List (Int × Int)} (h : Rec Q k r) : r.length ≤ k := by
  induction h with
  | zero => simp
  | skip _ _ _ ih => omega
  | add _ _ _ _ ih => simp; omega
theorem within_come {c : Int} {L : List Leg} {first : Nat → Bool} {k i : Nat} (h : Within c L first k i) : ComeTo c L first i := by
  obtain ⟨y, hy, _⟩ := h
  exact ⟨y, hy⟩
theorem law_pairs {n : Int} {L : List Leg} {c src dst at_ a : Int} {xs : List Nat} {e f : Int} {T : List (Int × Int)} (h : EarlyOf n L c src dst at_ a xs e) (h' : TripsOf n L c src dst at_ T f) :
    e = f ∧ (e ≠ 0 → T = []) ∧ (e = 0 → PairsOk L T a xs) := by
  rcases h with ⟨h0, rfl, rfl, rfl⟩ | ⟨h0, rfl, rfl, rfl, rfl⟩ | ⟨h0, h1, rfl, rfl, rfl, hA⟩ | ⟨h0, h1, rfl, h3, hA, hl⟩
  · rcases h' with ⟨_, rfl, rfl⟩ | ⟨h, _⟩ | ⟨h, _⟩
    · exact ⟨rfl, fun _ => rfl, fun h => (h0 h).elim⟩
    · exact (h0 h).elim
    · exact (h0 h).elim
  · rcases h' with ⟨h, _⟩ | ⟨_, _, rfl, rfl⟩ | ⟨_, h, _⟩
    · exact (h h0).elim
    · exact ⟨rfl, fun h => (h rfl).elim, fun _ => ⟨by simp, by simp [tSnd], fun i hi => by simp at hi, by simp [tFst], by simp [wsum, tFst], by simp⟩⟩
    · exact (h rfl).elim
  · rcases h' with ⟨h, _⟩ | ⟨_, h, _⟩ | ⟨_, _, hR, rfl⟩
    · exact (h h0).elim
    · exact (h1 h).elim
    · have hT : T = [] := by
        by_cases hT : T = []
        · exact hT
        · exfalso
          obtain ⟨q, _, _, h3, h4, _⟩ := (hR.ok (fun k a b h h' => h.uniq h')).last hT
          rcases h3 with ⟨h3, _⟩ | ⟨_, ⟨i, hi, hw, ht, _⟩, _⟩
          · omega
          · rcases hA with ⟨_, hA⟩ | ⟨h, _⟩
            · exact hA i hi ⟨within_come hw, ht⟩
            · omega
      exact ⟨by rw [if_pos hT], fun _ => hT, fun h => by omega⟩
  · rcases h' with ⟨h, _⟩ | ⟨_, h, _⟩ | ⟨_, _, hR, rfl⟩
    · exact (h h0).elim
    · exact (h1 h).elim
    · have hok := hR.ok (fun k a b h h' => h.uniq h')
      have hg := good_iff.1 h0
      have hshort := jn_short hg.change.1 hg.fine hl.1
      have hend := (jn_last hl.1)
      obtain ⟨g1, g2, g3⟩ := hend
      have g2' : (leg L (xs.getD (xs.length - 1) 0)).To = dst ∧ (leg L (xs.getD (xs.length - 1) 0)).Arr = a := by simpa [endB] using g2
      have hw : wsum (wtL L) xs < L.length := by
        obtain ⟨i, r, rfl, _⟩ := hl.1
        have := wsum_le (wtL_le L) i r
        simp at hshort
        omega
      obtain ⟨a', ha'⟩ := hok.tot _ hw
      have hwi : Within c L (fun i => begB src at_ (leg L i)) (wsum (wtL L) xs) (xs.getD (xs.length - 1) 0) := ⟨xs, g3, Nat.le_refl _⟩
      have hle : ∀ k b, 0 ≤ b → ArrAt L dst (Within c L (fun i => begB src at_ (leg L i)) k) L.length b → a ≤ b := by
        intro k b hb hq
        rcases hq with ⟨h, _⟩ | ⟨_, ⟨i, hi, hw, ht, rfl⟩, _⟩
        · omega
        · rcases hA with ⟨_, hA⟩ | ⟨_, _, hA⟩
          · exact (hA i hi ⟨within_come hw, ht⟩).elim
          · exact hA i hi (within_come hw) ht
      have ha : a' = a := by
        rcases ha' with ⟨_, h⟩ | ⟨hb, hi, h⟩
        · exact (h _ g1 ⟨hwi, g2'.1⟩).elim
        · have h4 := h _ g1 hwi g2'.1
          have h5 := hle _ a' hb (.inr ⟨hb, hi, h⟩)
          omega
      subst ha
      have hT : T ≠ [] := by
        intro hT
        have := hok.none hT _ _ hw ha'
        omega
      obtain ⟨q, k1, k2, k3, k4, k5, k6⟩ := hok.last hT
      have e1 : lastArr T = a' := by
        have h4 := hle _ _ k4 k3
        rcases k5 _ _ hw ha' with h | h <;> omega
      have e2 : (T.getD (T.length - 1) (0, 0)).2 = a' := by rw [← e1]; unfold lastArr; rw [getLastD_at]
      have hpos : 0 < T.length := List.length_pos_iff.2 hT
      refine ⟨by rw [if_neg hT], fun h => (h rfl).elim, fun _ => ⟨hT, e2, hok.up, (hok.idx 0 hpos).1, ?_, ?_⟩⟩
      · unfold tFst
        rw [k1]
        rcases Nat.lt_or_ge (wsum (wtL L) xs) q with h | h
        · rcases k6 _ _ h ha' with h | h <;> omega
        · omega
      · have := hR.le
        have := hg.len
        omega
theorem wsum_take (wt : Nat → Nat → Nat) : ∀ (xs : List Nat) (p : Nat), p + 1 < xs.length → wsum wt (xs.take (p + 2)) = wsum wt (xs.take (p + 1)) + wt (xs.getD p 0) (xs.getD (p + 1) 0)
  | [], p, h => by simp at h
  | [a], p, h => by simp at h
  | a :: b :: s, 0, _ => by simp [wsum]
  | a :: b :: s, p + 1, h => by
    have := wsum_take wt (b :: s) p (by simpa using h)
    simp only [List.take_succ_cons, wsum, List.getD_cons_succ] at this ⊢
    omega
end Go.Proofs.Ytmmjjfjbhogfgaa
