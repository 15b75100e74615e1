/- Profiles: plain law. -/
import Derived.Test.YtmmjjfjbhogfgaaLawB
namespace Go.Proofs.Ytmmjjfjbhogfgaa

abbrev Stops := List (Int × Int)
/-- When one comes; -1: never. -/
def lookL : Stops → Int → Int
  | [], _ => -1
  | s :: r, t => if t ≤ s.1 then s.2 else lookL r t
def Up (R : Stops) : Prop := R.Pairwise (fun s t => s.1 < t.1 ∧ s.2 < t.2)
/-- The earliest coming of those that leave at a time or later. -/
def MinAt (l : Stops) (t a : Int) : Prop := (a = -1 ∧ ∀ s ∈ l, ¬ t ≤ s.1) ∨ (0 ≤ a ∧ (∃ s ∈ l, t ≤ s.1 ∧ a = s.2) ∧ ∀ s ∈ l, t ≤ s.1 → a ≤ s.2)
theorem MinAt.uniq {l : Stops} {t a b : Int} (h : MinAt l t a) (h' : MinAt l t b) : a = b := by
  rcases h with ⟨rfl, h⟩ | ⟨h0, ⟨s, hs, h1, h2⟩, h3⟩ <;> rcases h' with ⟨rfl, g⟩ | ⟨g0, ⟨s', gs, g1, g2⟩, g3⟩
  · rfl
  · exact (h s' gs g1).elim
  · exact (g s hs h1).elim
  · have := h3 s' gs g1
    have := g3 s hs h1
    omega
theorem MinAt.congr {l l' : Stops} {t a : Int} (h : MinAt l t a) (hm : ∀ s, s ∈ l ↔ s ∈ l') : MinAt l' t a := by
  rcases h with ⟨rfl, h⟩ | ⟨h0, ⟨s, hs, h1, h2⟩, h3⟩
  · exact .inl ⟨rfl, fun s hs => h s ((hm s).2 hs)⟩
  · exact .inr ⟨h0, ⟨s, (hm s).1 hs, h1, h2⟩, fun s hs => h3 s ((hm s).2 hs)⟩
theorem lookL_ge (R : Stops) (h0 : ∀ s ∈ R, 0 ≤ s.2) (t : Int) : -1 ≤ lookL R t := by
  induction R with
  | nil => simp [lookL]
  | cons s r ih =>
    unfold lookL
    split
    · have := h0 s (by simp); omega
    · exact ih (fun s hs => h0 s (by simp [hs]))
/-- Two that rise and answer alike are the same. -/
theorem up_uniq : ∀ {R R' : Stops}, Up R → Up R' → (∀ s ∈ R, 0 ≤ s.2) → (∀ s ∈ R', 0 ≤ s.2) → (∀ t, lookL R t = lookL R' t) → R = R'
  | [], [], _, _, _, _, _ => rfl
  | [], s :: r, _, _, _, h0, h => by
    have := h s.1
    simp [lookL] at this
    have := h0 s (by simp)
    omega
  | s :: r, [], _, _, h0, _, h => by
    have := h s.1
    simp [lookL] at this
    have := h0 s (by simp)
    omega
  | s :: r, s' :: r', hu, hu', h0, h0', h => by
    have e2 : s.2 = s'.2 := by
      have := h (min s.1 s'.1)
      simp only [lookL] at this
      rw [if_pos (by omega), if_pos (by omega)] at this
      exact this
    -- behind the first one the comings are later
    have later : ∀ {q : Int × Int} {p : Stops}, Up (q :: p) → (∀ s ∈ q :: p, 0 ≤ s.2) → ∀ t, q.1 < t → lookL (q :: p) t ≠ q.2 := by
      intro q p hq h0 t ht e
      unfold lookL at e
      rw [if_neg (by omega)] at e
      have key : ∀ (p : Stops), (∀ s ∈ p, q.2 < s.2) → lookL p t = -1 ∨ q.2 < lookL p t := by
        intro p
        induction p with
        | nil => intro _; exact .inl rfl
        | cons b p ih =>
          intro hp
          unfold lookL
          split
          · exact .inr (hp b (by simp))
          · exact ih (fun s hs => hp s (by simp [hs]))
      have h1 := (List.pairwise_cons.1 hq).1
      have h2 := h0 q (by simp)
      rcases key p (fun s hs => (h1 s hs).2) with h3 | h3 <;> omega
    have e1 : s.1 = s'.1 := by
      rcases Int.lt_trichotomy s.1 s'.1 with h1 | h1 | h1
      · exfalso
        have h2 := h (s.1 + 1)
        have h3 := later hu h0 (s.1 + 1) (by omega)
        rw [h2] at h3
        apply h3
        unfold lookL
        rw [if_pos (by omega)]
        exact e2.symm
      · exact h1
      · exfalso
        have h2 := h (s'.1 + 1)
        have h3 := later hu' h0' (s'.1 + 1) (by omega)
        rw [← h2] at h3
        apply h3
        unfold lookL
        rw [if_pos (by omega)]
        exact e2
    have hs : s = s' := Prod.ext e1 e2
    subst hs
    have htail : ∀ {p : Stops}, Up (s :: p) → ∀ t, t ≤ s.1 → lookL p t = lookL p (s.1 + 1) := by
      intro p hp t ht
      have h1 := (List.pairwise_cons.1 hp).1
      cases p with
      | nil => rfl
      | cons b p =>
        have := (h1 b (by simp)).1
        unfold lookL
        rw [if_pos (by omega), if_pos (by omega)]
    have : r = r' := by
      refine up_uniq (List.pairwise_cons.1 hu).2 (List.pairwise_cons.1 hu').2 (fun s hs => h0 s (by simp [hs])) (fun s hs => h0' s (by simp [hs])) (fun t => ?_)
      by_cases ht : t ≤ s.1
      · rw [htail hu t ht, htail hu' t ht]
        have := h (s.1 + 1)
        unfold lookL at this
        rw [if_neg (by omega), if_neg (by omega)] at this
        exact this
      · have := h t
        unfold lookL at this
        rw [if_neg (by omega), if_neg (by omega)] at this
        exact this
    rw [this]

/-- The stops of a list of which none is as good as another one, in order. -/
structure FrontOf (l R : Stops) : Prop where
  up : Up R
  mem : ∀ s ∈ R, s ∈ l
  look : ∀ t, MinAt l t (lookL R t)
theorem FrontOf.uniq {l l' R R' : Stops} (h : FrontOf l R) (h' : FrontOf l' R') (h0 : ∀ s ∈ l, 0 ≤ s.2) (h0' : ∀ s ∈ l', 0 ≤ s.2) (he : ∀ t a, MinAt l t a → MinAt l' t a) : R = R' :=
  up_uniq h.up h'.up (fun s hs => h0 s (h.mem s hs)) (fun s hs => h0' s (h'.mem s hs)) (fun t => (he t _ (h.look t)).uniq (h'.look t))
theorem FrontOf.congr {l l' R : Stops} (h : FrontOf l R) (hm : ∀ s, s ∈ l ↔ s ∈ l') : FrontOf l' R :=
  ⟨h.up, fun s hs => (hm s).1 (h.mem s hs), fun t => (h.look t).congr hm⟩

/-- What has been gathered, from the last leaving down. -/
structure DownRec (P O : Stops) : Prop where
  down : O.Pairwise (fun s t => t.1 < s.1 ∧ t.2 < s.2)
  mem : ∀ s ∈ O, s ∈ P
  look : ∀ t, MinAt P t (lookL O.reverse t)
theorem DownRec.nil : DownRec [] [] := ⟨.nil, fun s hs => by simp at hs, fun t => .inl ⟨rfl, fun s hs => by simp at hs⟩⟩
theorem DownRec.none {P : Stops} (h : DownRec P []) : P = [] := by
  cases P with
  | nil => rfl
  | cons s r =>
    exfalso
    rcases h.look s.1 with ⟨_, h1⟩ | ⟨h1, _⟩
    · exact h1 s (by simp) (Int.le_refl _)
    · simp [lookL] at h1
theorem last_of (O : Stops) (h : O ≠ []) : ∃ O' l, O = O' ++ [l] ∧ lastArr O = l.2 := by
  obtain ⟨O', l, rfl⟩ : ∃ O' l, O = O' ++ [l] := ⟨O.dropLast, O.getLast h, (List.dropLast_concat_getLast h).symm⟩
  exact ⟨O', l, rfl, by simp [lastArr]⟩
theorem DownRec.add {P O : Stops} {s : Int × Int} (h : DownRec P O) (h0 : 0 ≤ s.2) (hs : ∀ p ∈ P, s.1 ≤ p.1 ∧ (s.1 = p.1 → p.2 ≤ s.2)) (hn : O = [] ∨ s.2 < lastArr O) : DownRec (P ++ [s]) (O ++ [s]) := by
  have low : O ≠ [] → ∀ p ∈ P, s.1 ≤ p.1 → s.2 < p.2 := by
    intro hO p hp hle
    obtain ⟨O', l, rfl, hl⟩ := last_of O hO
    rcases hn with hn | hn
    · exact (hO hn).elim
    · have h1 := h.look s.1
      have h2 := (hs l (h.mem l (by simp))).1
      rw [List.reverse_append] at h1
      simp only [List.reverse_cons, List.reverse_nil, List.nil_append, List.cons_append, lookL, if_pos h2] at h1
      rcases h1 with ⟨_, h1⟩ | ⟨_, _, h1⟩
      · exact (h1 l (h.mem l (by simp)) h2).elim
      · have := h1 p hp hle; omega
  refine ⟨?_, fun p hp => ?_, fun t => ?_⟩
  · rw [List.pairwise_append]
    refine ⟨h.down, by simp, fun p hp q hq => ?_⟩
    simp at hq
    subst hq
    have hO : O ≠ [] := by rintro rfl; simp at hp
    have h1 := hs p (h.mem p hp)
    have h2 := low hO p (h.mem p hp) h1.1
    exact ⟨by
      rcases Int.lt_or_le q.1 p.1 with h3 | h3
      · exact h3
      · have := h1.2 (by omega); omega, h2⟩
  · rcases List.mem_append.1 hp with hp | hp
    · exact List.mem_append.2 (.inl (h.mem p hp))
    · exact List.mem_append.2 (.inr hp)
  · rw [List.reverse_append]
    simp only [List.reverse_cons, List.reverse_nil, List.nil_append, List.cons_append, lookL]
    split
    · rename_i ht
      refine .inr ⟨h0, ⟨s, by simp, ht, rfl⟩, fun p hp hle => ?_⟩
      rcases List.mem_append.1 hp with hp | hp
      · by_cases hO : O = []
        · subst hO; rw [h.none] at hp; simp at hp
        · have := low hO p hp (hs p hp).1; omega
      · simp at hp; subst hp; exact Int.le_refl _
    · rename_i ht
      rcases h.look t with ⟨e, h1⟩ | ⟨h1, ⟨p, hp, h2⟩, h3⟩
      · refine .inl ⟨e, fun p hp => ?_⟩
        rcases List.mem_append.1 hp with hp | hp
        · exact h1 p hp
        · simp at hp; subst hp; exact ht
      · refine .inr ⟨h1, ⟨p, List.mem_append.2 (.inl hp), h2⟩, fun q hq hle => ?_⟩
        rcases List.mem_append.1 hq with hq | hq
        · exact h3 q hq hle
        · simp at hq; subst hq; exact (ht hle).elim
theorem DownRec.skip {P O : Stops} {s : Int × Int} (h : DownRec P O) (hs : ∀ p ∈ P, s.1 ≤ p.1) (hO : O ≠ []) (hn : lastArr O ≤ s.2) : DownRec (P ++ [s]) O := by
  refine ⟨h.down, fun p hp => List.mem_append.2 (.inl (h.mem p hp)), fun t => ?_⟩
  by_cases ht : t ≤ s.1
  · obtain ⟨O', l, rfl, hl⟩ := last_of O hO
    have h1 := h.look t
    have h2 := hs l (h.mem l (by simp))
    rw [List.reverse_append] at h1 ⊢
    simp only [List.reverse_cons, List.reverse_nil, List.nil_append, List.cons_append, lookL, if_pos (show t ≤ l.1 by omega)] at h1 ⊢
    rcases h1 with ⟨_, h1⟩ | ⟨h1, ⟨p, hp, h3⟩, h4⟩
    · exact (h1 l (h.mem l (by simp)) (by omega)).elim
    · refine .inr ⟨h1, ⟨p, List.mem_append.2 (.inl hp), h3⟩, fun q hq hle => ?_⟩
      rcases List.mem_append.1 hq with hq | hq
      · exact h4 q hq hle
      · simp at hq; subst hq; omega
  · rcases h.look t with ⟨e, h1⟩ | ⟨h1, ⟨p, hp, h2⟩, h3⟩
    · refine .inl ⟨e, fun p hp => ?_⟩
      rcases List.mem_append.1 hp with hp | hp
      · exact h1 p hp
      · simp at hp; subst hp; exact ht
    · refine .inr ⟨h1, ⟨p, List.mem_append.2 (.inl hp), h2⟩, fun q hq hle => ?_⟩
      rcases List.mem_append.1 hq with hq | hq
      · exact h3 q hq hle
      · simp at hq; subst hq; exact (ht hle).elim
theorem DownRec.front {P O : Stops} (h : DownRec P O) : FrontOf P O.reverse :=
  ⟨by unfold Up; rw [List.pairwise_reverse]; exact h.down, fun s hs => h.mem s (List.mem_reverse.1 hs), h.look⟩
/-- One that rises is its own front. -/
theorem up_front : ∀ {R : Stops}, Up R → (∀ s ∈ R, 0 ≤ s.2) → FrontOf R R
  | [], _, _ => ⟨.nil, fun _ h => h, fun t => .inl ⟨rfl, fun s hs => by simp at hs⟩⟩
  | s :: r, hu, h0 => by
    have h1 := List.pairwise_cons.1 hu
    have ih := up_front h1.2 (fun s hs => h0 s (by simp [hs]))
    refine ⟨hu, fun _ h => h, fun t => ?_⟩
    unfold lookL
    split
    · rename_i ht
      refine .inr ⟨h0 s (by simp), ⟨s, by simp, ht, rfl⟩, fun p hp _ => ?_⟩
      rcases List.mem_cons.1 hp with rfl | hp
      · exact Int.le_refl _
      · have := (h1.1 p hp).2; omega
    · rename_i ht
      rcases ih.look t with ⟨e, g1⟩ | ⟨g1, ⟨p, hp, g2⟩, g3⟩
      · refine .inl ⟨e, fun p hp => ?_⟩
        rcases List.mem_cons.1 hp with rfl | hp
        · exact ht
        · exact g1 p hp
      · refine .inr ⟨g1, ⟨p, by simp [hp], g2⟩, fun q hq hle => ?_⟩
        rcases List.mem_cons.1 hq with rfl | hq
        · exact (ht hle).elim
        · exact g3 q hq hle
theorem getD_mem {R : Stops} {k : Nat} (hk : k < R.length) : R.getD k (0, 0) ∈ R := by
  simp only [List.getD_eq_getElem?_getD, List.getElem?_eq_getElem hk, Option.getD_some]
  exact List.getElem_mem hk
theorem up_iff {R : Stops} : Up R ↔ ∀ i, i + 1 < R.length → tFst R i < tFst R (i + 1) ∧ tSnd R i < tSnd R (i + 1) := by
  constructor
  · intro h i hi
    have := List.pairwise_iff_getElem.1 h i (i + 1) (by omega) hi (by omega)
    simpa [tFst, tSnd, List.getD_eq_getElem?_getD, hi, show i < R.length by omega] using this
  · induction R with
    | nil => intro _; exact .nil
    | cons s r ih =>
      intro h
      have hr : Up r := ih (fun i hi => by have := h (i + 1) (by simpa using hi); simpa [tFst, tSnd] using this)
      refine List.pairwise_cons.2 ⟨fun p hp => ?_, hr⟩
      cases r with
      | nil => simp at hp
      | cons b r =>
        have h1 : s.1 < b.1 ∧ s.2 < b.2 := by have := h 0 (by simp); simpa [tFst, tSnd] using this
        rcases List.mem_cons.1 hp with rfl | hp
        · exact h1
        · have := (List.pairwise_cons.1 hr).1 p hp
          omega
end Go.Proofs.Ytmmjjfjbhogfgaa
