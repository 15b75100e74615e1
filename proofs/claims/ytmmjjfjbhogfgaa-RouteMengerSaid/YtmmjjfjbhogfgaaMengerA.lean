/- Apart beside Needed: plain law. -/
import Derived.Test.YtmmjjfjbhogfgaaFlowE
import Derived.Test.YtmmjjfjbhogfgaaProfE
namespace Go.Proofs.Ytmmjjfjbhogfgaa

def legOf (u v : Nat) : Nat := if u = 0 then (v - 2) / 2 else (u - 2) / 2
section
variable {m : Nat} {inb beg last : Nat → Prop} {fol : Nat → Nat → Prop}
/-- A way from a leg that is in the set leaves the set. -/
theorem path_leaves {A : Nat → Prop} (h1 : ¬ A 1) {folB' : Nat → Nat → Bool} {lastB' : Nat → Bool} (hf : ∀ i j, folB' i j = true → fol i j) (hl : ∀ i, lastB' i = true → last i) :
    ∀ {y : List Nat} {i : Nat}, Path m folB' lastB' (i :: y) → (∀ k ∈ i :: y, inb k) → A (2 + 2 * i) → ∃ u v, u < 2 * m + 2 ∧ v < 2 * m + 2 ∧ Arcs m inb beg last fol m u v ∧ A u ∧ ¬ A v ∧ legOf u v ∈ i :: y
  | y, i, hp, hin, hA => by
    have him := hp.1
    have hii := hin i (by simp)
    by_cases hO : A (3 + 2 * i)
    · cases y with
      | nil => exact ⟨3 + 2 * i, 1, by omega, by omega, ⟨i, him, hii, .inr (.inr (.inl ⟨hl i hp.one_inv, rfl, rfl⟩))⟩, hO, h1, by simp [legOf]; omega⟩
      | cons j s =>
        have hj := hp.cons_inv
        by_cases hJ : A (2 + 2 * j)
        · obtain ⟨u, v, g1, g2, g3, g4, g5, g6⟩ := path_leaves h1 hf hl hj.2 (fun k hk => hin k (List.mem_cons_of_mem _ hk)) hJ
          exact ⟨u, v, g1, g2, g3, g4, g5, List.mem_cons_of_mem _ g6⟩
        · have hjm := hj.2.1
          exact ⟨3 + 2 * i, 2 + 2 * j, by omega, by omega, ⟨i, him, hii, .inr (.inr (.inr ⟨j, hjm, hin j (by simp), hf i j hj.1, rfl, rfl⟩))⟩, hO, hJ, by
            have : legOf (3 + 2 * i) (2 + 2 * j) = i := by unfold legOf; rw [if_neg (by omega)]; omega
            rw [this]; simp⟩
    · exact ⟨2 + 2 * i, 3 + 2 * i, by omega, by omega, ⟨i, him, hii, .inl ⟨rfl, rfl⟩⟩, hA, hO, by
        have : legOf (2 + 2 * i) (3 + 2 * i) = i := by unfold legOf; rw [if_neg (by omega)]; omega
        rw [this]; simp⟩
theorem jn_leaves {A : Nat → Prop} (h0 : A 0) (h1 : ¬ A 1) {folB' : Nat → Nat → Bool} {begB' lastB' : Nat → Bool} (hf : ∀ i j, folB' i j = true → fol i j) (hb : ∀ i, begB' i = true → beg i) (hl : ∀ i, lastB' i = true → last i) {x : List Nat}
    (hx : Jn m folB' begB' lastB' x) (hin : ∀ k ∈ x, inb k) : ∃ u v, u < 2 * m + 2 ∧ v < 2 * m + 2 ∧ Arcs m inb beg last fol m u v ∧ A u ∧ ¬ A v ∧ legOf u v ∈ x := by
  obtain ⟨a, r, rfl, hfa, hp⟩ := hx
  by_cases hA : A (2 + 2 * a)
  · exact path_leaves h1 hf hl hp hin hA
  · have ham := hp.1
    exact ⟨0, 2 + 2 * a, by omega, by omega, ⟨a, ham, hin a (by simp), .inr (.inl ⟨hb a hfa, rfl, rfl⟩)⟩, h0, hA, by
      have : legOf 0 (2 + 2 * a) = a := by unfold legOf; rw [if_pos rfl]; omega
      rw [this]; simp⟩
end

section
variable {c : Int} {L : List Leg} {src dst at_ by_ : Int}
theorem goes_leaves {A : Nat → Prop} (h0 : A 0) (h1 : ¬ A 1) {x : List Nat} (hx : Jn L.length (folL c L) (fun i => begB src at_ (leg L i)) (fun i => lastB dst by_ (leg L i)) x) :
    ∃ u v, u < 2 * L.length + 2 ∧ v < 2 * L.length + 2 ∧ ArcsOf c L src dst at_ by_ (InJ c L src dst at_ by_) L.length u v ∧ A u ∧ ¬ A v ∧ legOf u v ∈ x :=
  jn_leaves h0 h1 (fun _ _ h => h) (fun _ h => h) (fun _ h => h) hx (fun _ hk => jn_mem hx hk)
/-- The greatest flow, beside its set. -/
theorem most_cut {C : Nat → Nat → Int} {k : Int} (h : MostOf (2 * L.length + 2) C k) :
    ∃ (g : Nat → Nat → Int) (A : Nat → Prop), NetFlow (2 * L.length + 2) g k ∧ A 0 ∧ ¬ A 1 ∧ (∀ u v, u < 2 * L.length + 2 → v < 2 * L.length + 2 → A u → ¬ A v → g u v = C u v) ∧ ∀ u v, g u v ≤ C u v := by
  obtain ⟨M, hM, A, h0, h1, hA⟩ := h
  refine ⟨fun u v => C u v - M u v, A, hM.net (by omega), h0, h1, fun u v hu hv hAu hAv => ?_, fun u v => by have := hM.nonneg u v; show C u v - M u v ≤ C u v; omega⟩
  have h1 := hA u v hu hv hAu hAv
  have := hM.nonneg u v
  simp only at h1
  show C u v - M u v = C u v
  omega
theorem apart_pos {C : Nat → Nat → Int} {k : Int} (hC : IsCap (ArcsOf c L src dst at_ by_ (InJ c L src dst at_ by_) L.length) C) (h : MostOf (2 * L.length + 2) C k) (hg : Goes c L src dst at_ by_) : 1 ≤ k := by
  obtain ⟨g, A, hN, h0, h1, hA, _⟩ := most_cut h
  obtain ⟨x, hx⟩ := hg
  obtain ⟨u, v, hu, hv, ha, hAu, hAv, _⟩ := goes_leaves h0 h1 hx
  have e : C u v = 1 := by rw [hC u v, if_pos ha]
  by_cases hk : 1 ≤ k
  · exact hk
  · have := flow_none hN h0 h1 (fun u v hu hv hAu hAv => by rw [hA u v hu hv hAu hAv]; exact (hC.nonneg u v).1) (by omega) hu hv hAu hAv
    rw [hA u v hu hv hAu hAv, e] at this
    omega
theorem apart_one {C : Nat → Nat → Int} {k : Int} (hC : IsCap (ArcsOf c L src dst at_ by_ (InJ c L src dst at_ by_) L.length) C) (h : MostOf (2 * L.length + 2) C k) (hg : Goes c L src dst at_ by_) (hk : k = 1) : ∃ d, d < L.length ∧ ¬ GoesBut c L src dst at_ by_ d := by
  obtain ⟨g, A, hN, h0, h1, hA, _⟩ := most_cut h
  obtain ⟨x, hx⟩ := hg
  obtain ⟨u, v, hu, hv, ha, hAu, hAv, hm⟩ := goes_leaves h0 h1 hx
  have hpos : ∀ u v, u < 2 * L.length + 2 → v < 2 * L.length + 2 → A u → ¬ A v → 0 ≤ g u v := fun u v hu hv hAu hAv => by rw [hA u v hu hv hAu hAv]; exact (hC.nonneg u v).1
  have one : ∀ u v, u < 2 * L.length + 2 → v < 2 * L.length + 2 → ArcsOf c L src dst at_ by_ (InJ c L src dst at_ by_) L.length u v → A u → ¬ A v → 0 < g u v := fun u v hu hv ha hAu hAv => by rw [hA u v hu hv hAu hAv, hC u v, if_pos ha]; decide
  refine ⟨legOf u v, ?_, ?_⟩
  · obtain ⟨j, hj, e⟩ := List.getElem_of_mem hm
    have := (jn_iff.1 hx).2.2.1 j hj
    rw [List.getD_eq_getElem?_getD, List.getElem?_eq_getElem hj] at this
    simpa [e] using this
  · rintro ⟨y, hy, hn⟩
    obtain ⟨u', v', hu', hv', ha', hAu', hAv', hm'⟩ := goes_leaves h0 h1 hy
    obtain ⟨rfl, rfl⟩ := flow_uniq hN h0 h1 hpos (by omega) hu hv hAu hAv (one u v hu hv ha hAu hAv) hu' hv' hAu' hAv' (one u' v' hu' hv' ha' hAu' hAv')
    exact hn hm'
/-- What can be come to without a leg. -/
def ComeBut (c : Int) (L : List Leg) (src at_ : Int) (d i : Nat) : Prop := i ≠ d ∧ ∃ y, Jn L.length (folL c L) (fun i => begB src at_ (leg L i)) (fun k => k == i) y ∧ d ∉ y
theorem apart_need {C : Nat → Nat → Int} {k : Int} (hC : IsCap (ArcsOf c L src dst at_ by_ (InJ c L src dst at_ by_) L.length) C) (h : MostOf (2 * L.length + 2) C k) {d : Nat} (hd : d < L.length) (hn : ¬ GoesBut c L src dst at_ by_ d) : k ≤ 1 := by
  obtain ⟨g, _, hN, _, _, _, hle⟩ := most_cut h
  refine flow_one hN (R := fun u => u = 0 ∨ ∃ i, (u = 2 + 2 * i ∧ (i = d ∨ ComeBut c L src at_ d i)) ∨ (u = 3 + 2 * i ∧ ComeBut c L src at_ d i)) (.inl rfl) ?_ (a := 2 + 2 * d) (b := 3 + 2 * d) (by omega) (by omega) (fun u v hu hv hAu hAv => ?_)
  · rintro (h | ⟨i, ⟨h, _⟩ | ⟨h, _⟩⟩) <;> omega
  · have hg := hle u v
    have hCuv := hC u v
    by_cases ha : ArcsOf c L src dst at_ by_ (InJ c L src dst at_ by_) L.length u v
    · rw [if_pos ha] at hCuv
      obtain ⟨i, hi, hin, h1 | ⟨h1, h2, h3⟩ | ⟨h1, h2, h3⟩ | ⟨l, hl, hlin, h1, h2, h3⟩⟩ := ha
      · obtain ⟨rfl, rfl⟩ := h1
        rcases hAu with h | ⟨i', ⟨h, h'⟩ | ⟨h, h'⟩⟩
        · omega
        · obtain rfl : i' = i := by omega
          rcases h' with rfl | h'
          · exact .inl ⟨rfl, rfl, by omega⟩
          · exact (hAv (.inr ⟨i', .inr ⟨rfl, h'⟩⟩)).elim
        · omega
      · subst h2 h3
        by_cases e : i = d
        · exact (hAv (.inr ⟨i, .inl ⟨rfl, .inl e⟩⟩)).elim
        · exact (hAv (.inr ⟨i, .inl ⟨rfl, .inr ⟨e, [i], ⟨i, [], rfl, h1, .one hi (by simp)⟩, by simpa using fun h => e h.symm⟩⟩⟩)).elim
      · subst h2 h3
        rcases hAu with h | ⟨i', ⟨h, _⟩ | ⟨h, h'⟩⟩
        · omega
        · omega
        · obtain rfl : i' = i := by omega
          obtain ⟨_, y, hy, hdy⟩ := h'
          refine (hn ⟨y, ?_, hdy⟩).elim
          exact hy.mono (fun _ _ h => h) (fun k _ hk => by simp only [beq_iff_eq] at hk; subst hk; exact h1)
      · subst h2 h3
        rcases hAu with h | ⟨i', ⟨h, _⟩ | ⟨h, h'⟩⟩
        · omega
        · omega
        · obtain rfl : i' = i := by omega
          obtain ⟨_, y, hy, hdy⟩ := h'
          by_cases e : l = d
          · exact (hAv (.inr ⟨l, .inl ⟨rfl, .inl e⟩⟩)).elim
          · exact (hAv (.inr ⟨l, .inl ⟨rfl, .inr ⟨e, y ++ [l], hy.snoc hl h1, by simp [hdy]; exact fun h => e h.symm⟩⟩⟩)).elim
    · rw [if_neg ha] at hCuv
      exact .inr (by omega)
end

/-! Needed, Apart and Earliest together. -/
theorem menger_err {n : Int} {L : List Leg} {c src dst at_ by_ : Int} {R : List Nat} {e : Int} {k : Nat} {f : Int} (h : NeedOf n L c src dst at_ by_ R e) (h' : ApartOf n L c src dst at_ by_ k f) : e = f ∧ (e ≠ 0 → R = [] ∧ k = 0) := by
  rcases h with ⟨h1, rfl, rfl⟩ | ⟨h1, h2, rfl, rfl⟩ | ⟨h1, h2, h3, rfl, rfl⟩ | ⟨h1, h2, h3, h4, rfl⟩ <;> rcases h' with ⟨g1, rfl, rfl⟩ | ⟨g1, g2, rfl, rfl⟩ | ⟨g1, g2, g3, rfl, rfl⟩ | ⟨g1, g2, g3, rfl, g4⟩
  all_goals first
    | exact ⟨rfl, fun _ => ⟨rfl, rfl⟩⟩
    | exact ⟨rfl, fun h => (h rfl).elim⟩
    | exact (h1 g1).elim
    | exact (g1 h1).elim
    | exact (h2 g2).elim
    | exact (g2 h2).elim
    | exact (h3 g3).elim
    | exact (g3 h3).elim
structure Menger (n : Int) (L : List Leg) (c src dst at_ by_ : Int) (R : List Nat) (k : Nat) : Prop where
  good : Good n L c src dst [at_, by_]
  goes : Goes c L src dst at_ by_
  need : NeedIn c L src dst at_ by_ L.length R
  pos : 1 ≤ k
  one : k = 1 ↔ 0 < R.length
theorem menger_ok {n : Int} {L : List Leg} {c src dst at_ by_ : Int} {R : List Nat} {e : Int} {k : Nat} {f : Int} (h : NeedOf n L c src dst at_ by_ R e) (h' : ApartOf n L c src dst at_ by_ k f) (hne : src ≠ dst) (he : e = 0) : Menger n L c src dst at_ by_ R k := by
  rcases h with ⟨h1, rfl, rfl⟩ | ⟨h1, h2, _⟩ | ⟨h1, h2, h3, _, h4⟩ | ⟨h1, h2, h3, h4, _⟩
  · exact (h1 he).elim
  · exact (hne h2).elim
  · omega
  · rcases h' with ⟨g1, _⟩ | ⟨_, g2, _⟩ | ⟨_, _, g3, _⟩ | ⟨_, _, _, _, C, hC, hM⟩
    · exact (g1 h1).elim
    · exact (hne g2).elim
    · exact (g3 h3).elim
    · have hp := apart_pos hC hM h3
      refine ⟨good_iff.1 h1, h3, h4, by omega, fun hk => ?_, fun hR => ?_⟩
      · obtain ⟨d, hd, hn⟩ := apart_one hC hM h3 (by omega)
        exact List.length_pos_of_mem ((h4.2 d).2 ⟨hd, hn⟩)
      · cases R with
        | nil => simp at hR
        | cons d r =>
          have := (h4.2 d).1 (by simp)
          have := apart_need hC hM this.1 this.2
          omega
theorem good_at {n : Int} {L : List Leg} {c src dst a b : Int} (h : Good n L c src dst [a, b]) : Good n L c src dst [a] := by
  have := good_two h
  refine ⟨h.n, h.len, h.fine, h.change, h.src, h.dst, fun k hk => ?_⟩
  have : k = 0 := by simp at hk; omega
  subst this; simp [ith]; omega
/-- Earliest comes in time, and by every leg that is needed. -/
theorem menger_early {n : Int} {L : List Leg} {c src dst at_ by_ : Int} {R : List Nat} {k : Nat} {a : Int} {xs : List Nat} {e : Int} (h : Menger n L c src dst at_ by_ R k) (hne : src ≠ dst) (h' : EarlyOf n L c src dst at_ a xs e) : e = 0 ∧ a ≤ by_ ∧ ∀ d ∈ R, d ∈ xs := by
  obtain ⟨x, hx⟩ := h.goes
  obtain ⟨hl, hend, hc⟩ := jn_last hx
  simp only [lastB, decide_eq_true_eq] at hend
  have hg := good_iff.2 (good_at h.good)
  rcases h' with ⟨h1, _⟩ | ⟨_, h1, _⟩ | ⟨_, _, _, _, _, h1⟩ | ⟨_, _, h1, h2, h3, h4⟩
  · exact (h1 hg).elim
  · exact (hne h1).elim
  · rcases h1 with ⟨_, h1⟩ | ⟨h1, _⟩
    · exact (h1 _ hl ⟨⟨x, hc⟩, hend.1⟩).elim
    · omega
  · rcases h3 with ⟨h3, _⟩ | ⟨_, _, h3⟩
    · omega
    · have := h3 _ hl ⟨x, hc⟩ hend.1
      refine ⟨h1, by omega, fun d hd => ?_⟩
      have hn := ((h.need.2 d).1 hd).2
      by_cases hm : d ∈ xs
      · exact hm
      · refine (hn ⟨xs, ?_, hm⟩).elim
        exact h4.1.mono (fun _ _ h => h) (fun i _ hi => by simp [endB] at hi; simp [lastB, hi]; omega)
/-- Without a leg that is needed one does not come in time. -/
theorem menger_rest {n : Int} {L : List Leg} {c src dst at_ by_ : Int} {R : List Nat} {k : Nat} {b : Int} {ys : List Nat} {f : Int} {d : Nat} (h : Menger n L c src dst at_ by_ R k) (hne : src ≠ dst) (hd : d ∈ R) (h' : EarlyOf n (L.eraseIdx d) c src dst at_ b ys f) : (f = 0 ∧ by_ < b) ∨ f = 10 := by
  obtain ⟨hdl, hn⟩ := (h.need.2 d).1 hd
  have hgd : Good n (L.eraseIdx d) c src dst [at_] := by
    have h0 := good_at h.good
    refine ⟨h0.n, by rw [erase_len hdl]; have := h0.len; omega, fun i hi => ?_, h0.change, h0.src, h0.dst, h0.times⟩
    rw [leg_up]
    refine h0.fine _ ?_
    rw [erase_len hdl] at hi
    unfold upTo
    split <;> omega
  have hg := good_iff.2 hgd
  rcases h' with ⟨h1, _⟩ | ⟨_, h1, _⟩ | ⟨_, _, _, _, h1, _⟩ | ⟨_, _, h1, h2, h3, h4⟩
  · exact (h1 hg).elim
  · exact (hne h1).elim
  · exact .inr h1
  · refine .inl ⟨h1, ?_⟩
    by_cases hb : b ≤ by_
    · refine (hn ((goes_erase hdl).1 ⟨ys, h4.1.mono (fun _ _ h => h) (fun i _ hi => by simp [endB] at hi; simp [lastB, hi]; omega)⟩)).elim
    · omega
end Go.Proofs.Ytmmjjfjbhogfgaa
