/- Profile beside Earliest, Then of three profiles: plain law. -/
import Derived.Test.YtmmjjfjbhogfgaaProfA
import Derived.Test.YtmmjjfjbhogfgaaLatest
import Derived.Test.YtmmjjfjbhogfgaaMFlowD
namespace Go.Proofs.Ytmmjjfjbhogfgaa

theorem goodE_nil {n : Int} {L : List Leg} {c src dst : Int} {ts : List Int} (h : goodE n L c src dst [] ≠ 0) : goodE n L c src dst ts = goodE n L c src dst [] ∧ goodE n L c src dst [] ≠ 10 := by
  unfold goodE at h ⊢
  have h0 : ¬ anyB ([] : List Int).length (fun k => badTime (ith [] k)) = true := by simp [anyB]
  by_cases h1 : n < 1 ∨ 8 < n
  · simp [h1]
  · by_cases h2 : 60 < L.length
    · simp [h1, h2]
    · by_cases h3 : badHead n L c src dst = true
      · simp [h1, h2, h3]
      · rw [if_neg h1, if_neg h2, if_neg h3, if_neg h0] at h
        exact (h rfl).elim
theorem goodE_times {n : Int} {L : List Leg} {c src dst : Int} {ts : List Int} (h : goodE n L c src dst [] = 0) : goodE n L c src dst ts = 0 ∨ goodE n L c src dst ts = 2 := by
  have hg := good_iff.1 h
  have h1 := hg.n
  have h2 := hg.len
  unfold goodE at h ⊢
  rw [if_neg (by omega), if_neg (by omega)] at h ⊢
  split
  · exact .inr rfl
  · split
    · exact .inr rfl
    · exact .inl rfl
theorem good_add {n : Int} {L : List Leg} {c src dst : Int} (h : Good n L c src dst []) {t : Int} (h0 : 0 ≤ t) (h1 : t ≤ 10000) : Good n L c src dst [t] := by
  refine ⟨h.n, h.len, h.fine, h.change, h.src, h.dst, fun k hk => ?_⟩
  have : k = 0 := by simp at hk; omega
  subst this; simp [ith]; omega
theorem first_err {n : Int} {L : List Leg} {c src dst at_ a e f : Int} {R : Stops} {xs : List Nat} (h : ProfOf n L c src dst R e) (h' : EarlyOf n L c src dst at_ a xs f) (he : e ≠ 0) : f ≠ 0 ∧ f ≠ 10 ∧ R = [] := by
  rcases h with ⟨h1, rfl, rfl⟩ | ⟨_, _, _, h⟩ | ⟨_, _, h, _⟩
  · obtain ⟨g1, g2⟩ := goodE_nil (ts := [at_]) h1
    rcases h' with ⟨_, _, _, rfl⟩ | ⟨h, _⟩ | ⟨h, _⟩ | ⟨h, _⟩
    · exact ⟨by rw [g1]; exact h1, by rw [g1]; exact g2, rfl⟩
    · rw [g1] at h; exact (h1 h).elim
    · rw [g1] at h; exact (h1 h).elim
    · rw [g1] at h; exact (h1 h).elim
  · exact (he h).elim
  · exact (he h).elim
theorem prof_ok {n : Int} {L : List Leg} {c src dst e : Int} {R : Stops} (h : ProfOf n L c src dst R e) (he : e = 0) (hn : src ≠ dst) : Good n L c src dst [] ∧ ProfIs c L src dst R := by
  rcases h with ⟨h1, rfl, rfl⟩ | ⟨_, h, _⟩ | ⟨h, _, _, h2⟩
  · exact (h1 he).elim
  · exact (hn h).elim
  · exact ⟨good_iff.1 h, h2⟩
theorem first_look {n : Int} {L : List Leg} {c src dst at_ a e f x g : Int} {R : Stops} {xs : List Nat} (h : ProfOf n L c src dst R e) (he : e = 0) (hn : src ≠ dst) (hR : R.length ≤ 60) (h' : EarlyOf n L c src dst at_ a xs f) (hf : f = 0 ∨ f = 10) (hl : LookOf R at_ x g) : x = a ∧ g = f := by
  obtain ⟨hg, hP⟩ := prof_ok h he hn
  have hok := hP.ok (by omega)
  have hg0 := good_iff.2 hg
  have key : 0 ≤ at_ ∧ at_ ≤ 10000 ∧ ((f = 0 ∧ 0 ≤ a ∧ lookL R at_ = a) ∨ (f = 10 ∧ a = 0 ∧ lookL R at_ = -1)) := by
    rcases h' with ⟨h1, _, _, rfl⟩ | ⟨_, h1, _⟩ | ⟨h1, _, h2, _, h3, h4⟩ | ⟨h1, _, h2, h3, h4, _⟩
    · rcases goodE_times (ts := [at_]) hg0 with h2 | h2 <;> omega
    · exact (hn h1).elim
    · have := good_t0 (good_iff.1 h1)
      exact ⟨this.1, this.2, .inr ⟨h3, h2, (hP.look at_).uniq h4⟩⟩
    · have := good_t0 (good_iff.1 h1)
      exact ⟨this.1, this.2, .inl ⟨h2, h3, (hP.look at_).uniq h4⟩⟩
  rcases hl with ⟨h1, _⟩ | ⟨_, ⟨h1, rfl, rfl⟩ | ⟨h1, rfl, rfl⟩⟩
  · exact (h1 ⟨hok, by omega, by omega⟩).elim
  · rcases key with ⟨_, _, ⟨h2, h3, h4⟩ | ⟨h2, h3, h4⟩⟩
    · omega
    · exact ⟨h3.symm, h2.symm⟩
  · rcases key with ⟨_, _, ⟨h2, h3, h4⟩ | ⟨h2, h3, h4⟩⟩
    · exact ⟨h4, h2.symm⟩
    · omega
theorem first_later {n : Int} {L : List Leg} {c src dst at_ a e f later b g : Int} {R : Stops} {xs ys : List Nat} (h : ProfOf n L c src dst R e) (he : e = 0) (hn : src ≠ dst) (h' : EarlyOf n L c src dst at_ a xs f) (hl : EarlyOf n L c src dst later b ys g) (hle : at_ ≤ later) (hg : g = 0) (hf : f ≠ 2) : f = 0 ∧ a ≤ b := by
  obtain ⟨hgd, hP⟩ := prof_ok h he hn
  have hg0 := good_iff.2 hgd
  obtain ⟨_, ⟨h1, _⟩ | ⟨_, hb0, hB, _⟩⟩ := early_ok hl hg
  · exact (hn h1).elim
  · rcases hB with ⟨h1, _⟩ | ⟨_, ⟨i, hi, hc, hi1, hi2⟩, _⟩
    · omega
    · have hc' : ComeTo c L (fun i => begB src at_ (leg L i)) i := come_mono hc (fun k _ hk => by simp [begB] at hk ⊢; omega)
      rcases h' with ⟨h1, _, _, rfl⟩ | ⟨_, h1, _⟩ | ⟨h1, _, h2, _, h3, h4⟩ | ⟨h1, _, h2, h3, h4, _⟩
      · rcases goodE_times (ts := [at_]) hg0 with h2 | h2
        · exact (h1 h2).elim
        · exact (hf h2).elim
      · exact (hn h1).elim
      · rcases h4 with ⟨_, h4⟩ | ⟨h4, _⟩
        · exact (h4 i hi ⟨hc', hi1⟩).elim
        · omega
      · rcases h4 with ⟨h4, _⟩ | ⟨_, _, h4⟩
        · omega
        · have := h4 i hi hc' hi1
          exact ⟨h2, by omega⟩
theorem first_up {n : Int} {L : List Leg} {c src dst e : Int} {R : Stops} (h : ProfOf n L c src dst R e) (he : e = 0) (hn : src ≠ dst) (hR : R.length ≤ 60) : ProfOk R := (prof_ok h he hn).2.ok (by omega)

/-! Then of three. -/
theorem lookL_mono {b : Stops} (hb : Up b) (h0 : ∀ s ∈ b, 0 ≤ s.2) {t t' : Int} (h : t ≤ t') : lookL b t' = -1 ∨ (0 ≤ lookL b t ∧ lookL b t ≤ lookL b t') := by
  have h1 := (up_front hb h0).look t
  rcases (up_front hb h0).look t' with ⟨h2, _⟩ | ⟨_, ⟨s, hs, h3, h4⟩, _⟩
  · exact .inl h2
  · rcases h1 with ⟨_, h1⟩ | ⟨h5, _, h6⟩
    · exact (h1 s hs (by omega)).elim
    · have := h6 s hs (by omega)
      exact .inr ⟨h5, by omega⟩
/-- One behind the other. -/
def thenL (a b : Stops) (wait t : Int) : Int := if lookL a t < 0 then -1 else lookL b (lookL a t + wait)
theorem joined_cons' (s : Int × Int) (r b : Stops) (wait : Int) : joined (s :: r) b wait = (if 0 ≤ lookL b (s.2 + wait) then [(s.1, lookL b (s.2 + wait))] else []) ++ joined r b wait := by
  unfold joined
  rw [List.filterMap_cons]
  by_cases h : 0 ≤ lookL b (s.2 + wait) <;> simp [goOn, h]
theorem joined_min {b : Stops} {wait : Int} (hb : Up b) (h0 : ∀ s ∈ b, 0 ≤ s.2) : ∀ {a : Stops}, Up a → (∀ s ∈ a, 0 ≤ s.2) → ∀ t, MinAt (joined a b wait) t (thenL a b wait t)
  | [], _, _, t => .inl ⟨by simp [thenL, lookL], fun s hs => by simp [joined] at hs⟩
  | s :: r, hu, ha, t => by
    have h1 := List.pairwise_cons.1 hu
    have ih := joined_min (wait := wait) hb h0 h1.2 (fun s hs => ha s (by simp [hs])) t
    have hs0 := ha s (by simp)
    by_cases ht : t ≤ s.1
    · have e : thenL (s :: r) b wait t = lookL b (s.2 + wait) := by
        unfold thenL
        rw [show lookL (s :: r) t = s.2 from by rw [lookL, if_pos ht], if_neg (by omega)]
      rw [e]
      have hge := lookL_ge b h0 (s.2 + wait)
      have hlow : ∀ p ∈ joined r b wait, 0 ≤ lookL b (s.2 + wait) ∧ lookL b (s.2 + wait) ≤ p.2 := by
        intro p hp
        obtain ⟨q, hq, _, h2, h3⟩ := goOn_mem hp
        have := (h1.1 q hq).2
        rcases lookL_mono hb h0 (show s.2 + wait ≤ q.2 + wait by omega) with h4 | h4
        · omega
        · omega
      rw [joined_cons']
      by_cases hp : 0 ≤ lookL b (s.2 + wait)
      · rw [if_pos hp]
        refine .inr ⟨hp, ⟨(s.1, lookL b (s.2 + wait)), by simp, ht, rfl⟩, fun q hq _ => ?_⟩
        rcases List.mem_append.1 hq with hq | hq
        · simp at hq; subst hq; exact Int.le_refl _
        · exact (hlow q hq).2
      · rw [if_neg hp]
        refine .inl ⟨by omega, fun q hq _ => ?_⟩
        rw [List.nil_append] at hq
        exact hp (hlow q hq).1
    · have e : thenL (s :: r) b wait t = thenL r b wait t := by
        unfold thenL
        rw [show lookL (s :: r) t = lookL r t from by rw [lookL, if_neg ht]]
      rw [e, joined_cons']
      have hno : ∀ q ∈ (if 0 ≤ lookL b (s.2 + wait) then [(s.1, lookL b (s.2 + wait))] else []), ¬ t ≤ q.1 := by
        intro q hq
        split at hq
        · simp at hq; subst hq; exact ht
        · simp at hq
      rcases ih with ⟨e, h3⟩ | ⟨h3, ⟨q, hq, h4, h5⟩, h6⟩
      · refine .inl ⟨e, fun q hq hle => ?_⟩
        rcases List.mem_append.1 hq with hq | hq
        · exact hno q hq hle
        · exact h3 q hq hle
      · refine .inr ⟨h3, ⟨q, List.mem_append.2 (.inr hq), h4, h5⟩, fun q hq hle => ?_⟩
        rcases List.mem_append.1 hq with hq | hq
        · exact (hno q hq hle).elim
        · exact h6 q hq hle
theorem then_look {a b R : Stops} {wait e : Int} (h : ThenOf a b wait R e) (he : e = 0) : ∀ t, lookL R t = thenL a b wait t := by
  intro t
  rcases h with ⟨_, _, h⟩ | ⟨⟨ha, hb, _⟩, _, h⟩
  · omega
  · exact (h.look t).uniq (joined_min hb.up (fun s hs => by have := hb.bd s hs; omega) ha.up (fun s hs => by have := ha.bd s hs; omega) t)
theorem lookL_in {b : Stops} {t : Int} (h : 0 ≤ lookL b t) : ∃ s ∈ b, t ≤ s.1 ∧ s.2 = lookL b t := by
  induction b with
  | nil => simp [lookL] at h
  | cons s r ih =>
    unfold lookL at h ⊢
    split
    · rename_i ht
      exact ⟨s, by simp, ht, rfl⟩
    · rename_i ht
      rw [if_neg ht] at h
      obtain ⟨q, hq, h1, h2⟩ := ih h
      exact ⟨q, by simp [hq], h1, h2⟩
theorem then_ok {a b R : Stops} {wait e : Int} (h : ThenOf a b wait R e) (ha : ProfOk a) (hb : ProfOk b) (hw : 0 ≤ wait ∧ wait ≤ 100) (hR : R.length ≤ 1000) : e = 0 ∧ ProfOk R := by
  rcases h with ⟨h, _⟩ | ⟨_, he, h⟩
  · exact (h ⟨ha, hb, hw.1, hw.2⟩).elim
  · refine ⟨he, hR, fun i hi => ?_⟩
    obtain ⟨r, hr, h1, h2, h3⟩ := goOn_mem (h.mem _ (getD_mem hi))
    obtain ⟨q, hq, h4, h5⟩ := lookL_in (b := b) (t := r.2 + wait) (by omega)
    have h6 := ha.bd r hr
    have h7 := hb.bd q hq
    unfold OkAt
    refine ⟨?_, ?_, ?_, fun h0 => ?_⟩
    · unfold tFst; omega
    · unfold tFst tSnd; omega
    · unfold tSnd; omega
    · have := up_iff.1 h.up (i - 1) (by omega)
      rw [show i - 1 + 1 = i from by omega] at this
      exact this
theorem then_assoc {p q r t u v w : Stops} {wait e1 e2 e3 e4 : Int} (hv : ProfOk v) (hw : ProfOk w)
    (h1 : ThenOf p q wait t e1) (h2 : ThenOf q r wait u e2) (h3 : ThenOf t r wait v e3) (h4 : ThenOf p u wait w e4) (he : e1 = 0 ∧ e2 = 0 ∧ e3 = 0 ∧ e4 = 0) : v = w := by
  obtain ⟨f1, f2, f3, f4⟩ := he
  refine up_uniq hv.up hw.up (fun s hs => by have := hv.bd s hs; omega) (fun s hs => by have := hw.bd s hs; omega) (fun τ => ?_)
  rw [then_look h3 f3, then_look h4 f4]
  unfold thenL
  rw [then_look h1 f1]
  unfold thenL
  by_cases g : lookL p τ < 0
  · simp [g]
  · rw [if_neg g, if_neg g, then_look h2 f2]
    rfl
/-- A journey behind a journey. -/
theorem path_app {m : Nat} {fol : Nat → Nat → Bool} {last : Nat → Bool} {i j : Nat} {s : List Nat} (hf : fol i j = true) (h2 : Path m fol last (j :: s)) : ∀ {x : List Nat}, Path m fol (fun k => k == i) x → Path m fol last (x ++ j :: s)
  | [], h => h.elim
  | [a], h => by
    have : a = i := by simpa using h.one_inv
    subst this
    exact .cons h.1 hf h2
  | a :: b :: r, h => .cons h.1 h.cons_inv.1 (path_app hf h2 (x := b :: r) h.cons_inv.2)
theorem come_app {c : Int} {L : List Leg} {first : Nat → Bool} {i f j : Nat} (h : ComeTo c L first i) (hf : folL c L i f = true) (h2 : ComeTo c L (fun k => k == f) j) : ComeTo c L first j := by
  obtain ⟨x, a, r, rfl, h1, hp⟩ := h
  obtain ⟨y, b, s, rfl, h3, hq⟩ := h2
  have : b = f := by simpa using h3
  subst this
  exact ⟨_, a, r ++ b :: s, rfl, h1, path_app hf hq hp⟩
theorem through {n : Int} {L : List Leg} {c A B C at_ e f x y g h : Int} {p q t : Stops} {ys : List Nat} (hp : ProfOf n L c A B p e) (hq : ProfOf n L c B C q f) (he : e = 0) (hf : f = 0) (h1 : A ≠ B) (h2 : B ≠ C) (h3 : A ≠ C) {e' : Int} (ht : ThenOf p q c t e') (he' : e' = 0)
    (hl : LookOf t at_ x h) (hh : h = 0) (ha : at_ ≤ 10000) (hE : EarlyOf n L c A C at_ y ys g) : g = 0 ∧ y ≤ x := by
  obtain ⟨gp, pP⟩ := prof_ok hp he h1
  obtain ⟨gq, qP⟩ := prof_ok hq hf h2
  have hlook : (0 ≤ at_) ∧ 0 ≤ x ∧ lookL t at_ = x := by
    rcases hl with ⟨_, _, h'⟩ | ⟨⟨_, h4, _⟩, ⟨_, _, h'⟩ | ⟨h5, h6, _⟩⟩
    · omega
    · omega
    · exact ⟨h4, by omega, h6.symm⟩
  obtain ⟨h0, hx, hlk⟩ := hlook
  rw [then_look ht he'] at hlk
  unfold thenL at hlk
  by_cases g0 : lookL p at_ < 0
  · rw [if_pos g0] at hlk; omega
  rw [if_neg g0] at hlk
  have hP := pP.look at_
  have hQ := qP.look (lookL p at_ + c)
  rcases hP with ⟨h4, _⟩ | ⟨_, ⟨i, hi, hci, hti, hai⟩, _⟩
  · omega
  rcases hQ with ⟨h4, _⟩ | ⟨_, ⟨j, hj, hcj, htj, haj⟩, _⟩
  · omega
  obtain ⟨fl, hfl, hb, hcf⟩ := come_first hcj
  have hfol : folL c L i fl = true := by
    simp only [begB, decide_eq_true_eq] at hb
    have := gp.change
    simp only [folL, folB, Bool.and_eq_true, decide_eq_true_eq]
    refine ⟨by omega, ?_⟩
    split <;> simp only [decide_eq_true_eq] <;> omega
  have hcome := come_app hci hfol hcf
  have hgood : Good n L c A C [] := ⟨gp.n, gp.len, gp.fine, gp.change, gp.src, gq.dst, fun k hk => by simp at hk⟩
  have hgE := good_iff.2 (good_add hgood h0 ha)
  rcases hE with ⟨h4, _⟩ | ⟨_, h4, _⟩ | ⟨_, _, _, _, _, h4⟩ | ⟨_, _, h4, h5, h6, _⟩
  · exact (h4 hgE).elim
  · exact (h3 h4).elim
  · rcases h4 with ⟨_, h4⟩ | ⟨h4, _⟩
    · exact (h4 j hj ⟨hcome, htj⟩).elim
    · omega
  · rcases h6 with ⟨h6, _⟩ | ⟨_, _, h6⟩
    · omega
    · have := h6 j hj hcome htj
      exact ⟨h4, by omega⟩
theorem through_third {n : Int} {L : List Leg} {c A B C e f g : Int} {p q r : Stops} (hp : ProfOf n L c A B p e) (hq : ProfOf n L c B C q f) (he : e = 0) (hf : f = 0) (h1 : A ≠ B) (h2 : B ≠ C) (h3 : A ≠ C) (hr : ProfOf n L c C A r g) : g = 0 := by
  obtain ⟨gp, _⟩ := prof_ok hp he h1
  obtain ⟨gq, _⟩ := prof_ok hq hf h2
  have hgood : Good n L c C A [] := ⟨gp.n, gp.len, gp.fine, gp.change, gq.dst, gp.src, fun k hk => by simp at hk⟩
  have := good_iff.2 hgood
  rcases hr with ⟨h4, _⟩ | ⟨_, h4, _⟩ | ⟨_, _, h4, _⟩
  · exact (h4 this).elim
  · exact (h3 h4.symm).elim
  · exact h4
end Go.Proofs.Ytmmjjfjbhogfgaa

/- Apart beside Needed: plain law. -/
namespace Go.Proofs.Ytmmjjfjbhogfgaa

def legOf (u v : Nat) : Nat := if u = 0 then (v - 2) / 2 else (u - 2) / 2
section
variable {m : Nat} {inb beg last : Nat → Prop} {fol : Nat → Nat → Prop}
/-- A way from a leg that is in the set leaves the set. -/
theorem path_leaves {A : Nat → Prop} (h1 : ¬ A 1) {folB' : Nat → Nat → Bool} {lastB' : Nat → Bool} (hf : ∀ i j, folB' i j = true → fol i j) (hl : ∀ i, lastB' i = true → last i) :
    ∀ {y : List Nat} {i : Nat}, Path m folB' lastB' (i :: y) → (∀ k ∈ i :: y, inb k) → A (2 + 2 * i) → ∃ u v, u < 2 * m + 2 ∧ v < 2 * m + 2 ∧ Arcs m inb beg last fol m u v ∧ A u ∧ ¬ A v ∧ legOf u v ∈ i :: y
  | y, i, hp, hin, hA => by
    have him := hp.1
    have hii := hin i (by simp)
    by_cases hO : A (3 + 2 * i)
    · cases y with
      | nil => exact ⟨3 + 2 * i, 1, by omega, by omega, ⟨i, him, hii, .inr (.inr (.inl ⟨hl i hp.one_inv, rfl, rfl⟩))⟩, hO, h1, by simp [legOf]; omega⟩
      | cons j s =>
        have hj := hp.cons_inv
        by_cases hJ : A (2 + 2 * j)
        · obtain ⟨u, v, g1, g2, g3, g4, g5, g6⟩ := path_leaves h1 hf hl hj.2 (fun k hk => hin k (List.mem_cons_of_mem _ hk)) hJ
          exact ⟨u, v, g1, g2, g3, g4, g5, List.mem_cons_of_mem _ g6⟩
        · have hjm := hj.2.1
          exact ⟨3 + 2 * i, 2 + 2 * j, by omega, by omega, ⟨i, him, hii, .inr (.inr (.inr ⟨j, hjm, hin j (by simp), hf i j hj.1, rfl, rfl⟩))⟩, hO, hJ, by
            have : legOf (3 + 2 * i) (2 + 2 * j) = i := by unfold legOf; rw [if_neg (by omega)]; omega
            rw [this]; simp⟩
    · exact ⟨2 + 2 * i, 3 + 2 * i, by omega, by omega, ⟨i, him, hii, .inl ⟨rfl, rfl⟩⟩, hA, hO, by
        have : legOf (2 + 2 * i) (3 + 2 * i) = i := by unfold legOf; rw [if_neg (by omega)]; omega
        rw [this]; simp⟩
theorem jn_leaves {A : Nat → Prop} (h0 : A 0) (h1 : ¬ A 1) {folB' : Nat → Nat → Bool} {begB' lastB' : Nat → Bool} (hf : ∀ i j, folB' i j = true → fol i j) (hb : ∀ i, begB' i = true → beg i) (hl : ∀ i, lastB' i = true → last i) {x : List Nat}
    (hx : Jn m folB' begB' lastB' x) (hin : ∀ k ∈ x, inb k) : ∃ u v, u < 2 * m + 2 ∧ v < 2 * m + 2 ∧ Arcs m inb beg last fol m u v ∧ A u ∧ ¬ A v ∧ legOf u v ∈ x := by
  obtain ⟨a, r, rfl, hfa, hp⟩ := hx
  by_cases hA : A (2 + 2 * a)
  · exact path_leaves h1 hf hl hp hin hA
  · have ham := hp.1
    exact ⟨0, 2 + 2 * a, by omega, by omega, ⟨a, ham, hin a (by simp), .inr (.inl ⟨hb a hfa, rfl, rfl⟩)⟩, h0, hA, by
      have : legOf 0 (2 + 2 * a) = a := by unfold legOf; rw [if_pos rfl]; omega
      rw [this]; simp⟩
end

section
variable {c : Int} {L : List Leg} {src dst at_ by_ : Int}
theorem goes_leaves {A : Nat → Prop} (h0 : A 0) (h1 : ¬ A 1) {x : List Nat} (hx : Jn L.length (folL c L) (fun i => begB src at_ (leg L i)) (fun i => lastB dst by_ (leg L i)) x) :
    ∃ u v, u < 2 * L.length + 2 ∧ v < 2 * L.length + 2 ∧ ArcsOf c L src dst at_ by_ (InJ c L src dst at_ by_) L.length u v ∧ A u ∧ ¬ A v ∧ legOf u v ∈ x :=
  jn_leaves h0 h1 (fun _ _ h => h) (fun _ h => h) (fun _ h => h) hx (fun _ hk => jn_mem hx hk)
/-- The greatest flow, beside its set. -/
theorem most_cut {C : Nat → Nat → Int} {k : Int} (h : MostOf (2 * L.length + 2) C k) :
    ∃ (g : Nat → Nat → Int) (A : Nat → Prop), NetFlow (2 * L.length + 2) g k ∧ A 0 ∧ ¬ A 1 ∧ (∀ u v, u < 2 * L.length + 2 → v < 2 * L.length + 2 → A u → ¬ A v → g u v = C u v) ∧ ∀ u v, g u v ≤ C u v := by
  obtain ⟨M, hM, A, h0, h1, hA⟩ := h
  refine ⟨fun u v => C u v - M u v, A, hM.net (by omega), h0, h1, fun u v hu hv hAu hAv => ?_, fun u v => by have := hM.nonneg u v; show C u v - M u v ≤ C u v; omega⟩
  have h1 := hA u v hu hv hAu hAv
  have := hM.nonneg u v
  simp only at h1
  show C u v - M u v = C u v
  omega
theorem apart_pos {C : Nat → Nat → Int} {k : Int} (hC : IsCap (ArcsOf c L src dst at_ by_ (InJ c L src dst at_ by_) L.length) C) (h : MostOf (2 * L.length + 2) C k) (hg : Goes c L src dst at_ by_) : 1 ≤ k := by
  obtain ⟨g, A, hN, h0, h1, hA, _⟩ := most_cut h
  obtain ⟨x, hx⟩ := hg
  obtain ⟨u, v, hu, hv, ha, hAu, hAv, _⟩ := goes_leaves h0 h1 hx
  have e : C u v = 1 := by rw [hC u v, if_pos ha]
  by_cases hk : 1 ≤ k
  · exact hk
  · have := flow_none hN h0 h1 (fun u v hu hv hAu hAv => by rw [hA u v hu hv hAu hAv]; exact (hC.nonneg u v).1) (by omega) hu hv hAu hAv
    rw [hA u v hu hv hAu hAv, e] at this
    omega
theorem apart_one {C : Nat → Nat → Int} {k : Int} (hC : IsCap (ArcsOf c L src dst at_ by_ (InJ c L src dst at_ by_) L.length) C) (h : MostOf (2 * L.length + 2) C k) (hg : Goes c L src dst at_ by_) (hk : k = 1) : ∃ d, d < L.length ∧ ¬ GoesBut c L src dst at_ by_ d := by
  obtain ⟨g, A, hN, h0, h1, hA, _⟩ := most_cut h
  obtain ⟨x, hx⟩ := hg
  obtain ⟨u, v, hu, hv, ha, hAu, hAv, hm⟩ := goes_leaves h0 h1 hx
  have hpos : ∀ u v, u < 2 * L.length + 2 → v < 2 * L.length + 2 → A u → ¬ A v → 0 ≤ g u v := fun u v hu hv hAu hAv => by rw [hA u v hu hv hAu hAv]; exact (hC.nonneg u v).1
  have one : ∀ u v, u < 2 * L.length + 2 → v < 2 * L.length + 2 → ArcsOf c L src dst at_ by_ (InJ c L src dst at_ by_) L.length u v → A u → ¬ A v → 0 < g u v := fun u v hu hv ha hAu hAv => by rw [hA u v hu hv hAu hAv, hC u v, if_pos ha]; decide
  refine ⟨legOf u v, ?_, ?_⟩
  · obtain ⟨j, hj, e⟩ := List.getElem_of_mem hm
    have := (jn_iff.1 hx).2.2.1 j hj
    rw [List.getD_eq_getElem?_getD, List.getElem?_eq_getElem hj] at this
    simpa [e] using this
  · rintro ⟨y, hy, hn⟩
    obtain ⟨u', v', hu', hv', ha', hAu', hAv', hm'⟩ := goes_leaves h0 h1 hy
    obtain ⟨rfl, rfl⟩ := flow_uniq hN h0 h1 hpos (by omega) hu hv hAu hAv (one u v hu hv ha hAu hAv) hu' hv' hAu' hAv' (one u' v' hu' hv' ha' hAu' hAv')
    exact hn hm'
/-- What can be come to without a leg. -/
def ComeBut (c : Int) (L : List Leg) (src at_ : Int) (d i : Nat) : Prop := i ≠ d ∧ ∃ y, Jn L.length (folL c L) (fun i => begB src at_ (leg L i)) (fun k => k == i) y ∧ d ∉ y
theorem apart_need {C : Nat → Nat → Int} {k : Int} (hC : IsCap (ArcsOf c L src dst at_ by_ (InJ c L src dst at_ by_) L.length) C) (h : MostOf (2 * L.length + 2) C k) {d : Nat} (hd : d < L.length) (hn : ¬ GoesBut c L src dst at_ by_ d) : k ≤ 1 := by
  obtain ⟨g, _, hN, _, _, _, hle⟩ := most_cut h
  refine flow_one hN (R := fun u => u = 0 ∨ ∃ i, (u = 2 + 2 * i ∧ (i = d ∨ ComeBut c L src at_ d i)) ∨ (u = 3 + 2 * i ∧ ComeBut c L src at_ d i)) (.inl rfl) ?_ (a := 2 + 2 * d) (b := 3 + 2 * d) (by omega) (by omega) (fun u v hu hv hAu hAv => ?_)
  · rintro (h | ⟨i, ⟨h, _⟩ | ⟨h, _⟩⟩) <;> omega
  · have hg := hle u v
    have hCuv := hC u v
    by_cases ha : ArcsOf c L src dst at_ by_ (InJ c L src dst at_ by_) L.length u v
    · rw [if_pos ha] at hCuv
      obtain ⟨i, hi, hin, h1 | ⟨h1, h2, h3⟩ | ⟨h1, h2, h3⟩ | ⟨l, hl, hlin, h1, h2, h3⟩⟩ := ha
      · obtain ⟨rfl, rfl⟩ := h1
        rcases hAu with h | ⟨i', ⟨h, h'⟩ | ⟨h, h'⟩⟩
        · omega
        · obtain rfl : i' = i := by omega
          rcases h' with rfl | h'
          · exact .inl ⟨rfl, rfl, by omega⟩
          · exact (hAv (.inr ⟨i', .inr ⟨rfl, h'⟩⟩)).elim
        · omega
      · subst h2 h3
        by_cases e : i = d
        · exact (hAv (.inr ⟨i, .inl ⟨rfl, .inl e⟩⟩)).elim
        · exact (hAv (.inr ⟨i, .inl ⟨rfl, .inr ⟨e, [i], ⟨i, [], rfl, h1, .one hi (by simp)⟩, by simpa using fun h => e h.symm⟩⟩⟩)).elim
      · subst h2 h3
        rcases hAu with h | ⟨i', ⟨h, _⟩ | ⟨h, h'⟩⟩
        · omega
        · omega
        · obtain rfl : i' = i := by omega
          obtain ⟨_, y, hy, hdy⟩ := h'
          refine (hn ⟨y, ?_, hdy⟩).elim
          exact hy.mono (fun _ _ h => h) (fun k _ hk => by simp only [beq_iff_eq] at hk; subst hk; exact h1)
      · subst h2 h3
        rcases hAu with h | ⟨i', ⟨h, _⟩ | ⟨h, h'⟩⟩
        · omega
        · omega
        · obtain rfl : i' = i := by omega
          obtain ⟨_, y, hy, hdy⟩ := h'
          by_cases e : l = d
          · exact (hAv (.inr ⟨l, .inl ⟨rfl, .inl e⟩⟩)).elim
          · exact (hAv (.inr ⟨l, .inl ⟨rfl, .inr ⟨e, y ++ [l], hy.snoc hl h1, by simp [hdy]; exact fun h => e h.symm⟩⟩⟩)).elim
    · rw [if_neg ha] at hCuv
      exact .inr (by omega)
end

/-! Needed, Apart and Earliest together. -/
theorem menger_err {n : Int} {L : List Leg} {c src dst at_ by_ : Int} {R : List Nat} {e : Int} {k : Nat} {f : Int} (h : NeedOf n L c src dst at_ by_ R e) (h' : ApartOf n L c src dst at_ by_ k f) : e = f ∧ (e ≠ 0 → R = [] ∧ k = 0) := by
  rcases h with ⟨h1, rfl, rfl⟩ | ⟨h1, h2, rfl, rfl⟩ | ⟨h1, h2, h3, rfl, rfl⟩ | ⟨h1, h2, h3, h4, rfl⟩ <;> rcases h' with ⟨g1, rfl, rfl⟩ | ⟨g1, g2, rfl, rfl⟩ | ⟨g1, g2, g3, rfl, rfl⟩ | ⟨g1, g2, g3, rfl, g4⟩
  all_goals first
    | exact ⟨rfl, fun _ => ⟨rfl, rfl⟩⟩
    | exact ⟨rfl, fun h => (h rfl).elim⟩
    | exact (h1 g1).elim
    | exact (g1 h1).elim
    | exact (h2 g2).elim
    | exact (g2 h2).elim
    | exact (h3 g3).elim
    | exact (g3 h3).elim
structure Menger (n : Int) (L : List Leg) (c src dst at_ by_ : Int) (R : List Nat) (k : Nat) : Prop where
  good : Good n L c src dst [at_, by_]
  goes : Goes c L src dst at_ by_
  need : NeedIn c L src dst at_ by_ L.length R
  pos : 1 ≤ k
  one : k = 1 ↔ 0 < R.length
theorem menger_ok {n : Int} {L : List Leg} {c src dst at_ by_ : Int} {R : List Nat} {e : Int} {k : Nat} {f : Int} (h : NeedOf n L c src dst at_ by_ R e) (h' : ApartOf n L c src dst at_ by_ k f) (hne : src ≠ dst) (he : e = 0) : Menger n L c src dst at_ by_ R k := by
  rcases h with ⟨h1, rfl, rfl⟩ | ⟨h1, h2, _⟩ | ⟨h1, h2, h3, _, h4⟩ | ⟨h1, h2, h3, h4, _⟩
  · exact (h1 he).elim
  · exact (hne h2).elim
  · omega
  · rcases h' with ⟨g1, _⟩ | ⟨_, g2, _⟩ | ⟨_, _, g3, _⟩ | ⟨_, _, _, _, C, hC, hM⟩
    · exact (g1 h1).elim
    · exact (hne g2).elim
    · exact (g3 h3).elim
    · have hp := apart_pos hC hM h3
      refine ⟨good_iff.1 h1, h3, h4, by omega, fun hk => ?_, fun hR => ?_⟩
      · obtain ⟨d, hd, hn⟩ := apart_one hC hM h3 (by omega)
        exact List.length_pos_of_mem ((h4.2 d).2 ⟨hd, hn⟩)
      · cases R with
        | nil => simp at hR
        | cons d r =>
          have := (h4.2 d).1 (by simp)
          have := apart_need hC hM this.1 this.2
          omega
theorem good_at {n : Int} {L : List Leg} {c src dst a b : Int} (h : Good n L c src dst [a, b]) : Good n L c src dst [a] := by
  have := good_two h
  refine ⟨h.n, h.len, h.fine, h.change, h.src, h.dst, fun k hk => ?_⟩
  have : k = 0 := by simp at hk; omega
  subst this; simp [ith]; omega
/-- Earliest comes in time, and by every leg that is needed. -/
theorem menger_early {n : Int} {L : List Leg} {c src dst at_ by_ : Int} {R : List Nat} {k : Nat} {a : Int} {xs : List Nat} {e : Int} (h : Menger n L c src dst at_ by_ R k) (hne : src ≠ dst) (h' : EarlyOf n L c src dst at_ a xs e) : e = 0 ∧ a ≤ by_ ∧ ∀ d ∈ R, d ∈ xs := by
  obtain ⟨x, hx⟩ := h.goes
  obtain ⟨hl, hend, hc⟩ := jn_last hx
  simp only [lastB, decide_eq_true_eq] at hend
  have hg := good_iff.2 (good_at h.good)
  rcases h' with ⟨h1, _⟩ | ⟨_, h1, _⟩ | ⟨_, _, _, _, _, h1⟩ | ⟨_, _, h1, h2, h3, h4⟩
  · exact (h1 hg).elim
  · exact (hne h1).elim
  · rcases h1 with ⟨_, h1⟩ | ⟨h1, _⟩
    · exact (h1 _ hl ⟨⟨x, hc⟩, hend.1⟩).elim
    · omega
  · rcases h3 with ⟨h3, _⟩ | ⟨_, _, h3⟩
    · omega
    · have := h3 _ hl ⟨x, hc⟩ hend.1
      refine ⟨h1, by omega, fun d hd => ?_⟩
      have hn := ((h.need.2 d).1 hd).2
      by_cases hm : d ∈ xs
      · exact hm
      · refine (hn ⟨xs, ?_, hm⟩).elim
        exact h4.1.mono (fun _ _ h => h) (fun i _ hi => by simp [endB] at hi; simp [lastB, hi]; omega)
/-- Without a leg that is needed one does not come in time. -/
theorem menger_rest {n : Int} {L : List Leg} {c src dst at_ by_ : Int} {R : List Nat} {k : Nat} {b : Int} {ys : List Nat} {f : Int} {d : Nat} (h : Menger n L c src dst at_ by_ R k) (hne : src ≠ dst) (hd : d ∈ R) (h' : EarlyOf n (L.eraseIdx d) c src dst at_ b ys f) : (f = 0 ∧ by_ < b) ∨ f = 10 := by
  obtain ⟨hdl, hn⟩ := (h.need.2 d).1 hd
  have hgd : Good n (L.eraseIdx d) c src dst [at_] := by
    have h0 := good_at h.good
    refine ⟨h0.n, by rw [erase_len hdl]; have := h0.len; omega, fun i hi => ?_, h0.change, h0.src, h0.dst, h0.times⟩
    rw [leg_up]
    refine h0.fine _ ?_
    rw [erase_len hdl] at hi
    unfold upTo
    split <;> omega
  have hg := good_iff.2 hgd
  rcases h' with ⟨h1, _⟩ | ⟨_, h1, _⟩ | ⟨_, _, _, _, h1, _⟩ | ⟨_, _, h1, h2, h3, h4⟩
  · exact (h1 hg).elim
  · exact (hne h1).elim
  · exact .inr h1
  · refine .inl ⟨h1, ?_⟩
    by_cases hb : b ≤ by_
    · refine (hn ((goes_erase hdl).1 ⟨ys, h4.1.mono (fun _ _ h => h) (fun i _ hi => by simp [endB] at hi; simp [lastB, hi]; omega)⟩)).elim
    · omega
end Go.Proofs.Ytmmjjfjbhogfgaa

/- The specification's flow, and that it is as great as the program's: plain law. -/
namespace Go.Proofs.Ytmmjjfjbhogfgaa

def thr (u v : Nat) : Prop := 2 ≤ u ∧ u % 2 = 0 ∧ v = u + 1
/-- Is there room from a place to another one? -/
def Room (A : Nat → Nat → Prop) (B : Nat → Nat → Int) (u v : Nat) : Prop := (A u v ∧ (¬ thr u v ∨ B u v = 0)) ∨ 0 < B v u
structure FlowedS (n : Nat) (A : Nat → Nat → Prop) (B : Nat → Nat → Int) (k : Int) : Prop where
  nonneg : ∀ u v, 0 ≤ B u v
  top : ∀ u v, B u v ≤ k
  arc : ∀ u v, 0 < B u v → A u v
  one : ∀ u v, thr u v → B u v ≤ 1
  part : ∀ u, u < n → u ≠ 1 → sumN (fun v => B u v - B v u) n = if u = 0 then k else 0
theorem FlowedS.start (n : Nat) (A : Nat → Nat → Prop) : FlowedS n A (fun _ _ => 0) 0 :=
  ⟨fun _ _ => Int.le_refl _, fun _ _ => Int.le_refl _, fun _ _ h => by omega, fun _ _ _ => by omega, fun u _ _ => by
    rw [sumN_zero (f := fun _ => (0 : Int) - 0) (fun v _ => rfl)]
    split <;> rfl⟩
theorem FlowedS.net {n : Nat} {A : Nat → Nat → Prop} {B : Nat → Nat → Int} {k : Int} (hn : 2 ≤ n) (h : FlowedS n A B k) : NetFlow n (fun u v => B u v - B v u) k :=
  ⟨hn, fun u v => by omega, fun u hu h0 h1 => by rw [h.part u hu h1, if_neg h0], by rw [h.part 0 (by omega) (by omega), if_pos rfl]⟩
/-- While one more is let through from x to 1. -/
structure AugS (n : Nat) (A : Nat → Nat → Prop) (B0 : Nat → Nat → Int) (rk : Nat → Nat) (k : Int) (x : Nat) (B : Nat → Nat → Int) : Prop where
  same : ∀ u v, rk u ≤ rk x → rk v ≤ rk x → B u v = B0 u v
  nonneg : ∀ u v, 0 ≤ B u v
  top : ∀ u v, B u v ≤ k + 1
  top0 : ∀ u v, B0 u v ≤ k
  arc : ∀ u v, 0 < B u v → A u v
  one : ∀ u v, thr u v → B u v ≤ 1
  part : ∀ u, u < n → u ≠ 1 → sumN (fun v => (B u v - B v u) - (B0 u v - B0 v u)) n = if u = x then 1 else 0
theorem AugS.start {n : Nat} {A : Nat → Nat → Prop} {B : Nat → Nat → Int} {k : Int} (rk : Nat → Nat) (h : FlowedS n A B k) : AugS n A B rk k 1 B :=
  ⟨fun _ _ _ _ => rfl, h.nonneg, fun u v => by have := h.top u v; omega, h.top, h.arc, h.one, fun u _ h1 => by rw [if_neg h1]; exact sumN_zero (fun v _ => by omega)⟩
theorem bump_part {n x p : Nat} {B B' B0 : Nat → Nat → Int} (hx : x < n) (hp : p < n) (hne : p ≠ x)
    (hB : ∀ u v, B' u v - B' v u = (B u v - B v u) + (if u = p ∧ v = x then 1 else 0) - (if u = x ∧ v = p then 1 else 0))
    (h : ∀ u, u < n → u ≠ 1 → sumN (fun v => (B u v - B v u) - (B0 u v - B0 v u)) n = if u = x then 1 else 0) :
    ∀ u, u < n → u ≠ 1 → sumN (fun v => (B' u v - B' v u) - (B0 u v - B0 v u)) n = if u = p then 1 else 0 := by
  intro u hu h1
  have hs := h u hu h1
  by_cases eu : u = p
  · subst eu
    rw [if_neg hne] at hs
    rw [if_pos rfl, sumN_bump (f := fun v => (B u v - B v u) - (B0 u v - B0 v u)) (j := x) (u := 1) hx (fun v _ => ?_), hs]
    · rfl
    · rw [hB, if_neg (show ¬ (u = x ∧ v = u) from fun e => hne e.1)]
      by_cases ev : v = x
      · rw [if_pos ⟨rfl, ev⟩, if_pos ev]; omega
      · rw [if_neg (fun e => ev e.2), if_neg ev]; omega
  · rw [if_neg eu]
    by_cases ex : u = x
    · subst ex
      rw [if_pos rfl] at hs
      rw [sumN_bump (f := fun v => (B u v - B v u) - (B0 u v - B0 v u)) (j := p) (u := -1) hp (fun v _ => ?_), hs]
      · rfl
      · rw [hB, if_neg (show ¬ (u = p ∧ v = u) from fun e => eu e.1)]
        by_cases ev : v = p
        · rw [if_pos ⟨rfl, ev⟩, if_pos ev]; omega
        · rw [if_neg (fun e => ev e.2), if_neg ev]; omega
    · rw [if_neg ex] at hs
      rw [← hs]
      refine sumN_congr (fun v _ => ?_)
      rw [hB, if_neg (fun e => eu e.1), if_neg (fun e => ex e.1)]
      omega
theorem AugS.back {n : Nat} {A : Nat → Nat → Prop} {B0 : Nat → Nat → Int} {rk : Nat → Nat} {k : Int} {x p : Nat} {B : Nat → Nat → Int} (h : AugS n A B0 rk k x B) (hx : x < n) (hp : p < n) (hr : rk p < rk x) (hB : 0 < B x p) :
    AugS n A B0 rk k p (fun a b => if a = x ∧ b = p then B x p - 1 else B a b) := by
  have hne : p ≠ x := by rintro rfl; omega
  refine ⟨fun u v hu hv => ?_, fun u v => ?_, fun u v => ?_, h.top0, fun u v hp => ?_, fun u v ht => ?_, bump_part hx hp hne (fun u v => ?_) h.part⟩
  · rw [if_neg (by rintro ⟨rfl, rfl⟩; omega)]
    exact h.same u v (by omega) (by omega)
  · have := h.nonneg u v
    split <;> omega
  · have := h.top u v
    split
    · rename_i e; obtain ⟨rfl, rfl⟩ := e; omega
    · exact this
  · split at hp
    · rename_i e; obtain ⟨rfl, rfl⟩ := e; exact h.arc _ _ hB
    · exact h.arc u v hp
  · have := h.one u v ht
    split
    · rename_i e; obtain ⟨rfl, rfl⟩ := e; omega
    · exact this
  · by_cases e1 : u = x ∧ v = p
    · obtain ⟨rfl, rfl⟩ := e1
      rw [if_pos ⟨rfl, rfl⟩, if_neg (fun e => hne e.1), if_neg (fun e => hne e.2), if_pos ⟨rfl, rfl⟩]
      omega
    · by_cases e2 : u = p ∧ v = x
      · obtain ⟨rfl, rfl⟩ := e2
        rw [if_neg e1, if_pos ⟨rfl, rfl⟩, if_pos ⟨rfl, rfl⟩, if_neg e1]
        omega
      · rw [if_neg e1, if_neg (fun e => e2 ⟨e.2, e.1⟩), if_neg e2, if_neg e1]
        omega
theorem AugS.on {n : Nat} {A : Nat → Nat → Prop} {B0 : Nat → Nat → Int} {rk : Nat → Nat} {k : Int} {x p : Nat} {B : Nat → Nat → Int} (h : AugS n A B0 rk k x B) (hx : x < n) (hp : p < n) (hr : rk p < rk x) (hB : ¬ 0 < B x p) (hR : Room A B0 p x) :
    AugS n A B0 rk k p (fun a b => if a = p ∧ b = x then B p x + 1 else B a b) := by
  have hne : p ≠ x := by rintro rfl; omega
  have e0 := h.same p x (by omega) (Nat.le_refl _)
  have e1 := h.same x p (Nat.le_refl _) (by omega)
  have hA : A p x ∧ (¬ thr p x ∨ B0 p x = 0) := by
    rcases hR with hR | hR
    · exact hR
    · rw [← e1] at hR; exact (hB hR).elim
  refine ⟨fun u v hu hv => ?_, fun u v => ?_, fun u v => ?_, h.top0, fun u v hq => ?_, fun u v ht => ?_, bump_part hx hp hne (fun u v => ?_) h.part⟩
  · rw [if_neg (by rintro ⟨rfl, rfl⟩; omega)]
    exact h.same u v (by omega) (by omega)
  · have := h.nonneg u v
    have := h.nonneg p x
    split <;> omega
  · have := h.top u v
    have := h.top0 p x
    split
    · omega
    · omega
  · split at hq
    · rename_i e; obtain ⟨rfl, rfl⟩ := e; exact hA.1
    · exact h.arc u v hq
  · have := h.one u v ht
    split
    · rename_i e; obtain ⟨rfl, rfl⟩ := e
      rcases hA.2 with h2 | h2
      · exact (h2 ht).elim
      · omega
    · exact this
  · by_cases e2 : u = p ∧ v = x
    · obtain ⟨rfl, rfl⟩ := e2
      rw [if_pos ⟨rfl, rfl⟩, if_neg (fun e => hne e.2), if_pos ⟨rfl, rfl⟩, if_neg (fun e => hne e.1)]
      omega
    · by_cases e3 : u = x ∧ v = p
      · obtain ⟨rfl, rfl⟩ := e3
        rw [if_neg e2, if_pos ⟨rfl, rfl⟩, if_neg e2, if_pos ⟨rfl, rfl⟩]
        omega
      · rw [if_neg e2, if_neg (fun e => e3 ⟨e.2, e.1⟩), if_neg e2, if_neg e3]
        omega
theorem FlowedS.push {n : Nat} {A : Nat → Nat → Prop} {B B' : Nat → Nat → Int} {rk : Nat → Nat} {k : Int} (h : FlowedS n A B k) (h' : AugS n A B rk k 0 B') : FlowedS n A B' (k + 1) := by
  refine ⟨h'.nonneg, h'.top, h'.arc, h'.one, fun u hu h1 => ?_⟩
  have e := h.part u hu h1
  have e' := h'.part u hu h1
  rw [sumN_sub] at e'
  split <;> rename_i h0
  · rw [if_pos h0] at e e'; omega
  · rw [if_neg h0] at e e'; omega
def MostOfS (n : Nat) (A : Nat → Nat → Prop) (k : Int) : Prop := ∃ B, FlowedS n A B k ∧ Stuck n (Room A B)

theorem sumN_two {f : Nat → Int} {a b n : Nat} (ha : a < n) (hb : b < n) (hne : a ≠ b) (h : ∀ i, i < n → i ≠ a → 0 ≤ f i) : f a + f b ≤ sumN f n := by
  have e := sumN_bump (f := fun i => if i = a then 0 else f i) (g := f) (j := a) (u := f a) ha (fun i _ => by
    split
    · rename_i e; subst e; omega
    · rfl)
  have h2 := sumN_ge (f := fun i => if i = a then 0 else f i) hb (fun i hi => by
    split
    · exact Int.le_refl _
    · rename_i e; exact h i hi e)
  simp only [if_neg hne.symm] at h2
  omega

section
variable {m : Nat} {beg last : Nat → Prop} {fol : Nat → Nat → Prop}
/-- All legs' arcs. -/
abbrev AllArcs (m : Nat) (beg last : Nat → Prop) (fol : Nat → Nat → Prop) (u v : Nat) : Prop := Arcs m (fun _ => True) beg last fol m u v
theorem arc_out {i v : Nat} (h : AllArcs m beg last fol v (3 + 2 * i)) : v = 2 + 2 * i := by
  obtain ⟨j, _, _, ⟨h1, h2⟩ | ⟨_, h1, h2⟩ | ⟨_, h1, h2⟩ | ⟨l, _, _, _, h1, h2⟩⟩ := h <;> omega
theorem arc_in {i v : Nat} (h : AllArcs m beg last fol (2 + 2 * i) v) : v = 3 + 2 * i := by
  obtain ⟨j, _, _, ⟨h1, h2⟩ | ⟨_, h1, h2⟩ | ⟨_, h1, h2⟩ | ⟨l, _, _, _, h1, h2⟩⟩ := h <;> omega
theorem flow_in {B : Nat → Nat → Int} {k : Int} (h : FlowedS (2 * m + 2) (AllArcs m beg last fol) B k) (i : Nat) : B (2 + 2 * i) (3 + 2 * i) - B (3 + 2 * i) (2 + 2 * i) ≤ 1 := by
  have h1 := h.one (2 + 2 * i) (3 + 2 * i) ⟨by omega, by omega, by omega⟩
  have h2 := h.nonneg (3 + 2 * i) (2 + 2 * i)
  omega
/-- Out of a leg goes no more than through it. -/
theorem flow_out {B : Nat → Nat → Int} {k : Int} (h : FlowedS (2 * m + 2) (AllArcs m beg last fol) B k) {i v : Nat} (hi : i < m) (hv : v < 2 * m + 2) (hne : v ≠ 2 + 2 * i) : B (3 + 2 * i) v - B v (3 + 2 * i) ≤ 1 := by
  have hs := h.part (3 + 2 * i) (by omega) (by omega)
  rw [if_neg (by omega)] at hs
  have h2 := sumN_two (f := fun v => B (3 + 2 * i) v - B v (3 + 2 * i)) (a := 2 + 2 * i) (b := v) (n := 2 * m + 2) (by omega) hv (fun e => hne e.symm) (fun w hw hwn => by
    have h3 := h.nonneg (3 + 2 * i) w
    have h4 := h.nonneg w (3 + 2 * i)
    have h5 : ¬ 0 < B w (3 + 2 * i) := fun hp => hwn (arc_out (h.arc _ _ hp))
    show 0 ≤ B (3 + 2 * i) w - B w (3 + 2 * i)
    omega)
  have h6 := flow_in h i
  change B (3 + 2 * i) (2 + 2 * i) - B (2 + 2 * i) (3 + 2 * i) + (B (3 + 2 * i) v - B v (3 + 2 * i)) ≤ _ at h2
  omega
theorem flow_first {B : Nat → Nat → Int} {k : Int} (h : FlowedS (2 * m + 2) (AllArcs m beg last fol) B k) {i : Nat} (hi : i < m) : B 0 (2 + 2 * i) - B (2 + 2 * i) 0 ≤ 1 := by
  have hs := h.part (2 + 2 * i) (by omega) (by omega)
  rw [if_neg (by omega)] at hs
  have e : sumN (fun v => - (B (2 + 2 * i) v - B v (2 + 2 * i))) (2 * m + 2) = 0 := by rw [sumN_neg, hs]; rfl
  have h2 := sumN_two (f := fun v => - (B (2 + 2 * i) v - B v (2 + 2 * i))) (a := 3 + 2 * i) (b := 0) (n := 2 * m + 2) (by omega) (by omega) (by omega) (fun w hw hwn => by
    have h3 := h.nonneg (2 + 2 * i) w
    have h4 := h.nonneg w (2 + 2 * i)
    have h5 : ¬ 0 < B (2 + 2 * i) w := fun hp => hwn (arc_in (h.arc _ _ hp))
    show 0 ≤ - (B (2 + 2 * i) w - B w (2 + 2 * i))
    omega)
  have h6 := flow_in h i
  change - (B (2 + 2 * i) (3 + 2 * i) - B (3 + 2 * i) (2 + 2 * i)) + - (B (2 + 2 * i) 0 - B 0 (2 + 2 * i)) ≤ _ at h2
  omega
open Classical in
/-- No more goes through than there are places. -/
theorem flow_count {B : Nat → Nat → Int} {k : Int} (h : FlowedS (2 * m + 2) (AllArcs m beg last fol) B k) : k ≤ 2 * m + 2 := by
  have hN := h.net (by omega)
  have hc := hN.cross (R := fun u => u = 0 ∨ (2 ≤ u ∧ u % 2 = 0)) (.inl rfl) (by omega)
  rw [← hc]
  have h1 : sumN (fun _ => (1 : Int)) (2 * m + 2) = 2 * m + 2 := by
    have key : ∀ n : Nat, sumN (fun _ => (1 : Int)) n = n := by
      intro n
      induction n with
      | zero => rfl
      | succ n ih => unfold sumN; rw [ih]; omega
    rw [key]; omega
  rw [← h1]
  unfold cross
  refine sumN_le (fun u hu => ?_)
  have h2 : sumN (fun v => if v = u + 1 then (1 : Int) else 0) (2 * m + 2) ≤ 1 := by
    by_cases e : u + 1 < 2 * m + 2
    · rw [sumN_one e (fun i _ hne => if_neg hne), if_pos rfl]
      exact Int.le_refl _
    · rw [sumN_zero (fun i hi => if_neg (by omega))]
      omega
  refine Int.le_trans (sumN_le (fun v hv => ?_)) h2
  by_cases c : (u = 0 ∨ (2 ≤ u ∧ u % 2 = 0)) ∧ ¬ (v = 0 ∨ (2 ≤ v ∧ v % 2 = 0))
  · rw [if_pos c]
    show B u v - B v u ≤ _
    have h3 := h.nonneg u v
    have h4 := h.nonneg v u
    by_cases hp : 0 < B u v
    · obtain ⟨j, _, _, ⟨g1, g2⟩ | ⟨_, g1, g2⟩ | ⟨_, g1, g2⟩ | ⟨l, _, _, _, g1, g2⟩⟩ := h.arc u v hp
      · subst g1 g2
        rw [if_pos (by omega)]
        have := h.one (2 + 2 * j) (3 + 2 * j) ⟨by omega, by omega, by omega⟩
        omega
      · omega
      · omega
      · omega
    · split <;> omega
  · rw [if_neg c]
    split <;> omega
end

section
variable {c : Int} {L : List Leg} {src dst at_ by_ : Int}
abbrev ArcsAll (c : Int) (L : List Leg) (src dst at_ by_ : Int) (u v : Nat) : Prop := AllArcs L.length (fun i => begB src at_ (leg L i) = true) (fun i => lastB dst by_ (leg L i) = true) (fun i j => folL c L i j = true) u v
theorem arcs_all {u v : Nat} (h : ArcsOf c L src dst at_ by_ (InJ c L src dst at_ by_) L.length u v) : ArcsAll c L src dst at_ by_ u v := by
  obtain ⟨i, hi, _, h1⟩ := h
  refine ⟨i, hi, trivial, ?_⟩
  rcases h1 with h1 | h1 | h1 | ⟨l, hl, _, h1⟩
  · exact .inl h1
  · exact .inr (.inl h1)
  · exact .inr (.inr (.inl h1))
  · exact .inr (.inr (.inr ⟨l, hl, trivial, h1⟩))
theorem come_step {i j : Nat} (h : ComeTo c L (fun i => begB src at_ (leg L i)) i) (hj : j < L.length) (hf : folL c L i j = true) : ComeTo c L (fun i => begB src at_ (leg L i)) j := by
  obtain ⟨y, hy⟩ := h
  exact ⟨y ++ [j], hy.snoc hj hf⟩
theorem goes_step {i j : Nat} (h : GoesTo c L (fun i => lastB dst by_ (leg L i)) j) (hi : i < L.length) (hf : folL c L i j = true) : GoesTo c L (fun i => lastB dst by_ (leg L i)) i := by
  obtain ⟨y, hy⟩ := h
  exact ⟨j :: y, .cons hi hf hy⟩
/-- The two greatest flows are the same. -/
theorem most_same {C : Nat → Nat → Int} {k k' : Int} (hself : ∀ i, i < L.length → ¬ folL c L i i = true) (hC : IsCap (ArcsOf c L src dst at_ by_ (InJ c L src dst at_ by_) L.length) C) (h : MostOf (2 * L.length + 2) C k) (h' : MostOfS (2 * L.length + 2) (ArcsAll c L src dst at_ by_) k') : k = k' := by
  obtain ⟨g, Rp, hN, h0, h1, hA, hle⟩ := most_cut h
  obtain ⟨B, hB, Rs, s0, s1, hS⟩ := h'
  have hNs := hB.net (by omega)
  have le1 : k ≤ k' := by
    refine flow_le hN hNs (R := Rs) (R' := Rs) s0 s1 s0 s1 (fun u v hu hv hRu hRv => ?_) (fun u v hu hv hRu hRv => ?_)
    · have hr := hS u v hu hv hRu hRv
      have hg := hle u v
      have hCuv := hC u v
      by_cases ha : ArcsOf c L src dst at_ by_ (InJ c L src dst at_ by_) L.length u v
      · rw [if_pos ha] at hCuv
        refine .inl ⟨hRu, hRv, ?_⟩
        unfold Room at hr
        rw [not_or, not_and, not_or] at hr
        have h2 := hr.1 (arcs_all ha)
        have := hB.nonneg u v
        have := hB.nonneg v u
        show g u v ≤ B u v - B v u
        omega
      · rw [if_neg ha] at hCuv
        exact .inr (by omega)
    · have hr := hS u v hu hv hRu hRv
      unfold Room at hr
      rw [not_or] at hr
      have := hB.nonneg u v
      show 0 ≤ B u v - B v u
      omega
  have le2 : k' ≤ k := by
    refine flow_le hNs hN (R := fun u => u = 0 ∨ ∃ i, (u = 2 + 2 * i ∨ u = 3 + 2 * i) ∧ ComeTo c L (fun i => begB src at_ (leg L i)) i ∧ ((InJ c L src dst at_ by_ i ∧ Rp u) ∨ ¬ InJ c L src dst at_ by_ i)) (R' := Rp) (.inl rfl) ?_ h0 h1 (fun u v hu hv hRu hRv => ?_) (fun u v hu hv hRu hRv => ?_)
    · rintro (h | ⟨i, h | h, _⟩) <;> omega
    · by_cases ha : ArcsAll c L src dst at_ by_ u v
      · have hv' : ∀ i, (v = 2 + 2 * i ∨ v = 3 + 2 * i) → ComeTo c L (fun i => begB src at_ (leg L i)) i → InJ c L src dst at_ by_ i ∧ ¬ Rp v := fun i hvi hci => by
          by_cases hin : InJ c L src dst at_ by_ i
          · exact ⟨hin, fun hR => hRv (.inr ⟨i, hvi, hci, .inl ⟨hin, hR⟩⟩)⟩
          · exact (hRv (.inr ⟨i, hvi, hci, .inr hin⟩)).elim
        have done : Rp u → ¬ Rp v → ArcsOf c L src dst at_ by_ (InJ c L src dst at_ by_) L.length u v → B u v - B v u ≤ 1 → Rp u ∧ ¬ Rp v ∧ B u v - B v u ≤ g u v := fun r1 r2 r3 r4 => ⟨r1, r2, by rw [hA u v hu hv r1 r2, hC u v, if_pos r3]; exact r4⟩
        refine .inl ?_
        obtain ⟨i, hi, _, ⟨e1, e2⟩ | ⟨hb, e1, e2⟩ | ⟨hl, e1, e2⟩ | ⟨l, hl, _, hf, e1, e2⟩⟩ := ha
        · subst e1 e2
          rcases hRu with h | ⟨i', h, hci, hR⟩
          · omega
          · obtain rfl : i' = i := by omega
            obtain ⟨hin, hnv⟩ := hv' i' (.inr rfl) hci
            rcases hR with hR | hR
            · exact done hR.2 hnv ⟨i', hi, hin, .inl ⟨rfl, rfl⟩⟩ (flow_in hB i')
            · exact (hR hin).elim
        · subst e1 e2
          have hci : ComeTo c L (fun i => begB src at_ (leg L i)) i := ⟨[i], i, [], rfl, hb, .one hi (by simp)⟩
          obtain ⟨hin, hnv⟩ := hv' i (.inl rfl) hci
          exact done h0 hnv ⟨i, hi, hin, .inr (.inl ⟨hb, rfl, rfl⟩)⟩ (flow_first hB hi)
        · subst e1 e2
          rcases hRu with h | ⟨i', h, hci, hR⟩
          · omega
          · obtain rfl : i' = i := by omega
            have hin : InJ c L src dst at_ by_ i' := ⟨hci, [], .one hi hl⟩
            rcases hR with hR | hR
            · exact done hR.2 h1 ⟨i', hi, hin, .inr (.inr (.inl ⟨hl, rfl, rfl⟩))⟩ (flow_out hB hi hv (by omega))
            · exact (hR hin).elim
        · subst e1 e2
          rcases hRu with h | ⟨i', h, hci, hR⟩
          · omega
          · obtain rfl : i' = i := by omega
            obtain ⟨hin2, hnv⟩ := hv' l (.inl rfl) (come_step hci hl hf)
            have hin : InJ c L src dst at_ by_ i' := ⟨hci, goes_step hin2.2 hi hf⟩
            have hne : l ≠ i' := by
              rintro rfl
              exact hself l hl hf
            rcases hR with hR | hR
            · exact done hR.2 hnv ⟨i', hi, hin, .inr (.inr (.inr ⟨l, hl, hin2, hf, rfl, rfl⟩))⟩ (flow_out hB hi hv (by omega))
            · exact (hR hin).elim
      · refine .inr ?_
        have h2 := hB.nonneg v u
        have h3 : ¬ 0 < B u v := fun hp => ha (hB.arc u v hp)
        show B u v - B v u ≤ 0
        omega
    · rw [hA u v hu hv hRu hRv]
      exact (hC.nonneg u v).1
  omega
end
end Go.Proofs.Ytmmjjfjbhogfgaa
