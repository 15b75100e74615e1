/- Profile beside Earliest, Then of three profiles: plain law. -/
import Derived.Test.YtmmjjfjbhogfgaaProfA
import Derived.Test.YtmmjjfjbhogfgaaLatest
namespace Go.Proofs.Ytmmjjfjbhogfgaa

theorem goodE_nil {n : Int} {L : List Leg} {c src dst : Int} {ts : List Int} (h : goodE n L c src dst [] ≠ 0) : goodE n L c src dst ts = goodE n L c src dst [] ∧ goodE n L c src dst [] ≠ 10 := by
  unfold goodE at h ⊢
  have h0 : ¬ anyB ([] : List Int).length (fun k => badTime (ith [] k)) = true := by simp [anyB]
  by_cases h1 : n < 1 ∨ 8 < n
  · simp [h1]
  · by_cases h2 : 60 < L.length
    · simp [h1, h2]
    · by_cases h3 : badHead n L c src dst = true
      · simp [h1, h2, h3]
      · rw [if_neg h1, if_neg h2, if_neg h3, if_neg h0] at h
        exact (h rfl).elim
theorem goodE_times {n : Int} {L : List Leg} {c src dst : Int} {ts : List Int} (h : goodE n L c src dst [] = 0) : goodE n L c src dst ts = 0 ∨ goodE n L c src dst ts = 2 := by
  have hg := good_iff.1 h
  have h1 := hg.n
  have h2 := hg.len
  unfold goodE at h ⊢
  rw [if_neg (by omega), if_neg (by omega)] at h ⊢
  split
  · exact .inr rfl
  · split
    · exact .inr rfl
    · exact .inl rfl
theorem good_add {n : Int} {L : List Leg} {c src dst : Int} (h : Good n L c src dst []) {t : Int} (h0 : 0 ≤ t) (h1 : t ≤ 10000) : Good n L c src dst [t] := by
  refine ⟨h.n, h.len, h.fine, h.change, h.src, h.dst, fun k hk => ?_⟩
  have : k = 0 := by simp at hk; omega
  subst this; simp [ith]; omega
theorem first_err {n : Int} {L : List Leg} {c src dst at_ a e f : Int} {R : Stops} {xs : List Nat} (h : ProfOf n L c src dst R e) (h' : EarlyOf n L c src dst at_ a xs f) (he : e ≠ 0) : f ≠ 0 ∧ f ≠ 10 ∧ R = [] := by
  rcases h with ⟨h1, rfl, rfl⟩ | ⟨_, _, _, h⟩ | ⟨_, _, h, _⟩
  · obtain ⟨g1, g2⟩ := goodE_nil (ts := [at_]) h1
    rcases h' with ⟨_, _, _, rfl⟩ | ⟨h, _⟩ | ⟨h, _⟩ | ⟨h, _⟩
    · exact ⟨by rw [g1]; exact h1, by rw [g1]; exact g2, rfl⟩
    · rw [g1] at h; exact (h1 h).elim
    · rw [g1] at h; exact (h1 h).elim
    · rw [g1] at h; exact (h1 h).elim
  · exact (he h).elim
  · exact (he h).elim
theorem prof_ok {n : Int} {L : List Leg} {c src dst e : Int} {R : Stops} (h : ProfOf n L c src dst R e) (he : e = 0) (hn : src ≠ dst) : Good n L c src dst [] ∧ ProfIs c L src dst R := by
  rcases h with ⟨h1, rfl, rfl⟩ | ⟨_, h, _⟩ | ⟨h, _, _, h2⟩
  · exact (h1 he).elim
  · exact (hn h).elim
  · exact ⟨good_iff.1 h, h2⟩
theorem first_look {n : Int} {L : List Leg} {c src dst at_ a e f x g : Int} {R : Stops} {xs : List Nat} (h : ProfOf n L c src dst R e) (he : e = 0) (hn : src ≠ dst) (hR : R.length ≤ 60) (h' : EarlyOf n L c src dst at_ a xs f) (hf : f = 0 ∨ f = 10) (hl : LookOf R at_ x g) : x = a ∧ g = f := by
  obtain ⟨hg, hP⟩ := prof_ok h he hn
  have hok := hP.ok (by omega)
  have hg0 := good_iff.2 hg
  have key : 0 ≤ at_ ∧ at_ ≤ 10000 ∧ ((f = 0 ∧ 0 ≤ a ∧ lookL R at_ = a) ∨ (f = 10 ∧ a = 0 ∧ lookL R at_ = -1)) := by
    rcases h' with ⟨h1, _, _, rfl⟩ | ⟨_, h1, _⟩ | ⟨h1, _, h2, _, h3, h4⟩ | ⟨h1, _, h2, h3, h4, _⟩
    · rcases goodE_times (ts := [at_]) hg0 with h2 | h2 <;> omega
    · exact (hn h1).elim
    · have := good_t0 (good_iff.1 h1)
      exact ⟨this.1, this.2, .inr ⟨h3, h2, (hP.look at_).uniq h4⟩⟩
    · have := good_t0 (good_iff.1 h1)
      exact ⟨this.1, this.2, .inl ⟨h2, h3, (hP.look at_).uniq h4⟩⟩
  rcases hl with ⟨h1, _⟩ | ⟨_, ⟨h1, rfl, rfl⟩ | ⟨h1, rfl, rfl⟩⟩
  · exact (h1 ⟨hok, by omega, by omega⟩).elim
  · rcases key with ⟨_, _, ⟨h2, h3, h4⟩ | ⟨h2, h3, h4⟩⟩
    · omega
    · exact ⟨h3.symm, h2.symm⟩
  · rcases key with ⟨_, _, ⟨h2, h3, h4⟩ | ⟨h2, h3, h4⟩⟩
    · exact ⟨h4, h2.symm⟩
    · omega
theorem first_later {n : Int} {L : List Leg} {c src dst at_ a e f later b g : Int} {R : Stops} {xs ys : List Nat} (h : ProfOf n L c src dst R e) (he : e = 0) (hn : src ≠ dst) (h' : EarlyOf n L c src dst at_ a xs f) (hl : EarlyOf n L c src dst later b ys g) (hle : at_ ≤ later) (hg : g = 0) (hf : f ≠ 2) : f = 0 ∧ a ≤ b := by
  obtain ⟨hgd, hP⟩ := prof_ok h he hn
  have hg0 := good_iff.2 hgd
  obtain ⟨_, ⟨h1, _⟩ | ⟨_, hb0, hB, _⟩⟩ := early_ok hl hg
  · exact (hn h1).elim
  · rcases hB with ⟨h1, _⟩ | ⟨_, ⟨i, hi, hc, hi1, hi2⟩, _⟩
    · omega
    · have hc' : ComeTo c L (fun i => begB src at_ (leg L i)) i := come_mono hc (fun k _ hk => by simp [begB] at hk ⊢; omega)
      rcases h' with ⟨h1, _, _, rfl⟩ | ⟨_, h1, _⟩ | ⟨h1, _, h2, _, h3, h4⟩ | ⟨h1, _, h2, h3, h4, _⟩
      · rcases goodE_times (ts := [at_]) hg0 with h2 | h2
        · exact (h1 h2).elim
        · exact (hf h2).elim
      · exact (hn h1).elim
      · rcases h4 with ⟨_, h4⟩ | ⟨h4, _⟩
        · exact (h4 i hi ⟨hc', hi1⟩).elim
        · omega
      · rcases h4 with ⟨h4, _⟩ | ⟨_, _, h4⟩
        · omega
        · have := h4 i hi hc' hi1
          exact ⟨h2, by omega⟩
theorem first_up {n : Int} {L : List Leg} {c src dst e : Int} {R : Stops} (h : ProfOf n L c src dst R e) (he : e = 0) (hn : src ≠ dst) (hR : R.length ≤ 60) : ProfOk R := (prof_ok h he hn).2.ok (by omega)

/-! Then of three. -/
theorem lookL_mono {b : Stops} (hb : Up b) (h0 : ∀ s ∈ b, 0 ≤ s.2) {t t' : Int} (h : t ≤ t') : lookL b t' = -1 ∨ (0 ≤ lookL b t ∧ lookL b t ≤ lookL b t') := by
  have h1 := (up_front hb h0).look t
  rcases (up_front hb h0).look t' with ⟨h2, _⟩ | ⟨_, ⟨s, hs, h3, h4⟩, _⟩
  · exact .inl h2
  · rcases h1 with ⟨_, h1⟩ | ⟨h5, _, h6⟩
    · exact (h1 s hs (by omega)).elim
    · have := h6 s hs (by omega)
      exact .inr ⟨h5, by omega⟩
/-- One behind the other. -/
def thenL (a b : Stops) (wait t : Int) : Int := if lookL a t < 0 then -1 else lookL b (lookL a t + wait)
theorem joined_cons' (s : Int × Int) (r b : Stops) (wait : Int) : joined (s :: r) b wait = (if 0 ≤ lookL b (s.2 + wait) then [(s.1, lookL b (s.2 + wait))] else []) ++ joined r b wait := by
  unfold joined
  rw [List.filterMap_cons]
  by_cases h : 0 ≤ lookL b (s.2 + wait) <;> simp [goOn, h]
theorem joined_min {b : Stops} {wait : Int} (hb : Up b) (h0 : ∀ s ∈ b, 0 ≤ s.2) : ∀ {a : Stops}, Up a → (∀ s ∈ a, 0 ≤ s.2) → ∀ t, MinAt (joined a b wait) t (thenL a b wait t)
  | [], _, _, t => .inl ⟨by simp [thenL, lookL], fun s hs => by simp [joined] at hs⟩
  | s :: r, hu, ha, t => by
    have h1 := List.pairwise_cons.1 hu
    have ih := joined_min (wait := wait) hb h0 h1.2 (fun s hs => ha s (by simp [hs])) t
    have hs0 := ha s (by simp)
    by_cases ht : t ≤ s.1
    · have e : thenL (s :: r) b wait t = lookL b (s.2 + wait) := by
        unfold thenL
        rw [show lookL (s :: r) t = s.2 from by rw [lookL, if_pos ht], if_neg (by omega)]
      rw [e]
      have hge := lookL_ge b h0 (s.2 + wait)
      have hlow : ∀ p ∈ joined r b wait, 0 ≤ lookL b (s.2 + wait) ∧ lookL b (s.2 + wait) ≤ p.2 := by
        intro p hp
        obtain ⟨q, hq, _, h2, h3⟩ := goOn_mem hp
        have := (h1.1 q hq).2
        rcases lookL_mono hb h0 (show s.2 + wait ≤ q.2 + wait by omega) with h4 | h4
        · omega
        · omega
      rw [joined_cons']
      by_cases hp : 0 ≤ lookL b (s.2 + wait)
      · rw [if_pos hp]
        refine .inr ⟨hp, ⟨(s.1, lookL b (s.2 + wait)), by simp, ht, rfl⟩, fun q hq _ => ?_⟩
        rcases List.mem_append.1 hq with hq | hq
        · simp at hq; subst hq; exact Int.le_refl _
        · exact (hlow q hq).2
      · rw [if_neg hp]
        refine .inl ⟨by omega, fun q hq _ => ?_⟩
        rw [List.nil_append] at hq
        exact hp (hlow q hq).1
    · have e : thenL (s :: r) b wait t = thenL r b wait t := by
        unfold thenL
        rw [show lookL (s :: r) t = lookL r t from by rw [lookL, if_neg ht]]
      rw [e, joined_cons']
      have hno : ∀ q ∈ (if 0 ≤ lookL b (s.2 + wait) then [(s.1, lookL b (s.2 + wait))] else []), ¬ t ≤ q.1 := by
        intro q hq
        split at hq
        · simp at hq; subst hq; exact ht
        · simp at hq
      rcases ih with ⟨e, h3⟩ | ⟨h3, ⟨q, hq, h4, h5⟩, h6⟩
      · refine .inl ⟨e, fun q hq hle => ?_⟩
        rcases List.mem_append.1 hq with hq | hq
        · exact hno q hq hle
        · exact h3 q hq hle
      · refine .inr ⟨h3, ⟨q, List.mem_append.2 (.inr hq), h4, h5⟩, fun q hq hle => ?_⟩
        rcases List.mem_append.1 hq with hq | hq
        · exact (hno q hq hle).elim
        · exact h6 q hq hle
theorem then_look {a b R : Stops} {wait e : Int} (h : ThenOf a b wait R e) (he : e = 0) : ∀ t, lookL R t = thenL a b wait t := by
  intro t
  rcases h with ⟨_, _, h⟩ | ⟨⟨ha, hb, _⟩, _, h⟩
  · omega
  · exact (h.look t).uniq (joined_min hb.up (fun s hs => by have := hb.bd s hs; omega) ha.up (fun s hs => by have := ha.bd s hs; omega) t)
theorem lookL_in {b : Stops} {t : Int} (h : 0 ≤ lookL b t) : ∃ s ∈ b, t ≤ s.1 ∧ s.2 = lookL b t := by
  induction b with
  | nil => simp [lookL] at h
  | cons s r ih =>
    unfold lookL at h ⊢
    split
    · rename_i ht
      exact ⟨s, by simp, ht, rfl⟩
    · rename_i ht
      rw [if_neg ht] at h
      obtain ⟨q, hq, h1, h2⟩ := ih h
      exact ⟨q, by simp [hq], h1, h2⟩
theorem then_ok {a b R : Stops} {wait e : Int} (h : ThenOf a b wait R e) (ha : ProfOk a) (hb : ProfOk b) (hw : 0 ≤ wait ∧ wait ≤ 100) (hR : R.length ≤ 1000) : e = 0 ∧ ProfOk R := by
  rcases h with ⟨h, _⟩ | ⟨_, he, h⟩
  · exact (h ⟨ha, hb, hw.1, hw.2⟩).elim
  · refine ⟨he, hR, fun i hi => ?_⟩
    obtain ⟨r, hr, h1, h2, h3⟩ := goOn_mem (h.mem _ (getD_mem hi))
    obtain ⟨q, hq, h4, h5⟩ := lookL_in (b := b) (t := r.2 + wait) (by omega)
    have h6 := ha.bd r hr
    have h7 := hb.bd q hq
    unfold OkAt
    refine ⟨?_, ?_, ?_, fun h0 => ?_⟩
    · unfold tFst; omega
    · unfold tFst tSnd; omega
    · unfold tSnd; omega
    · have := up_iff.1 h.up (i - 1) (by omega)
      rw [show i - 1 + 1 = i from by omega] at this
      exact this
theorem then_assoc {p q r t u v w : Stops} {wait e1 e2 e3 e4 : Int} (hv : ProfOk v) (hw : ProfOk w)
    (h1 : ThenOf p q wait t e1) (h2 : ThenOf q r wait u e2) (h3 : ThenOf t r wait v e3) (h4 : ThenOf p u wait w e4) (he : e1 = 0 ∧ e2 = 0 ∧ e3 = 0 ∧ e4 = 0) : v = w := by
  obtain ⟨f1, f2, f3, f4⟩ := he
  refine up_uniq hv.up hw.up (fun s hs => by have := hv.bd s hs; omega) (fun s hs => by have := hw.bd s hs; omega) (fun τ => ?_)
  rw [then_look h3 f3, then_look h4 f4]
  unfold thenL
  rw [then_look h1 f1]
  unfold thenL
  by_cases g : lookL p τ < 0
  · simp [g]
  · rw [if_neg g, if_neg g, then_look h2 f2]
    rfl
/-- A journey behind a journey. -/
theorem path_app {m : Nat} {fol : Nat → Nat → Bool} {last : Nat → Bool} {i j : Nat} {s : List Nat} (hf : fol i j = true) (h2 : Path m fol last (j :: s)) : ∀ {x : List Nat}, Path m fol (fun k => k == i) x → Path m fol last (x ++ j :: s)
  | [], h => h.elim
  | [a], h => by
    have : a = i := by simpa using h.one_inv
    subst this
    exact .cons h.1 hf h2
  | a :: b :: r, h => .cons h.1 h.cons_inv.1 (path_app hf h2 (x := b :: r) h.cons_inv.2)
theorem come_app {c : Int} {L : List Leg} {first : Nat → Bool} {i f j : Nat} (h : ComeTo c L first i) (hf : folL c L i f = true) (h2 : ComeTo c L (fun k => k == f) j) : ComeTo c L first j := by
  obtain ⟨x, a, r, rfl, h1, hp⟩ := h
  obtain ⟨y, b, s, rfl, h3, hq⟩ := h2
  have : b = f := by simpa using h3
  subst this
  exact ⟨_, a, r ++ b :: s, rfl, h1, path_app hf hq hp⟩
theorem through {n : Int} {L : List Leg} {c A B C at_ e f x y g h : Int} {p q t : Stops} {ys : List Nat} (hp : ProfOf n L c A B p e) (hq : ProfOf n L c B C q f) (he : e = 0) (hf : f = 0) (h1 : A ≠ B) (h2 : B ≠ C) (h3 : A ≠ C) {e' : Int} (ht : ThenOf p q c t e') (he' : e' = 0)
    (hl : LookOf t at_ x h) (hh : h = 0) (ha : at_ ≤ 10000) (hE : EarlyOf n L c A C at_ y ys g) : g = 0 ∧ y ≤ x := by
  obtain ⟨gp, pP⟩ := prof_ok hp he h1
  obtain ⟨gq, qP⟩ := prof_ok hq hf h2
  have hlook : (0 ≤ at_) ∧ 0 ≤ x ∧ lookL t at_ = x := by
    rcases hl with ⟨_, _, h'⟩ | ⟨⟨_, h4, _⟩, ⟨_, _, h'⟩ | ⟨h5, h6, _⟩⟩
    · omega
    · omega
    · exact ⟨h4, by omega, h6.symm⟩
  obtain ⟨h0, hx, hlk⟩ := hlook
  rw [then_look ht he'] at hlk
  unfold thenL at hlk
  by_cases g0 : lookL p at_ < 0
  · rw [if_pos g0] at hlk; omega
  rw [if_neg g0] at hlk
  have hP := pP.look at_
  have hQ := qP.look (lookL p at_ + c)
  rcases hP with ⟨h4, _⟩ | ⟨_, ⟨i, hi, hci, hti, hai⟩, _⟩
  · omega
  rcases hQ with ⟨h4, _⟩ | ⟨_, ⟨j, hj, hcj, htj, haj⟩, _⟩
  · omega
  obtain ⟨fl, hfl, hb, hcf⟩ := come_first hcj
  have hfol : folL c L i fl = true := by
    simp only [begB, decide_eq_true_eq] at hb
    have := gp.change
    simp only [folL, folB, Bool.and_eq_true, decide_eq_true_eq]
    refine ⟨by omega, ?_⟩
    split <;> simp only [decide_eq_true_eq] <;> omega
  have hcome := come_app hci hfol hcf
  have hgood : Good n L c A C [] := ⟨gp.n, gp.len, gp.fine, gp.change, gp.src, gq.dst, fun k hk => by simp at hk⟩
  have hgE := good_iff.2 (good_add hgood h0 ha)
  rcases hE with ⟨h4, _⟩ | ⟨_, h4, _⟩ | ⟨_, _, _, _, _, h4⟩ | ⟨_, _, h4, h5, h6, _⟩
  · exact (h4 hgE).elim
  · exact (h3 h4).elim
  · rcases h4 with ⟨_, h4⟩ | ⟨h4, _⟩
    · exact (h4 j hj ⟨hcome, htj⟩).elim
    · omega
  · rcases h6 with ⟨h6, _⟩ | ⟨_, _, h6⟩
    · omega
    · have := h6 j hj hcome htj
      exact ⟨h4, by omega⟩
theorem through_third {n : Int} {L : List Leg} {c A B C e f g : Int} {p q r : Stops} (hp : ProfOf n L c A B p e) (hq : ProfOf n L c B C q f) (he : e = 0) (hf : f = 0) (h1 : A ≠ B) (h2 : B ≠ C) (h3 : A ≠ C) (hr : ProfOf n L c C A r g) : g = 0 := by
  obtain ⟨gp, _⟩ := prof_ok hp he h1
  obtain ⟨gq, _⟩ := prof_ok hq hf h2
  have hgood : Good n L c C A [] := ⟨gp.n, gp.len, gp.fine, gp.change, gq.dst, gp.src, fun k hk => by simp at hk⟩
  have := good_iff.2 hgood
  rcases hr with ⟨h4, _⟩ | ⟨_, h4, _⟩ | ⟨_, _, h4, _⟩
  · exact (h4 this).elim
  · exact (h3 h4.symm).elim
  · exact h4
end Go.Proofs.Ytmmjjfjbhogfgaa
