/- Profile: plain law. -/
import Derived.Test.YtmmjjfjbhogfgaaStopE
import Derived.Test.YtmmjjfjbhogfgaaLawA
namespace Go.Proofs.Ytmmjjfjbhogfgaa

theorem come_first {c : Int} {L : List Leg} {first : Nat → Bool} {i : Nat} (h : ComeTo c L first i) : ∃ f, f < L.length ∧ first f = true ∧ ComeTo c L (fun k => k == f) i := by
  obtain ⟨y, a, r, rfl, h1, hp⟩ := h
  exact ⟨a, hp.1, h1, a :: r, a, r, rfl, by simp, hp⟩
theorem come_mono {c : Int} {L : List Leg} {first first' : Nat → Bool} {i : Nat} (h : ComeTo c L first i) (hf : ∀ k, k < L.length → first k = true → first' k = true) : ComeTo c L first' i := by
  obtain ⟨y, hy⟩ := h
  exact ⟨y, hy.mono hf (fun _ _ h => h)⟩
theorem come_lt {c : Int} {L : List Leg} {first : Nat → Bool} {i : Nat} (h : ComeTo c L first i) : i < L.length := by
  obtain ⟨y, hy⟩ := h
  obtain ⟨j, hj, hl, _⟩ := hy.end_
  simp at hl
  omega
theorem arrAt_ex (L : List Leg) (dst : Int) (P : Nat → Prop) (hf : ∀ k, k < L.length → 0 ≤ (leg L k).Arr) : ∀ k, k ≤ L.length → ∃ a, ArrAt L dst P k a
  | 0, _ => ⟨-1, .inl ⟨rfl, fun i hi => by omega⟩⟩
  | k + 1, hk => by
    obtain ⟨a, ha⟩ := arrAt_ex L dst P hf k (by omega)
    by_cases h : P k ∧ (leg L k).To = dst
    · by_cases h1 : 0 ≤ a ∧ a ≤ (leg L k).Arr
      · exact ⟨a, ha.keep h1.1 h1.2⟩
      · exact ⟨_, ha.take h.1 h.2 (hf k (by omega)) (by omega)⟩
    · exact ⟨a, ha.skip h⟩

/-- When one comes, that begins with one of some legs. -/
abbrev Come (c : Int) (L : List Leg) (dst : Int) (first : Nat → Bool) (a : Int) : Prop := ArrAt L dst (ComeTo c L first) L.length a
/-- The points from which a profile is made. -/
structure Pts (c : Int) (L : List Leg) (src dst : Int) (P : Stops) : Prop where
  from_ : ∀ s ∈ P, 0 ≤ s.2 ∧ ∃ first, Come c L dst first s.2 ∧ ∀ f, f < L.length → first f = true → (leg L f).From = src ∧ s.1 ≤ (leg L f).Dep
  all : ∀ f, f < L.length → (leg L f).From = src → ∀ i, ComeTo c L (fun k => k == f) i → (leg L i).To = dst → ∃ s ∈ P, s.1 = (leg L f).Dep ∧ s.2 ≤ (leg L i).Arr
  dep : ∀ s ∈ P, 0 ≤ s.1
theorem Pts.come {c : Int} {L : List Leg} {src dst : Int} {P : Stops} (h : Pts c L src dst P) {t a : Int} (ha : MinAt P t a) : Come c L dst (fun i => begB src t (leg L i)) a := by
  rcases ha with ⟨rfl, ha⟩ | ⟨h0, ⟨s, hs, h1, h2⟩, h3⟩
  · refine .inl ⟨rfl, fun i _ hc => ?_⟩
    obtain ⟨f, hfl, hb, hcf⟩ := come_first hc.1
    simp [begB] at hb
    obtain ⟨s, hs, e, _⟩ := h.all f hfl hb.1 i hcf hc.2
    exact ha s hs (by omega)
  · obtain ⟨_, first, hC, hfirst⟩ := h.from_ s hs
    subst h2
    rcases hC with ⟨h4, _⟩ | ⟨_, ⟨i, hi, hci, hti, he⟩, _⟩
    · omega
    · refine .inr ⟨h0, ⟨i, hi, come_mono hci (fun k hk hk1 => ?_), hti, he⟩, fun j _ hj ht => ?_⟩
      · have := hfirst k hk hk1
        simp [begB]
        omega
      · obtain ⟨f, hfl, hb, hcf⟩ := come_first hj
        simp [begB] at hb
        obtain ⟨s', hs', e, hle⟩ := h.all f hfl hb.1 j hcf ht
        have := h3 s' hs' (by omega)
        omega
theorem Pts.bd {n c : Int} {L : List Leg} {src dst : Int} {P : Stops} (h : Pts c L src dst P) (hc : 0 ≤ c) (hf : ∀ k, k < L.length → Fine n (leg L k)) : ∀ s ∈ P, 0 ≤ s.1 ∧ s.1 < s.2 ∧ s.2 ≤ 10000 := by
  intro s hs
  obtain ⟨h0, first, hC, hfirst⟩ := h.from_ s hs
  rcases hC with ⟨h4, _⟩ | ⟨_, ⟨i, hi, hci, hti, he⟩, _⟩
  · omega
  · have := come_late (src := src) (at_ := s.1) hc hf (come_mono hci (fun k hk hk1 => by have := hfirst k hk hk1; simp [begB]; omega))
    have h2 := hf i hi
    unfold Fine at h2
    have := h.dep s hs
    omega

/-- What a profile is. -/
structure ProfIs (c : Int) (L : List Leg) (src dst : Int) (R : Stops) : Prop where
  up : Up R
  bd : ∀ s ∈ R, 0 ≤ s.1 ∧ s.1 < s.2 ∧ s.2 ≤ 10000
  look : ∀ t, Come c L dst (fun i => begB src t (leg L i)) (lookL R t)
theorem Pts.prof {n c : Int} {L : List Leg} {src dst : Int} {P R : Stops} (h : Pts c L src dst P) (hc : 0 ≤ c) (hf : ∀ k, k < L.length → Fine n (leg L k)) (hR : FrontOf P R) : ProfIs c L src dst R :=
  ⟨hR.up, fun s hs => h.bd hc hf s (hR.mem s hs), fun t => h.come (hR.look t)⟩
theorem ProfIs.uniq {c : Int} {L : List Leg} {src dst : Int} {R R' : Stops} (h : ProfIs c L src dst R) (h' : ProfIs c L src dst R') : R = R' :=
  up_uniq h.up h'.up (fun s hs => by have := h.bd s hs; omega) (fun s hs => by have := h'.bd s hs; omega) (fun t => (h.look t).uniq (h'.look t))
theorem ProfIs.ok {c : Int} {L : List Leg} {src dst : Int} {R : Stops} (h : ProfIs c L src dst R) (hl : R.length ≤ 1000) : ProfOk R := by
  refine ⟨hl, fun i hi => ?_⟩
  have h1 := h.bd _ (getD_mem hi)
  unfold OkAt
  refine ⟨h1.1, h1.2.1, by have := h1.2.2; unfold tSnd; omega, fun h0 => ?_⟩
  have := up_iff.1 h.up (i - 1) (by omega)
  rw [show i - 1 + 1 = i from by omega] at this
  exact this
/-- What Profile answers. -/
def ProfOf (n : Int) (L : List Leg) (c src dst : Int) (R : Stops) (e : Int) : Prop :=
  (goodE n L c src dst [] ≠ 0 ∧ R = [] ∧ e = goodE n L c src dst []) ∨ (goodE n L c src dst [] = 0 ∧ src = dst ∧ R = [] ∧ e = 0) ∨ (goodE n L c src dst [] = 0 ∧ src ≠ dst ∧ e = 0 ∧ ProfIs c L src dst R)
theorem ProfOf.uniq {n : Int} {L : List Leg} {c src dst : Int} {R R' : Stops} {e e' : Int} (h : ProfOf n L c src dst R e) (h' : ProfOf n L c src dst R' e') : R = R' ∧ e = e' := by
  rcases h with ⟨h1, rfl, rfl⟩ | ⟨h1, h2, rfl, rfl⟩ | ⟨h1, h2, rfl, h3⟩ <;> rcases h' with ⟨g1, rfl, rfl⟩ | ⟨g1, g2, rfl, rfl⟩ | ⟨g1, g2, rfl, g3⟩
  all_goals first
    | exact ⟨rfl, rfl⟩
    | exact (h1 g1).elim
    | exact (g1 h1).elim
    | exact (h2 g2).elim
    | exact (g2 h2).elim
    | exact ⟨h3.uniq g3, rfl⟩

/-- Are two legs the same? -/
def eqB (a b : Leg) : Bool := decide (a.From = b.From ∧ a.To = b.To ∧ a.Dep = b.Dep ∧ a.Arr = b.Arr ∧ a.Line = b.Line)
theorem eqB_iff {a b : Leg} : eqB a b = true ↔ a = b := by
  cases a; cases b
  simp [eqB]
/-- The points leg by leg: one for each leg that leaves. -/
structure Gath (c : Int) (L : List Leg) (src dst : Int) (k : Nat) (P : Stops) : Prop where
  from_ : ∀ s ∈ P, 0 ≤ s.2 ∧ ∃ i, i < k ∧ i < L.length ∧ (leg L i).From = src ∧ s.1 = (leg L i).Dep ∧ Come c L dst (fun j => eqB (leg L j) (leg L i)) s.2
  all : ∀ i, i < k → i < L.length → (leg L i).From = src → ∀ a, 0 ≤ a → Come c L dst (fun j => eqB (leg L j) (leg L i)) a → ((leg L i).Dep, a) ∈ P
  len : P.length ≤ k
theorem Gath.start (c : Int) (L : List Leg) (src dst : Int) : Gath c L src dst 0 [] := ⟨fun s hs => by simp at hs, fun i hi => by omega, by simp⟩
theorem Gath.skip {c : Int} {L : List Leg} {src dst : Int} {k : Nat} {P : Stops} (h : Gath c L src dst k P) (hn : (leg L k).From = src → Come c L dst (fun j => eqB (leg L j) (leg L k)) (-1)) : Gath c L src dst (k + 1) P := by
  refine ⟨fun s hs => ?_, fun i hi hl hfr a h0 ha => ?_, by have := h.len; omega⟩
  · obtain ⟨h0, i, hi, h1⟩ := h.from_ s hs
    exact ⟨h0, i, by omega, h1⟩
  · rcases Nat.lt_or_ge i k with h' | h'
    · exact h.all i h' hl hfr a h0 ha
    · obtain rfl : i = k := by omega
      have := (hn hfr).uniq ha
      omega
theorem Gath.add {c : Int} {L : List Leg} {src dst : Int} {k : Nat} {P : Stops} {a : Int} (h : Gath c L src dst k P) (hk : k < L.length) (hfr : (leg L k).From = src) (h0 : 0 ≤ a) (ha : Come c L dst (fun j => eqB (leg L j) (leg L k)) a) : Gath c L src dst (k + 1) (P ++ [((leg L k).Dep, a)]) := by
  refine ⟨fun s hs => ?_, fun i hi hl hfr a' h0' ha' => ?_, by have := h.len; simp; omega⟩
  · rcases List.mem_append.1 hs with hs | hs
    · obtain ⟨h0, i, hi, h1⟩ := h.from_ s hs
      exact ⟨h0, i, by omega, h1⟩
    · simp at hs
      subst hs
      exact ⟨h0, k, by omega, hk, hfr, rfl, ha⟩
  · rcases Nat.lt_or_ge i k with h' | h'
    · exact List.mem_append_left _ (h.all i h' hl hfr a' h0' ha')
    · obtain rfl : i = k := by omega
      rw [ha'.uniq ha]
      simp
theorem Gath.pts {n c : Int} {L : List Leg} {src dst : Int} {P : Stops} (h : Gath c L src dst L.length P) (hf : ∀ k, k < L.length → Fine n (leg L k)) : Pts c L src dst P := by
  refine ⟨fun s hs => ?_, fun f hfl hfr i hc ht => ?_, fun s hs => ?_⟩
  · obtain ⟨h0, i, hi, hl, hfr, hd, hC⟩ := h.from_ s hs
    refine ⟨h0, _, hC, fun g _ hg => ?_⟩
    have : leg L g = leg L i := eqB_iff.1 hg
    rw [this]
    exact ⟨hfr, by omega⟩
  · obtain ⟨a, ha⟩ := arrAt_ex L dst (ComeTo c L (fun j => eqB (leg L j) (leg L f))) (fun k hk => by have := hf k hk; unfold Fine at this; omega) L.length (Nat.le_refl _)
    have hci : ComeTo c L (fun j => eqB (leg L j) (leg L f)) i := come_mono hc (fun k _ hk => by simp at hk; subst hk; exact eqB_iff.2 rfl)
    have h0 : 0 ≤ a ∧ a ≤ (leg L i).Arr := by
      rcases ha with ⟨_, ha⟩ | ⟨h0, _, ha⟩
      · exact (ha i (come_lt hc) ⟨hci, ht⟩).elim
      · exact ⟨h0, ha i (come_lt hc) hci ht⟩
    exact ⟨_, h.all f hfl hfl hfr a h0.1 ha, rfl, h0.2⟩
  · obtain ⟨h0, i, hi, hl, hfr, hd, hC⟩ := h.from_ s hs
    have := hf i hl
    unfold Fine at this
    omega

/-- The points time by time, from the last one down. -/
structure Down (c : Int) (L : List Leg) (src dst : Int) (b : Int) (P : Stops) : Prop where
  from_ : ∀ s ∈ P, 0 ≤ s.2 ∧ b ≤ s.1 ∧ (∃ i, i < L.length ∧ s.1 = (leg L i).Dep) ∧ Come c L dst (fun j => begB src s.1 (leg L j)) s.2
  all : ∀ i, i < L.length → (leg L i).From = src → b ≤ (leg L i).Dep → ∀ a, 0 ≤ a → Come c L dst (fun j => begB src (leg L i).Dep (leg L j)) a → ((leg L i).Dep, a) ∈ P
theorem Down.pts {n c : Int} {L : List Leg} {src dst b : Int} {P : Stops} (h : Down c L src dst b P) (hb : ∀ i, i < L.length → (leg L i).From = src → b ≤ (leg L i).Dep) (hf : ∀ k, k < L.length → Fine n (leg L k)) : Pts c L src dst P := by
  refine ⟨fun s hs => ?_, fun f hfl hfr i hc ht => ?_, fun s hs => ?_⟩
  · obtain ⟨h0, hd, hi, hC⟩ := h.from_ s hs
    refine ⟨h0, _, hC, fun g _ hg => ?_⟩
    simpa [begB] using hg
  · obtain ⟨a, ha⟩ := arrAt_ex L dst (ComeTo c L (fun j => begB src (leg L f).Dep (leg L j))) (fun k hk => by have := hf k hk; unfold Fine at this; omega) L.length (Nat.le_refl _)
    have hci : ComeTo c L (fun j => begB src (leg L f).Dep (leg L j)) i := come_mono hc (fun k _ hk => by simp at hk; subst hk; simp [begB, hfr])
    have h0 : 0 ≤ a ∧ a ≤ (leg L i).Arr := by
      rcases ha with ⟨_, ha⟩ | ⟨h0, _, ha⟩
      · exact (ha i (come_lt hc) ⟨hci, ht⟩).elim
      · exact ⟨h0, ha i (come_lt hc) hci ht⟩
    exact ⟨_, h.all f hfl hfr (hb f hfl hfr) a h0.1 ha, rfl, h0.2⟩
  · obtain ⟨_, _, ⟨i, hi, e⟩, _⟩ := h.from_ s hs
    have := hf i hi
    unfold Fine at this
    omega
theorem Down.start (c : Int) (L : List Leg) (src dst b : Int) (h : ∀ i, i < L.length → ¬ b ≤ (leg L i).Dep) : Down c L src dst b [] := ⟨fun s hs => by simp at hs, fun i hi _ hb => (h i hi hb).elim⟩
theorem Down.skip {c : Int} {L : List Leg} {src dst b d : Int} {P : Stops} (h : Down c L src dst b P) (hd : d < b) (hm : ∀ i, i < L.length → (leg L i).From = src → (leg L i).Dep < b → (leg L i).Dep ≤ d)
    (hn : Come c L dst (fun j => begB src d (leg L j)) (-1)) : Down c L src dst d P := by
  refine ⟨fun s hs => ?_, fun i hi hfr hle a h0 ha => ?_⟩
  · obtain ⟨h0, h1, h2⟩ := h.from_ s hs
    exact ⟨h0, by omega, h2⟩
  · by_cases e : b ≤ (leg L i).Dep
    · exact h.all i hi hfr e a h0 ha
    · have e2 : (leg L i).Dep = d := by have := hm i hi hfr (by omega); omega
      rw [e2] at ha
      have := ha.uniq hn
      omega
theorem Down.add {c : Int} {L : List Leg} {src dst b d a : Int} {P : Stops} (h : Down c L src dst b P) (hd : d < b) (hm : ∀ i, i < L.length → (leg L i).From = src → (leg L i).Dep < b → (leg L i).Dep ≤ d)
    (hi : ∃ i, i < L.length ∧ d = (leg L i).Dep) (h0 : 0 ≤ a) (ha : Come c L dst (fun j => begB src d (leg L j)) a) : Down c L src dst d (P ++ [(d, a)]) := by
  refine ⟨fun s hs => ?_, fun i hi hfr hle a' h0' ha' => ?_⟩
  · rcases List.mem_append.1 hs with hs | hs
    · obtain ⟨h0, h1, h2⟩ := h.from_ s hs
      exact ⟨h0, by omega, h2⟩
    · simp at hs
      subst hs
      exact ⟨h0, Int.le_refl _, hi, ha⟩
  · by_cases e : b ≤ (leg L i).Dep
    · exact List.mem_append_left _ (h.all i hi hfr e a' h0' ha')
    · have e2 : (leg L i).Dep = d := by have := hm i hi hfr (by omega); omega
      rw [e2] at ha' ⊢
      rw [ha'.uniq ha]
      simp
end Go.Proofs.Ytmmjjfjbhogfgaa
