/- What Earliest, Latest, Is and Trips say of one another: plain law. -/
import Derived.Test.YtmmjjfjbhogfgaaIs
import Derived.Test.YtmmjjfjbhogfgaaLate
import Derived.Test.YtmmjjfjbhogfgaaTrips
namespace Go.Proofs.Ytmmjjfjbhogfgaa

theorem path_iff {m : Nat} {fol : Nat → Nat → Bool} {last : Nat → Bool} : ∀ (x : List Nat), x ≠ [] → (Path m fol last x ↔ (∀ k, k < x.length → x.getD k 0 < m) ∧ (∀ k, k + 1 < x.length → fol (x.getD k 0) (x.getD (k + 1) 0) = true) ∧ last (x.getD (x.length - 1) 0) = true)
  | [], h => (h rfl).elim
  | [a], _ => by
    constructor
    · intro h
      refine ⟨fun k hk => ?_, fun k hk => by simp at hk, by simpa using h.one_inv⟩
      obtain rfl : k = 0 := by simpa using hk
      simpa using h.1
    · rintro ⟨h1, _, h3⟩
      exact .one (by simpa using h1 0 (by simp)) (by simpa using h3)
  | a :: b :: s, _ => by
    have ih := path_iff (m := m) (fol := fol) (last := last) (b :: s) (by simp)
    constructor
    · intro h
      obtain ⟨g1, g2, g3⟩ := ih.1 h.cons_inv.2
      refine ⟨fun k hk => ?_, fun k hk => ?_, ?_⟩
      · cases k with
        | zero => simpa using h.1
        | succ k => simpa using g1 k (by simpa using hk)
      · cases k with
        | zero => simpa using h.cons_inv.1
        | succ k => simpa using g2 k (by simpa using hk)
      · simpa using g3
    · rintro ⟨h1, h2, h3⟩
      refine .cons (by simpa using h1 0 (by simp)) (by simpa using h2 0 (by simp)) (ih.2 ⟨fun k hk => ?_, fun k hk => ?_, ?_⟩)
      · simpa using h1 (k + 1) (by simpa using hk)
      · simpa using h2 (k + 1) (by simpa using hk)
      · simpa using h3
theorem jn_iff {m : Nat} {fol : Nat → Nat → Bool} {first last : Nat → Bool} {x : List Nat} : Jn m fol first last x ↔ x ≠ [] ∧ first (x.getD 0 0) = true ∧ (∀ k, k < x.length → x.getD k 0 < m) ∧ (∀ k, k + 1 < x.length → fol (x.getD k 0) (x.getD (k + 1) 0) = true) ∧ last (x.getD (x.length - 1) 0) = true := by
  constructor
  · rintro ⟨i, r, rfl, h1, h2⟩
    exact ⟨by simp, by simpa using h1, (path_iff _ (by simp)).1 h2⟩
  · rintro ⟨h0, h1, h2⟩
    cases x with
    | nil => exact (h0 rfl).elim
    | cons i r => exact ⟨i, r, rfl, by simpa using h1, (path_iff _ h0).2 h2⟩

/-- A journey is what Is asks for. -/
theorem jok_of {c : Int} {L : List Leg} {src dst at_ : Int} {xs : List Nat} {last : Nat → Bool} (hl : ∀ i, last i = true → (leg L i).To = dst) (h : Jn L.length (folL c L) (fun i => begB src at_ (leg L i)) last xs) : JOk c L src dst at_ (nats xs) ∧ nats xs ≠ [] := by
  obtain ⟨h0, h1, h2, h3, h4⟩ := jn_iff.1 h
  refine ⟨⟨fun k hk => ?_, ?_, ?_⟩, by cases xs with | nil => exact (h0 rfl).elim | cons a r => simp [nats]⟩
  · rw [nats_length] at hk
    refine ⟨by rw [ith_nats]; omega, by rw [ith_nats]; have := h2 k hk; omega, fun hk0 => ?_⟩
    obtain ⟨k, rfl⟩ : ∃ j, k = j + 1 := ⟨k - 1, by omega⟩
    rw [ith_nats, ith_nats, Int.toNat_natCast, Int.toNat_natCast, Nat.add_sub_cancel]
    exact h3 k hk
  · rw [ith_nats, Int.toNat_natCast]
    exact h1
  · rw [ith_nats, Int.toNat_natCast, nats_length]
    exact hl _ h4
theorem nats_of (J : List Int) (h : ∀ k, k < J.length → 0 ≤ ith J k) : J = nats (J.map Int.toNat) := by
  refine List.ext_getElem (by simp [nats]) (fun i h1 h2 => ?_)
  have := h i h1
  simp [ith, h1] at this
  simp [nats]
  omega
theorem jok_jn {c : Int} {L : List Leg} {src dst at_ : Int} {J : List Int} (h0 : J ≠ []) (h : JOk c L src dst at_ J) : ∃ xs, J = nats xs ∧ xs ≠ [] ∧ Jn L.length (folL c L) (fun i => begB src at_ (leg L i)) (fun i => decide ((leg L i).To = dst)) xs := by
  obtain ⟨h1, h2, h3⟩ := h
  have e := nats_of J (fun k hk => (h1 k hk).1)
  generalize J.map Int.toNat = xs at e
  subst e
  have hx : xs ≠ [] := by rintro rfl; exact h0 rfl
  refine ⟨xs, rfl, hx, jn_iff.2 ⟨hx, ?_, fun k hk => ?_, fun k hk => ?_, ?_⟩⟩
  · rw [ith_nats, Int.toNat_natCast] at h2; exact h2
  · have := (h1 k (by rw [nats_length]; exact hk)).2.1
    rw [ith_nats] at this; omega
  · have := (h1 (k + 1) (by rw [nats_length]; exact hk)).2.2 (by omega)
    rw [ith_nats, ith_nats, Int.toNat_natCast, Int.toNat_natCast, Nat.add_sub_cancel] at this
    exact this
  · rw [ith_nats, Int.toNat_natCast, nats_length] at h3
    simpa using h3
theorem jn_last {m : Nat} {fol : Nat → Nat → Bool} {first last : Nat → Bool} {x : List Nat} (h : Jn m fol first last x) : x.getD (x.length - 1) 0 < m ∧ last (x.getD (x.length - 1) 0) = true ∧ Jn m fol first (fun k => k == x.getD (x.length - 1) 0) x := by
  obtain ⟨h0, h1, h2, h3, h4⟩ := jn_iff.1 h
  have : 0 < x.length := List.length_pos_iff.2 h0
  exact ⟨h2 _ (by omega), h4, jn_iff.2 ⟨h0, h1, h2, h3, by simp⟩⟩
theorem come_late {n c : Int} {L : List Leg} {src at_ : Int} {i : Nat} (hc : 0 ≤ c) (hf : ∀ k, k < L.length → Fine n (leg L k)) (h : ComeTo c L (fun i => begB src at_ (leg L i)) i) : at_ ≤ (leg L i).Dep := by
  obtain ⟨y, a, r, rfl, h1, hp⟩ := h
  have key : ∀ (r : List Nat) (a : Nat), at_ ≤ (leg L a).Dep → Path L.length (folL c L) (fun k => k == i) (a :: r) → at_ ≤ (leg L i).Dep := by
    intro r
    induction r with
    | nil =>
      intro a ha hp
      have : a = i := by simpa using hp.one_inv
      subst this; exact ha
    | cons b s ih =>
      intro a ha hp
      have := fine_time hc hf a b hp.1 hp.cons_inv.2.1 hp.cons_inv.1
      exact ih b (by omega) hp.cons_inv.2
  refine key r a ?_ hp
  simp [begB] at h1
  exact h1.2
theorem good_time {n : Int} {L : List Leg} {c src dst t t' : Int} (h : Good n L c src dst [t]) (h0 : 0 ≤ t') (h1 : t' ≤ 10000) : Good n L c src dst [t'] := by
  refine ⟨h.n, h.len, h.fine, h.change, h.src, h.dst, fun k hk => ?_⟩
  have : k = 0 := by simp at hk; omega
  subst this; simp [ith]; omega
theorem good_t0 {n : Int} {L : List Leg} {c src dst t : Int} (h : Good n L c src dst [t]) : 0 ≤ t ∧ t ≤ 10000 := by
  have := h.times 0 (by simp)
  simpa [ith] using this

/-- The answer without an error, laid open. -/
theorem early_ok {n : Int} {L : List Leg} {c src dst at_ a : Int} {xs : List Nat} {e : Int} (h : EarlyOf n L c src dst at_ a xs e) (he : e = 0) :
    Good n L c src dst [at_] ∧ ((src = dst ∧ a = at_ ∧ xs = []) ∨ (src ≠ dst ∧ 0 ≤ a ∧ ArrAt L dst (ComeTo c L (fun i => begB src at_ (leg L i))) L.length a ∧
    Least L.length (folL c L) (fun i => begB src at_ (leg L i)) (fun i => endB dst a (leg L i)) xs)) := by
  rcases h with ⟨h, _, _, rfl⟩ | ⟨h, h1, h2, h3, _⟩ | ⟨_, _, _, _, h, _⟩ | ⟨h, h1, h2, h3, h4, h5⟩
  · exact (h he).elim
  · exact ⟨good_iff.1 h, .inl ⟨h1, h2, h3⟩⟩
  · omega
  · exact ⟨good_iff.1 h, .inr ⟨h1, h3, h4, h5⟩⟩
theorem late_ok {n : Int} {L : List Leg} {c src dst by_ a : Int} {xs : List Nat} {e : Int} (h : LateOf n L c src dst by_ a xs e) (he : e = 0) :
    Good n L c src dst [by_] ∧ ((src = dst ∧ a = by_ ∧ xs = []) ∨ (src ≠ dst ∧ 0 ≤ a ∧ DepAt L src (GoesTo c L (fun i => lastB dst by_ (leg L i))) L.length a ∧
    Least L.length (folL c L) (fun i => depB src a (leg L i)) (fun i => lastB dst by_ (leg L i)) xs)) := by
  rcases h with ⟨h, _, _, rfl⟩ | ⟨h, h1, h2, h3, _⟩ | ⟨_, _, _, _, h, _⟩ | ⟨h, h1, h2, h3, h4, h5⟩
  · exact (h he).elim
  · exact ⟨good_iff.1 h, .inl ⟨h1, h2, h3⟩⟩
  · omega
  · exact ⟨good_iff.1 h, .inr ⟨h1, h3, h4, h5⟩⟩

/-- An error of Is is that of Earliest. -/
theorem law_err {n : Int} {L : List Leg} {c src dst at_ a : Int} {xs : List Nat} {e f : Int} {J : List Int} {b : Bool} (h : EarlyOf n L c src dst at_ a xs e) (h' : IsOf n L c src dst at_ J b f) (hf : f ≠ 0) : e = f ∧ xs = [] := by
  rcases h' with ⟨h0, _, rfl⟩ | ⟨_, _, _, h0⟩ | ⟨_, _, h0, _⟩
  · rcases h with ⟨_, _, h, rfl⟩ | ⟨h, _⟩ | ⟨h, _⟩ | ⟨h, _⟩
    · exact ⟨rfl, h⟩
    · exact (h0 h).elim
    · exact (h0 h).elim
    · exact (h0 h).elim
  · exact (hf h0).elim
  · exact (hf h0).elim
theorem law_none {n : Int} {L : List Leg} {c src dst at_ a : Int} {xs : List Nat} {e f : Int} {J : List Int} {b : Bool} (h : EarlyOf n L c src dst at_ a xs e) (h' : IsOf n L c src dst at_ J b f) (hf : f = 0) (he : e ≠ 0) : e = 10 ∧ b = false := by
  have hg : goodE n L c src dst [at_] = 0 := by
    rcases h' with ⟨h0, _, rfl⟩ | ⟨h, _⟩ | ⟨h, _⟩
    · exact (h0 hf).elim
    · exact h
    · exact h
  rcases h with ⟨h, _⟩ | ⟨_, _, _, _, h⟩ | ⟨_, h1, _, _, rfl, hA⟩ | ⟨_, _, h, _⟩
  · exact (h hg).elim
  · exact (he h).elim
  · refine ⟨rfl, ?_⟩
    rcases h' with ⟨h, _⟩ | ⟨_, _, rfl, _⟩ | ⟨_, h0, _, hb⟩
    · exact (h hg).elim
    · simpa using h1
    · cases b with
      | false => rfl
      | true =>
        exfalso
        obtain ⟨ys, rfl, _, hj⟩ := jok_jn h0 (hb.1 rfl)
        obtain ⟨g1, g2, g3⟩ := jn_last hj
        rcases hA with ⟨_, hA⟩ | ⟨hA, _⟩
        · exact hA _ g1 ⟨⟨ys, g3⟩, by simpa using g2⟩
        · omega
  · exact (he h).elim
theorem law_is {n : Int} {L : List Leg} {c src dst at_ a : Int} {xs : List Nat} {e : Int} (h : EarlyOf n L c src dst at_ a xs e) (he : e = 0) : IsOf n L c src dst at_ (nats xs) true 0 := by
  obtain ⟨hg, ⟨h1, h2, rfl⟩ | ⟨h1, h2, h3, h4⟩⟩ := early_ok h he
  · exact .inr (.inl ⟨good_iff.2 hg, rfl, by simp [h1], rfl⟩)
  · obtain ⟨g1, g2⟩ := jok_of (dst := dst) (fun i hi => by simp [endB] at hi; exact hi.1) h4.1
    exact .inr (.inr ⟨good_iff.2 hg, g2, rfl, by simp [g1]⟩)
theorem law_end {n : Int} {L : List Leg} {c src dst at_ a : Int} {xs : List Nat} {e : Int} (h : EarlyOf n L c src dst at_ a xs e) (he : e = 0) (hx : xs ≠ []) : (leg L (xs.getD (xs.length - 1) 0)).Arr = a := by
  obtain ⟨hg, ⟨h1, h2, rfl⟩ | ⟨h1, h2, h3, h4⟩⟩ := early_ok h he
  · exact (hx rfl).elim
  · have := (jn_last h4.1).2.1
    simp [endB] at this ⊢
    exact this.2
theorem law_in {n : Int} {L : List Leg} {c src dst at_ a : Int} {xs : List Nat} {e : Int} (h : EarlyOf n L c src dst at_ a xs e) : ∀ k, k < xs.length → xs.getD k 0 < L.length := by
  rcases h with ⟨_, _, rfl, _⟩ | ⟨_, _, _, rfl, _⟩ | ⟨_, _, _, rfl, _⟩ | ⟨_, _, _, _, _, h⟩
  · intro k hk; simp at hk
  · intro k hk; simp at hk
  · intro k hk; simp at hk
  · exact (jn_iff.1 h.1).2.2.1
theorem law_first {n : Int} {L : List Leg} {c src dst at_ a : Int} {xs : List Nat} {e f : Int} {J : List Int} {b : Bool} (h : EarlyOf n L c src dst at_ a xs e) (h' : IsOf n L c src dst at_ J b f) (he : e = 0) (hb : b = true) (hJ : J ≠ []) :
    (ith J (J.length - 1)).toNat < L.length ∧ 0 ≤ ith J (J.length - 1) ∧ a ≤ (leg L (ith J (J.length - 1)).toNat).Arr := by
  obtain ⟨hg, h1⟩ := early_ok h he
  have h0 := good_iff.2 hg
  rcases h' with ⟨h, _⟩ | ⟨_, h, _⟩ | ⟨_, _, _, h2⟩
  · exact (h h0).elim
  · exact (hJ h).elim
  · obtain ⟨ys, rfl, hy, hj⟩ := jok_jn hJ (h2.1 hb)
    obtain ⟨g1, g2, g3⟩ := jn_last hj
    rw [ith_nats, Int.toNat_natCast, nats_length]
    refine ⟨g1, by omega, ?_⟩
    have hce : ComeTo c L (fun i => begB src at_ (leg L i)) (ys.getD (ys.length - 1) 0) := ⟨ys, g3⟩
    rcases h1 with ⟨_, rfl, _⟩ | ⟨_, _, hA, _⟩
    · have := come_late hg.change.1 hg.fine hce
      have h5 := hg.fine _ g1
      unfold Fine at h5
      omega
    · rcases hA with ⟨rfl, hA⟩ | ⟨_, _, hA⟩
      · exact (hA _ g1 ⟨hce, by simpa using g2⟩).elim
      · exact hA _ g1 hce (by simpa using g2)
theorem law_top {n : Int} {L : List Leg} {c src dst at_ a : Int} {xs : List Nat} {e : Int} (h : EarlyOf n L c src dst at_ a xs e) (he : e = 0) : 0 ≤ a ∧ a ≤ 10000 := by
  obtain ⟨hg, ⟨h1, rfl, rfl⟩ | ⟨h1, h2, h3, h4⟩⟩ := early_ok h he
  · exact good_t0 hg
  · rcases h3 with ⟨rfl, _⟩ | ⟨_, ⟨i, hi, _, _, rfl⟩, _⟩
    · omega
    · have h5 := hg.fine _ hi
      unfold Fine at h5
      omega
/-- Latest of the earliest coming. -/
theorem law_late {n : Int} {L : List Leg} {c src dst at_ a b : Int} {xs ys : List Nat} {e f : Int} (h : EarlyOf n L c src dst at_ a xs e) (he : e = 0) (h' : LateOf n L c src dst a b ys f) : f = 0 ∧ at_ ≤ b ∧ b ≤ 10000 ∧ 0 ≤ b := by
  have ht := law_top h he
  obtain ⟨hg, h1⟩ := early_ok h he
  have hga := good_time hg ht.1 ht.2
  have h0 := good_iff.2 hga
  have hat := good_t0 hg
  rcases h1 with ⟨rfl, rfl, rfl⟩ | ⟨h1, h2, h3, h4⟩
  · rcases h' with ⟨h, _⟩ | ⟨_, _, rfl, _, rfl⟩ | ⟨_, h, _⟩ | ⟨_, h, _⟩
    · exact (h h0).elim
    · exact ⟨rfl, Int.le_refl _, by omega, by omega⟩
    · exact (h rfl).elim
    · exact (h rfl).elim
  · obtain ⟨i, r, rfl, hb, hp⟩ := h4.1
    have hgo : GoesTo c L (fun i => lastB dst a (leg L i)) i := ⟨r, hp.mono (fun k _ hk => by simp [endB] at hk; simp [lastB, hk])⟩
    have hb' : (leg L i).From = src ∧ at_ ≤ (leg L i).Dep := by simpa [begB] using hb
    rcases h' with ⟨h, _⟩ | ⟨_, h, _⟩ | ⟨_, _, _, _, _, hD⟩ | ⟨_, _, rfl, h5, hD, _⟩
    · exact (h h0).elim
    · exact (h1 h).elim
    · rcases hD with ⟨_, hD⟩ | ⟨hD, _⟩
      · exact (hD i hp.1 ⟨hgo, hb'.1⟩).elim
      · omega
    · rcases hD with ⟨h, _⟩ | ⟨_, ⟨k, hk, _, _, rfl⟩, hD⟩
      · omega
      · have h6 := hD i hp.1 hgo hb'.1
        have h7 := hg.fine k hk
        unfold Fine at h7
        exact ⟨rfl, by omega, by omega, h5⟩
theorem law_late_is {n : Int} {L : List Leg} {c src dst by_ b : Int} {ys : List Nat} {f : Int} (h : LateOf n L c src dst by_ b ys f) (hf : f = 0) (hb : b ≤ 10000) : IsOf n L c src dst b (nats ys) true 0 ∧ (ys ≠ [] → (leg L (ys.getD 0 0)).Dep = b ∧ (leg L (ys.getD (ys.length - 1) 0)).Arr ≤ by_) ∧ ∀ k, k < ys.length → ys.getD k 0 < L.length := by
  obtain ⟨hg, ⟨h1, rfl, rfl⟩ | ⟨h1, h2, h3, h4⟩⟩ := late_ok h hf
  · exact ⟨.inr (.inl ⟨good_iff.2 hg, rfl, by simp [h1], rfl⟩), fun h => (h rfl).elim, fun k hk => by simp at hk⟩
  · have hj : Jn L.length (folL c L) (fun i => begB src b (leg L i)) (fun i => lastB dst by_ (leg L i)) ys := h4.1.mono (fun i _ hi => by simp [depB] at hi; simp [begB, hi]) (fun _ _ h => h)
    obtain ⟨g1, g2⟩ := jok_of (dst := dst) (fun i hi => by simp [lastB] at hi; exact hi.1) hj
    refine ⟨.inr (.inr ⟨good_iff.2 (good_time hg h2 hb), g2, rfl, by simp [g1]⟩), fun _ => ⟨?_, ?_⟩, (jn_iff.1 hj).2.2.1⟩
    · have := (jn_iff.1 h4.1).2.1
      simp [depB] at this ⊢
      exact this.2
    · have := (jn_last h4.1).2.1
      simp [lastB] at this ⊢
      exact this.2
theorem law_again {n : Int} {L : List Leg} {c src dst at_ a b d : Int} {xs ys zs : List Nat} {e f g : Int} (h : EarlyOf n L c src dst at_ a xs e) (he : e = 0) (h' : LateOf n L c src dst a b ys f) (h'' : EarlyOf n L c src dst b d zs g) : g = 0 ∧ d = a := by
  obtain ⟨hf, hab, hb1, hb0⟩ := law_late h he h'
  have ht := law_top h he
  obtain ⟨hg, h1⟩ := early_ok h he
  have hgb := good_iff.2 (good_time hg hb0 hb1)
  rcases h1 with ⟨rfl, rfl, rfl⟩ | ⟨h1, h2, h3, h4⟩
  · obtain ⟨_, ⟨_, rfl, _⟩ | ⟨h, _⟩⟩ := late_ok h' hf
    · rcases h'' with ⟨h, _⟩ | ⟨_, _, rfl, _, rfl⟩ | ⟨_, h, _⟩ | ⟨_, h, _⟩
      · exact (h hgb).elim
      · exact ⟨rfl, rfl⟩
      · exact (h rfl).elim
      · exact (h rfl).elim
    · exact (h rfl).elim
  · obtain ⟨_, ⟨h, _⟩ | ⟨_, _, _, hl⟩⟩ := late_ok h' hf
    · exact (h1 h).elim
    have hj : Jn L.length (folL c L) (fun i => begB src b (leg L i)) (fun i => lastB dst a (leg L i)) ys := hl.1.mono (fun i _ hi => by simp [depB] at hi; simp [begB, hi]) (fun _ _ h => h)
    obtain ⟨g1, g2, g3⟩ := jn_last hj
    have hce : ComeTo c L (fun i => begB src b (leg L i)) (ys.getD (ys.length - 1) 0) := ⟨ys, g3⟩
    have g2' : (leg L (ys.getD (ys.length - 1) 0)).To = dst ∧ (leg L (ys.getD (ys.length - 1) 0)).Arr ≤ a := by simpa [lastB] using g2
    rcases h'' with ⟨h, _⟩ | ⟨_, h, _⟩ | ⟨_, _, _, _, _, hA⟩ | ⟨_, _, rfl, h5, hA, _⟩
    · exact (h hgb).elim
    · exact (h1 h).elim
    · rcases hA with ⟨_, hA⟩ | ⟨hA, _⟩
      · exact (hA _ g1 ⟨hce, g2'.1⟩).elim
      · omega
    · refine ⟨rfl, ?_⟩
      rcases hA with ⟨h, _⟩ | ⟨_, ⟨k, hk, ⟨y, hy⟩, hkt, rfl⟩, hA⟩
      · omega
      · have h6 := hA _ g1 hce g2'.1
        rcases h3 with ⟨h, _⟩ | ⟨_, _, hB⟩
        · omega
        · have h7 := hB k hk ⟨y, hy.mono (fun i _ hi => by simp [begB] at hi ⊢; omega) (fun _ _ h => h)⟩ hkt
          omega
theorem path_nodup {m : Nat} {fol : Nat → Nat → Bool} {last : Nat → Bool} (t : Nat → Int) (hf : ∀ i j, i < m → j < m → fol i j = true → t i < t j) : ∀ (x : List Nat) (a : Nat), Path m fol last (a :: x) → (a :: x).Nodup ∧ ∀ b ∈ x, t a < t b
  | [], _, _ => ⟨by simp, by simp⟩
  | b :: s, a, h => by
    obtain ⟨h1, h2⟩ := path_nodup t hf s b h.cons_inv.2
    have h3 := hf a b h.1 h.cons_inv.2.1 h.cons_inv.1
    have h4 : ∀ q ∈ b :: s, t a < t q := by
      intro q hq
      rcases List.mem_cons.1 hq with rfl | hq
      · exact h3
      · have := h2 q hq; omega
    refine ⟨List.nodup_cons.2 ⟨fun hm => ?_, h1⟩, h4⟩
    have := h4 a hm
    omega
theorem jn_short {n c : Int} {L : List Leg} {first last : Nat → Bool} {x : List Nat} (hc : 0 ≤ c) (hf : ∀ k, k < L.length → Fine n (leg L k)) (h : Jn L.length (folL c L) first last x) : x.length ≤ L.length := by
  obtain ⟨i, r, rfl, _, hp⟩ := h
  have h1 := (path_nodup (fun i => (leg L i).Dep) (fine_time hc hf) r i hp).1
  have := List.Nodup.length_le_of_subset h1 (l₂ := List.range L.length) (fun k hk => List.mem_range.2 (hp.mem k hk))
  simpa using this
theorem law_len {n : Int} {L : List Leg} {c src dst at_ a : Int} {xs : List Nat} {e : Int} (h : EarlyOf n L c src dst at_ a xs e) : xs.length ≤ L.length := by
  rcases h with ⟨_, _, rfl, _⟩ | ⟨_, _, _, rfl, _⟩ | ⟨_, _, _, rfl, _⟩ | ⟨h0, _, _, _, _, h⟩
  · simp
  · simp
  · simp
  · have hg := good_iff.1 h0
    exact jn_short hg.change.1 hg.fine h.1
theorem law_late_len {n : Int} {L : List Leg} {c src dst at_ a : Int} {xs : List Nat} {e : Int} (h : LateOf n L c src dst at_ a xs e) : xs.length ≤ L.length := by
  rcases h with ⟨_, _, rfl, _⟩ | ⟨_, _, _, rfl, _⟩ | ⟨_, _, _, rfl, _⟩ | ⟨h0, _, _, _, _, h⟩
  · simp
  · simp
  · simp
  · have hg := good_iff.1 h0
    exact jn_short hg.change.1 hg.fine h.1
end Go.Proofs.Ytmmjjfjbhogfgaa
