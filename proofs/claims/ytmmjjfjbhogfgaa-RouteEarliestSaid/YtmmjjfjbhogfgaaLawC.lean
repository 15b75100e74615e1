/- A timetable turned around in place and in time: plain law. -/
import Derived.Test.YtmmjjfjbhogfgaaLawA
namespace Go.Proofs.Ytmmjjfjbhogfgaa

def turn (l : Leg) : Leg := ⟨l.To, l.From, 10000 - l.Arr, 10000 - l.Dep, l.Line⟩
def turned (L : List Leg) : List Leg := L.map turn
theorem turned_length (L : List Leg) : (turned L).length = L.length := by simp [turned]
theorem leg_turned {L : List Leg} {k : Nat} (hk : k < L.length) : leg (turned L) k = turn (leg L k) := by simp [leg, turned, hk]
theorem turned_snoc (L : List Leg) {k : Nat} (hk : k < L.length) : turned (L.take (k + 1)) = turned (L.take k) ++ [turn (leg L k)] := by
  unfold turned
  rw [List.take_succ_eq_append_getElem hk, List.map_append]
  simp [leg, hk]
theorem fol_iff {c : Int} {a b : Leg} : folB c a b = true ↔ a.To = b.From ∧ (a.Line = b.Line → a.Arr ≤ b.Dep) ∧ (a.Line ≠ b.Line → a.Arr + c ≤ b.Dep) := by
  unfold folB
  rw [Bool.and_eq_true, decide_eq_true_eq]
  by_cases h : a.Line = b.Line
  · rw [if_pos h, decide_eq_true_eq]
    exact ⟨fun g => ⟨g.1, fun _ => g.2, fun g' => (g' h).elim⟩, fun g => ⟨g.1, g.2.1 h⟩⟩
  · rw [if_neg h, decide_eq_true_eq]
    exact ⟨fun g => ⟨g.1, fun g' => (h g').elim, fun _ => g.2⟩, fun g => ⟨g.1, g.2.2 h⟩⟩
def InR (l : Leg) : Prop := 0 ≤ l.Dep ∧ l.Dep ≤ 10000 ∧ 0 ≤ l.Arr ∧ l.Arr ≤ 10000
theorem anyB_congr {n : Nat} {p q : Nat → Bool} (h : ∀ k, k < n → p k = q k) : anyB n p = anyB n q := by
  rw [Bool.eq_iff_iff, anyB_true, anyB_true]
  constructor
  · rintro ⟨k, hk, hp⟩; exact ⟨k, hk, by rw [← h k hk]; exact hp⟩
  · rintro ⟨k, hk, hp⟩; exact ⟨k, hk, by rw [h k hk]; exact hp⟩
theorem goodE_turned {n : Int} {L : List Leg} {c src dst by_ : Int} (hr : ∀ k, k < L.length → InR (leg L k)) (hb : 0 ≤ by_ ∧ by_ ≤ 10000) : goodE n (turned L) c dst src [10000 - by_] = goodE n L c src dst [by_] := by
  have h1 : anyB L.length (fun k => ! fineB n (leg (turned L) k)) = anyB L.length (fun k => ! fineB n (leg L k)) := by
    refine anyB_congr (fun k hk => ?_)
    rw [leg_turned hk]
    have := hr k hk
    unfold InR at this
    have e : fineB n (turn (leg L k)) = fineB n (leg L k) := by
      rw [Bool.eq_iff_iff]
      unfold fineB
      rw [decide_eq_true_eq, decide_eq_true_eq]
      simp only [turn]
      constructor
      · rintro ⟨h1, h2, h3, h4, h5, h6, h7, h8, h9, h10⟩
        exact ⟨h3, h4, h1, h2, fun e => h5 e.symm, by omega, by omega, by omega, h9, h10⟩
      · rintro ⟨h1, h2, h3, h4, h5, h6, h7, h8, h9, h10⟩
        exact ⟨h3, h4, h1, h2, fun e => h5 e.symm, by omega, by omega, by omega, h9, h10⟩
    rw [e]
  have h2 : badHead n (turned L) c dst src = badHead n L c src dst := by
    unfold badHead
    rw [turned_length, h1]
    cases placeB n src <;> cases placeB n dst <;> simp
  have h3 : anyB [10000 - by_].length (fun k => badTime (ith [10000 - by_] k)) = false := by
    rw [anyB_false]
    intro k hk
    obtain rfl : k = 0 := by simp at hk; omega
    simp [badTime, ith]; omega
  have h4 : anyB [by_].length (fun k => badTime (ith [by_] k)) = false := by
    rw [anyB_false]
    intro k hk
    obtain rfl : k = 0 := by simp at hk; omega
    simp [badTime, ith]; omega
  unfold goodE
  rw [turned_length, h2, h3, h4]
theorem fol_turned {c : Int} {L : List Leg} {i j : Nat} (hi : i < L.length) (hj : j < L.length) : folL c (turned L) i j = folL c L j i := by
  unfold folL
  rw [leg_turned hi, leg_turned hj, Bool.eq_iff_iff, fol_iff, fol_iff]
  simp only [turn]
  constructor
  · rintro ⟨h1, h2, h3⟩
    exact ⟨h1.symm, fun e => by have := h2 e.symm; omega, fun e => by have := h3 (fun e' => e e'.symm); omega⟩
  · rintro ⟨h1, h2, h3⟩
    exact ⟨h1.symm, fun e => by have := h2 e.symm; omega, fun e => by have := h3 (fun e' => e e'.symm); omega⟩
theorem getD_rev (x : List Nat) (k : Nat) (hk : k < x.length) : x.reverse.getD k 0 = x.getD (x.length - 1 - k) 0 := by
  simp only [List.getD_eq_getElem?_getD, List.getElem?_reverse hk]
theorem jn_rev {m m' : Nat} {fol fol' : Nat → Nat → Bool} {first last first' last' : Nat → Bool} {x : List Nat} (hm : m = m') (hf : ∀ i j, i < m → j < m → fol i j = true → fol' j i = true) (h1 : ∀ i, i < m → last i = true → first' i = true) (h2 : ∀ i, i < m → first i = true → last' i = true)
    (h : Jn m fol first last x) : Jn m' fol' first' last' x.reverse := by
  subst hm
  obtain ⟨g0, g1, g2, g3, g4⟩ := jn_iff.1 h
  have hp : 0 < x.length := List.length_pos_iff.2 g0
  refine jn_iff.2 ⟨by simpa using g0, ?_, fun k hk => ?_, fun k hk => ?_, ?_⟩
  · rw [getD_rev x 0 hp]
    exact h1 _ (g2 _ (by omega)) (by simpa using g4)
  · simp only [List.length_reverse] at hk
    rw [getD_rev x k hk]
    exact g2 _ (by omega)
  · simp only [List.length_reverse] at hk
    rw [getD_rev x k (by omega), getD_rev x (k + 1) hk]
    have h5 := g3 (x.length - 1 - (k + 1)) (by omega)
    rw [show x.length - 1 - (k + 1) + 1 = x.length - 1 - k by omega] at h5
    exact hf _ _ (g2 _ (by omega)) (g2 _ (by omega)) h5
  · rw [List.length_reverse, getD_rev x _ (by omega), show x.length - 1 - (x.length - 1) = 0 by omega]
    exact h2 _ (g2 0 hp) g1
theorem beg_turned {L : List Leg} {dst by_ : Int} {i : Nat} (hi : i < L.length) : begB dst (10000 - by_) (leg (turned L) i) = lastB dst by_ (leg L i) := by
  rw [leg_turned hi]
  rw [Bool.eq_iff_iff]
  unfold begB lastB
  rw [decide_eq_true_eq, decide_eq_true_eq]
  simp only [turn]
  constructor
  · rintro ⟨h1, h2⟩; exact ⟨h1, by omega⟩
  · rintro ⟨h1, h2⟩; exact ⟨h1, by omega⟩
theorem end_turned {L : List Leg} {src a b : Int} {i : Nat} (hi : i < L.length) (hab : a = 10000 - b) : endB src b (leg (turned L) i) = depB src a (leg L i) := by
  rw [leg_turned hi]
  rw [Bool.eq_iff_iff]
  unfold endB depB
  rw [decide_eq_true_eq, decide_eq_true_eq]
  simp only [turn]
  constructor
  · rintro ⟨h1, h2⟩; exact ⟨h1, by omega⟩
  · rintro ⟨h1, h2⟩; exact ⟨h1, by omega⟩
theorem goes_turned {c : Int} {L : List Leg} {dst by_ : Int} {i : Nat} (_hi : i < L.length) : GoesTo c L (fun i => lastB dst by_ (leg L i)) i ↔ ComeTo c (turned L) (fun i => begB dst (10000 - by_) (leg (turned L) i)) i := by
  constructor
  · rintro ⟨x, hp⟩
    have hj : Jn L.length (folL c L) (fun k => k == i) (fun i => lastB dst by_ (leg L i)) (i :: x) := ⟨i, x, rfl, by simp, hp⟩
    exact ⟨_, jn_rev (turned_length L).symm (fun a b ha hb h => by rw [fol_turned hb ha]; exact h) (fun k hk h => by rw [beg_turned hk]; exact h) (fun _ _ h => h) hj⟩
  · rintro ⟨y, hy⟩
    have hj := jn_rev (m' := L.length) (fol' := folL c L) (first' := fun k => k == i) (last' := fun i => lastB dst by_ (leg L i)) (turned_length L) (fun a b ha hb h => by rw [turned_length] at ha hb; rw [fol_turned ha hb] at h; exact h) (fun _ _ h => h) (fun k hk h => by rw [turned_length] at hk; rw [beg_turned hk] at h; exact h) hy
    obtain ⟨i', r, he, h1, h2⟩ := hj
    rw [he] at h2
    obtain rfl : i' = i := by simpa using h1
    exact ⟨r, h2⟩
theorem law_turned {n : Int} {L : List Leg} {c src dst by_ a b : Int} {xs ys : List Nat} {e f : Int} (hr : ∀ k, k < L.length → InR (leg L k)) (hb : 0 ≤ by_ ∧ by_ ≤ 10000) (h : LateOf n L c src dst by_ a xs e) (h' : EarlyOf n (turned L) c dst src (10000 - by_) b ys f) :
    e = f ∧ (e = 0 → a = 10000 - b ∧ xs.length = ys.length) := by
  have hg := goodE_turned (n := n) (c := c) (src := src) (dst := dst) hr hb
  unfold EarlyOf at h'
  rw [hg, turned_length] at h'
  rcases h with ⟨h0, rfl, rfl, rfl⟩ | ⟨h0, rfl, rfl, rfl, rfl⟩ | ⟨h0, h1, rfl, rfl, rfl, hD⟩ | ⟨h0, h1, rfl, h3, hD, hl⟩
  · rcases h' with ⟨_, _, _, rfl⟩ | ⟨h, _⟩ | ⟨h, _⟩ | ⟨h, _⟩
    · exact ⟨rfl, fun h => (h0 h).elim⟩
    · exact (h0 h).elim
    · exact (h0 h).elim
    · exact (h0 h).elim
  · rcases h' with ⟨h, _⟩ | ⟨_, _, rfl, rfl, rfl⟩ | ⟨_, h, _⟩ | ⟨_, h, _⟩
    · exact (h h0).elim
    · exact ⟨rfl, fun _ => ⟨by omega, rfl⟩⟩
    · exact (h rfl).elim
    · exact (h rfl).elim
  · rcases h' with ⟨h, _⟩ | ⟨_, h, _⟩ | ⟨_, _, _, _, rfl, _⟩ | ⟨_, _, rfl, h4, hA, _⟩
    · exact (h h0).elim
    · exact (h1 h.symm).elim
    · exact ⟨rfl, fun h => by omega⟩
    · exfalso
      rcases hA with ⟨hA, _⟩ | ⟨_, ⟨i, hi, hc, ht, _⟩, _⟩
      · omega
      · rw [leg_turned hi] at ht
        rcases hD with ⟨_, hD⟩ | ⟨hD, _⟩
        · exact hD i hi ⟨(goes_turned hi).2 hc, ht⟩
        · omega
  · have hD' := hD
    rcases hD with ⟨hD, _⟩ | ⟨_, ⟨i, hi, hgo, hfr, hae⟩, hmax⟩
    · omega
    rcases h' with ⟨h, _⟩ | ⟨_, h, _⟩ | ⟨_, _, _, _, rfl, hA⟩ | ⟨_, _, rfl, h4, hA, hly⟩
    · exact (h h0).elim
    · exact (h1 h.symm).elim
    · exfalso
      rcases hA with ⟨_, hA⟩ | ⟨hA, _⟩
      · exact hA i hi ⟨(goes_turned hi).1 hgo, by rw [leg_turned hi]; exact hfr⟩
      · omega
    · have hab : a = 10000 - b := by
        rcases hA with ⟨hA, _⟩ | ⟨_, ⟨j, hj, hc, ht, hbe⟩, hmin⟩
        · omega
        · have g1 := hmin i hi ((goes_turned hi).1 hgo) (by rw [leg_turned hi]; exact hfr)
          rw [leg_turned hj] at ht hbe
          rw [leg_turned hi] at g1
          have g2 := hmax j hj ((goes_turned hj).2 hc) ht
          simp only [turn] at g1 hbe
          omega
      refine ⟨rfl, fun _ => ⟨hab, ?_⟩⟩
      have k1 := jn_rev (m' := L.length) (fol' := folL c (turned L)) (first' := fun i => begB dst (10000 - by_) (leg (turned L) i)) (last' := fun i => endB src b (leg (turned L) i)) rfl (fun a b ha hb h => by rw [fol_turned hb ha]; exact h) (fun k hk h => by rw [beg_turned hk]; exact h) (fun k hk h => by rw [end_turned hk hab]; exact h) hl.1
      have k2 := jn_rev (m' := L.length) (fol' := folL c L) (first' := fun i => depB src a (leg L i)) (last' := fun i => lastB dst by_ (leg L i)) rfl (fun a b ha hb h => by rw [fol_turned ha hb] at h; exact h) (fun k hk h => by rw [end_turned hk hab] at h; exact h) (fun k hk h => by rw [beg_turned hk] at h; exact h) hly.1
      have q1 := hly.2 _ k1
      have q2 := hl.2 _ k2
      simp only [List.length_reverse] at q1 q2
      omega
end Go.Proofs.Ytmmjjfjbhogfgaa
