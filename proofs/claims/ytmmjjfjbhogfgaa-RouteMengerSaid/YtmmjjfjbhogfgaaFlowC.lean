/- Looking for a way with room, and letting one more through: plain law. -/
import Derived.Test.YtmmjjfjbhogfgaaFlowA
import Derived.Test.YtmmjjfjbhogfgaaReach
namespace Go.Proofs.Ytmmjjfjbhogfgaa

def negs (xs : List Int) : Nat := (xs.filter (fun x => decide (x < 0))).length
theorem negs_le (xs : List Int) : negs xs ≤ xs.length := List.length_filter_le _ _
theorem negs_set : ∀ (xs : List Int) (k : Nat) (u : Int), k < xs.length → ith xs k < 0 → 0 ≤ u → negs (xs.set k u) + 1 = negs xs
  | [], k, _, h, _, _ => by simp at h
  | a :: r, 0, u, _, h, hu => by
    have h' : a < 0 := by simpa [ith] using h
    simp only [negs, List.set_cons_zero, List.filter_cons, h', decide_true, if_true, List.length_cons]
    rw [if_neg (by simp; omega)]
  | a :: r, k + 1, u, hk, h, hu => by
    have := negs_set r k u (by simpa using hk) (by simpa [ith] using h) hu
    simp only [negs, List.set_cons_succ, List.filter_cons] at this ⊢
    by_cases ha : a < 0
    · simp only [ha, decide_true, if_true, List.length_cons] at this ⊢; omega
    · simp only [ha, decide_false, Bool.false_eq_true, if_false] at this ⊢; omega

/-- What is known of the places that have been reached; P u v: from u one can go to v. -/
structure Bfs (n : Nat) (P : Nat → Nat → Prop) (bs : List Int) (todo : List Nat) : Prop where
  len : bs.length = n
  zero : ith bs 0 = 0
  tree : ∃ rk : Nat → Nat, ∀ j, j < n → j ≠ 0 → 0 ≤ ith bs j → ∃ p : Nat, p < n ∧ ith bs j = (p : Int) ∧ 0 ≤ ith bs p ∧ P p j ∧ rk p < rk j
  low : ∀ j, j < n → -1 ≤ ith bs j
  top : ∀ j, j < n → ith bs j < n
  queued : ∀ i ∈ todo, i < n ∧ 0 ≤ ith bs i
  closed : ∀ i j, i < n → j < n → 0 ≤ ith bs i → i ∉ todo → P i j → 0 ≤ ith bs j
structure QueueB (n : Nat) (P : Nat → Nat → Prop) (bs : List Int) (todo : List Nat) (q : Nat) : Prop where
  inn : Bfs n P bs todo
  sum : negs bs + todo.length ≤ q
  top : q ≤ n
structure PopB (n : Nat) (P : Nat → Nat → Prop) (bs : List Int) (a : Nat) (todo : List Nat) (j q : Nat) : Prop where
  inn : Bfs n P bs (a :: todo)
  done : ∀ i, i < j → i < n → P a i → 0 ≤ ith bs i
  sum : negs bs + (todo.length + 1) ≤ q
  top : q ≤ n
theorem QueueB.pop {n : Nat} {P : Nat → Nat → Prop} {bs : List Int} {a : Nat} {todo : List Nat} {q : Nat} (h : QueueB n P bs (a :: todo) q) : PopB n P bs a todo 0 q :=
  ⟨h.inn, fun i hi => by omega, by have := h.sum; simpa using this, h.top⟩
theorem PopB.skip {n : Nat} {P : Nat → Nat → Prop} {bs : List Int} {a : Nat} {todo : List Nat} {j q : Nat} (h : PopB n P bs a todo j q) (hj : P a j → 0 ≤ ith bs j) : PopB n P bs a todo (j + 1) q :=
  ⟨h.inn, fun i hi hn hp => by
    by_cases e : i = j
    · subst e; exact hj hp
    · exact h.done i (by omega) hn hp, h.sum, h.top⟩
theorem PopB.add {n : Nat} {P : Nat → Nat → Prop} {bs : List Int} {a : Nat} {todo : List Nat} {j q : Nat} (h : PopB n P bs a todo j q) (hj : j < n) (hp : P a j) (h0 : ith bs j < 0) : PopB n P (bs.set j (a : Int)) a (todo ++ [j]) (j + 1) q := by
  have hb := h.inn
  have ha := hb.queued a (by simp)
  have hl : j < bs.length := by rw [hb.len]; exact hj
  have key : ∀ i, ith (bs.set j (a : Int)) i = if i = j then (a : Int) else ith bs i := fun i => ith_set bs j i a hl
  have haj : a ≠ j := by rintro rfl; omega
  have hj0 : j ≠ 0 := by rintro rfl; rw [hb.zero] at h0; omega
  refine ⟨⟨by simpa using hb.len, by rw [key, if_neg (fun e => hj0 e.symm)]; exact hb.zero, ?_, fun i hi => ?_, fun i hi => ?_, fun i hi => ?_, fun i k hi hk hr hn hik => ?_⟩, fun i hi hin hpi => ?_, ?_, h.top⟩
  · obtain ⟨rk, hrk⟩ := hb.tree
    refine ⟨fun x => if x = j then rk a + 1 else rk x, fun i hi hi0 hr => ?_⟩
    rw [key] at hr ⊢
    by_cases e : i = j
    · subst e
      rw [if_pos rfl]
      exact ⟨a, ha.1, rfl, by rw [key, if_neg haj]; exact ha.2, hp, by simp [haj]⟩
    · rw [if_neg e] at hr ⊢
      obtain ⟨p, hpn, hpe, hpr, hpp, hlt⟩ := hrk i hi hi0 hr
      have hpj : p ≠ j := by rintro rfl; omega
      exact ⟨p, hpn, hpe, by rw [key, if_neg hpj]; exact hpr, hpp, by simp [hpj, e, hlt]⟩
  · rw [key]
    split
    · omega
    · exact hb.low i hi
  · rw [key]
    split
    · have := ha.1; omega
    · exact hb.top i hi
  · rw [List.mem_cons, List.mem_append, List.mem_singleton] at hi
    rw [key]
    rcases hi with rfl | hi | rfl
    · rw [if_neg haj]; exact ha
    · have := hb.queued i (by simp [hi])
      refine ⟨this.1, ?_⟩
      split
      · omega
      · exact this.2
    · rw [if_pos rfl]; exact ⟨hj, by omega⟩
  · rw [key] at hr ⊢
    rw [List.mem_cons, List.mem_append, List.mem_singleton, not_or, not_or] at hn
    rw [if_neg hn.2.2] at hr
    split
    · omega
    · exact hb.closed i k hi hk hr (by simp [hn.1, hn.2.1]) hik
  · rw [key]
    split
    · omega
    · rename_i e
      exact h.done i (by omega) hin hpi
  · have := negs_set bs j a hl h0 (by omega)
    have := h.sum
    simp only [List.length_append, List.length_singleton]
    omega
theorem PopB.end_ {n : Nat} {P : Nat → Nat → Prop} {bs : List Int} {a : Nat} {todo : List Nat} {q : Nat} (h : PopB n P bs a todo n q) : QueueB n P bs todo (q - 1) ∧ q - 1 < q := by
  have hb := h.inn
  have hs := h.sum
  refine ⟨⟨⟨hb.len, hb.zero, hb.tree, hb.low, hb.top, fun i hi => hb.queued i (by simp [hi]), fun i j hi hj hr hn hp => ?_⟩, by omega, by have := h.top; omega⟩, by omega⟩
  by_cases e : i = a
  · subst e; exact h.done j hj hj hp
  · exact hb.closed i j hi hj hr (by simp [e, hn]) hp
theorem Bfs.start {n : Nat} {P : Nat → Nat → Prop} (hn : 0 < n) : QueueB n P ((List.replicate n (-1 : Int)).set 0 0) [0] n := by
  have hl : 0 < (List.replicate n (-1 : Int)).length := by simpa using hn
  have key : ∀ i, i < n → ith ((List.replicate n (-1 : Int)).set 0 0) i = if i = 0 then 0 else -1 := by
    intro i hi
    rw [ith_set _ 0 i 0 hl]
    split
    · rfl
    · simp [ith, hi]
  refine ⟨⟨by simp, by rw [key 0 hn, if_pos rfl], ⟨fun _ => 0, fun j hj hj0 h => ?_⟩, fun j hj => ?_, fun j hj => ?_, fun i hi => ?_, fun i j hi hj h hn hp => ?_⟩, ?_, Nat.le_refl _⟩
  · rw [key j hj, if_neg hj0] at h; omega
  · rw [key j hj]; split <;> omega
  · rw [key j hj]; split <;> omega
  · simp at hi; subst hi; exact ⟨hn, by rw [key 0 hn, if_pos rfl]; exact Int.le_refl _⟩
  · rw [key i hi] at h
    split at h
    · rename_i e; subst e; simp at hn
    · omega
  · have := negs_set (List.replicate n (-1 : Int)) 0 0 hl (by simp [ith, hn]) (Int.le_refl _)
    have := negs_le (List.replicate n (-1 : Int))
    simp only [List.length_replicate, List.length_singleton] at *
    omega

/-- From what has been reached nothing leads on. -/
def Stuck (n : Nat) (P : Nat → Nat → Prop) : Prop := ∃ R : Nat → Prop, R 0 ∧ ¬ R 1 ∧ ∀ u v, u < n → v < n → R u → ¬ R v → ¬ P u v
theorem QueueB.stuck {n : Nat} {P : Nat → Nat → Prop} {bs : List Int} {q : Nat} (h : QueueB n P bs [] q) (h1 : ith bs 1 < 0) : Stuck n P :=
  ⟨fun u => 0 ≤ ith bs u, by show 0 ≤ ith bs 0; rw [h.inn.zero]; exact Int.le_refl _, by show ¬ 0 ≤ ith bs 1; omega, fun u v hu hv hr hn hp => hn (h.inn.closed u v hu hv hr (by simp) hp)⟩

theorem sumN_sub (f g : Nat → Int) (n : Nat) : sumN (fun i => f i - g i) n = sumN f n - sumN g n := by
  have := sumN_add f (fun i => - g i) n
  rw [sumN_neg] at this
  have e : sumN (fun i => f i - g i) n = sumN (fun i => f i + - g i) n := sumN_congr (fun i _ => by omega)
  omega
theorem sumN_bump {f g : Nat → Int} {n j : Nat} {u : Int} (hj : j < n) (h : ∀ i, i < n → g i = if i = j then f i + u else f i) : sumN g n = sumN f n + u := by
  have e : sumN g n = sumN (fun i => f i + (if i = j then u else 0)) n := sumN_congr (fun i hi => by rw [h i hi]; split <;> omega)
  rw [e, sumN_add, sumN_one hj (fun i _ hne => if_neg hne), if_pos rfl]
/-- The rooms, when one more has been let through from x to 1. -/
structure Aug (n : Nat) (M0 : Nat → Nat → Int) (rk : Nat → Nat) (x : Nat) (M : Nat → Nat → Int) : Prop where
  same : ∀ u v, rk u ≤ rk x → rk v ≤ rk x → M u v = M0 u v
  nonneg : ∀ u v, 0 ≤ M u v
  anti : ∀ u v, M u v + M v u = M0 u v + M0 v u
  part : ∀ u, u < n → u ≠ 1 → sumN (fun v => M0 u v - M u v) n = if u = x then 1 else 0
theorem Aug.start {n : Nat} {M0 : Nat → Nat → Int} {rk : Nat → Nat} (h : ∀ u v, 0 ≤ M0 u v) : Aug n M0 rk 1 M0 :=
  ⟨fun _ _ _ _ => rfl, h, fun _ _ => rfl, fun u _ h1 => by rw [if_neg h1]; exact sumN_zero (fun v _ => by omega)⟩
theorem Aug.step {n : Nat} {M0 : Nat → Nat → Int} {rk : Nat → Nat} {x p : Nat} {M : Nat → Nat → Int} (h : Aug n M0 rk x M) (hx : x < n) (hp : p < n) (hP : 0 < M0 p x) (hr : rk p < rk x) :
    Aug n M0 rk p (fun a b => if a = x ∧ b = p then M x p + 1 else if a = p ∧ b = x then M p x - 1 else M a b) := by
  have hne : p ≠ x := by rintro rfl; omega
  have hsame := h.same p x (by omega) (Nat.le_refl _)
  refine ⟨fun u v hu hv => ?_, fun u v => ?_, fun u v => ?_, fun u hu h1 => ?_⟩
  · have e1 : ¬ (u = x ∧ v = p) := by rintro ⟨rfl, rfl⟩; omega
    have e2 : ¬ (u = p ∧ v = x) := by rintro ⟨rfl, rfl⟩; omega
    rw [if_neg e1, if_neg e2]
    exact h.same u v (by omega) (by omega)
  · have := h.nonneg u v
    have := h.nonneg x p
    split
    · omega
    · split
      · omega
      · omega
  · have h1 := h.anti u v
    by_cases e1 : u = x ∧ v = p
    · obtain ⟨rfl, rfl⟩ := e1
      rw [if_pos ⟨rfl, rfl⟩, if_neg (by rintro ⟨h, _⟩; exact hne h), if_pos ⟨rfl, rfl⟩]
      omega
    · by_cases e2 : u = p ∧ v = x
      · obtain ⟨rfl, rfl⟩ := e2
        rw [if_neg e1, if_pos ⟨rfl, rfl⟩, if_pos ⟨rfl, rfl⟩]
        omega
      · rw [if_neg e1, if_neg e2, if_neg (fun e => e2 ⟨e.2, e.1⟩), if_neg (fun e => e1 ⟨e.2, e.1⟩)]
        exact h1
  · have hs := h.part u hu h1
    by_cases eu : u = p
    · subst eu
      rw [if_neg hne] at hs
      rw [if_pos rfl, sumN_bump (f := fun v => M0 u v - M u v) (j := x) (u := 1) hx (fun v _ => ?_), hs]
      · rfl
      · rw [if_neg (by rintro ⟨h, _⟩; exact hne h)]
        by_cases ev : v = x
        · subst ev; rw [if_pos ⟨rfl, rfl⟩, if_pos rfl]; omega
        · rw [if_neg (by rintro ⟨_, h⟩; exact ev h), if_neg ev]
    · rw [if_neg eu]
      by_cases ex : u = x
      · subst ex
        rw [if_pos rfl] at hs
        rw [sumN_bump (f := fun v => M0 u v - M u v) (j := p) (u := -1) hp (fun v _ => ?_), hs]
        · rfl
        · by_cases ev : v = p
          · subst ev; rw [if_pos ⟨rfl, rfl⟩, if_pos rfl]; omega
          · rw [if_neg (by rintro ⟨_, h⟩; exact ev h), if_neg (by rintro ⟨h, _⟩; exact eu h), if_neg ev]
      · rw [if_neg ex] at hs
        rw [← hs]
        refine sumN_congr (fun v _ => ?_)
        rw [if_neg (by rintro ⟨h, _⟩; exact ex h), if_neg (by rintro ⟨h, _⟩; exact eu h)]
/-- The rooms when k have been let through. -/
structure Flowed (n : Nat) (c M : Nat → Nat → Int) (k : Int) : Prop where
  nonneg : ∀ u v, 0 ≤ M u v
  anti : ∀ u v, M u v + M v u = c u v + c v u
  part : ∀ u, u < n → u ≠ 1 → sumN (fun v => c u v - M u v) n = if u = 0 then k else 0
theorem Flowed.start {n : Nat} {c : Nat → Nat → Int} (h : ∀ u v, 0 ≤ c u v) : Flowed n c c 0 :=
  ⟨h, fun _ _ => rfl, fun u _ _ => by
    rw [sumN_zero (fun v _ => by omega)]
    split <;> rfl⟩
theorem Flowed.push {n : Nat} {c M M' : Nat → Nat → Int} {k : Int} {rk : Nat → Nat} (h : Flowed n c M k) (h' : Aug n M rk 0 M') : Flowed n c M' (k + 1) := by
  refine ⟨h'.nonneg, fun u v => (h'.anti u v).trans (h.anti u v), fun u hu h1 => ?_⟩
  have e := h.part u hu h1
  have e' := h'.part u hu h1
  rw [sumN_sub] at e e' ⊢
  split <;> rename_i h0
  · rw [if_pos h0] at e e'; omega
  · rw [if_neg h0] at e e'; omega
theorem Flowed.net {n : Nat} {c M : Nat → Nat → Int} {k : Int} (hn : 2 ≤ n) (h : Flowed n c M k) : NetFlow n (fun u v => c u v - M u v) k :=
  ⟨hn, fun u v => by have := h.anti u v; omega, fun u hu h0 h1 => by rw [h.part u hu h1, if_neg h0], by rw [h.part 0 (by omega) (by omega), if_pos rfl]⟩
/-- What is left at the beginning. -/
def mass0 (n : Nat) (M : Nat → Nat → Int) : Nat := (sumN (M 0) n).toNat
theorem mass_push {n : Nat} {M M' : Nat → Nat → Int} {rk : Nat → Nat} (hn : 2 ≤ n) (h' : Aug n M rk 0 M') : mass0 n M' < mass0 n M := by
  have e := h'.part 0 (by omega) (by omega)
  rw [if_pos rfl, sumN_sub] at e
  have := sumN_nonneg (f := M' 0) (n := n) (fun i _ => h'.nonneg 0 i)
  have h1 : sumN (fun v => M 0 v) n = sumN (M 0) n := rfl
  have h2 : sumN (fun v => M' 0 v) n = sumN (M' 0) n := rfl
  unfold mass0
  omega
end Go.Proofs.Ytmmjjfjbhogfgaa
