/- The fewest changes: plain law. -/
import Derived.Test.YtmmjjfjbhogfgaaChain
namespace Go.Proofs.Ytmmjjfjbhogfgaa

/-- What the joints of a list weigh. -/
def wsum (wt : Nat → Nat → Nat) : List Nat → Nat
  | [] => 0
  | [_] => 0
  | i :: j :: s => wt i j + wsum wt (j :: s)
theorem wsum_snoc (wt : Nat → Nat → Nat) (i j : Nat) : ∀ (y : List Nat), (y ++ [i]) ++ [j] = y ++ [i, j] ∧ wsum wt (y ++ [i, j]) = wsum wt (y ++ [i]) + wt i j
  | [] => ⟨rfl, by simp [wsum]⟩
  | [a] => ⟨rfl, by simp [wsum]⟩
  | a :: b :: s => ⟨by simp, by
      have := (wsum_snoc wt i j (b :: s)).2
      simp only [List.cons_append] at this ⊢
      simp only [wsum, this]
      omega⟩
theorem Path.last_eq {m : Nat} {fol : Nat → Nat → Bool} {i : Nat} {y : List Nat} (h : Path m fol (fun k => k == i) y) : ∃ z, y = z ++ [i] := by
  rcases h.unsnoc with e | ⟨z, _, e, _⟩
  · exact ⟨[], e⟩
  · exact ⟨z, e⟩
theorem wsum_join {m : Nat} {fol : Nat → Nat → Bool} {wt : Nat → Nat → Nat} {i j : Nat} {y : List Nat} (h : Path m fol (fun k => k == i) y) : wsum wt (y ++ [j]) = wsum wt y + wt i j := by
  obtain ⟨z, rfl⟩ := h.last_eq
  rw [(wsum_snoc wt i j z).1]
  exact (wsum_snoc wt i j z).2
theorem wsum_le {wt : Nat → Nat → Nat} (h1 : ∀ i j, wt i j ≤ 1) : ∀ (i : Nat) (x : List Nat), wsum wt (i :: x) ≤ x.length
  | _, [] => by simp [wsum]
  | i, j :: s => by
    have := wsum_le h1 j s
    have := h1 i j
    simp only [wsum, List.length_cons]
    omega
theorem Jn.unsnoc {m : Nat} {fol : Nat → Nat → Bool} {first : Nat → Bool} {j : Nat} {x : List Nat} (h : Jn m fol first (fun k => k == j) x) : (x = [j] ∧ first j = true) ∨ ∃ y i, x = y ++ [j] ∧ fol i j = true ∧ Jn m fol first (fun k => k == i) y ∧ j < m ∧ i < m := by
  obtain ⟨a, r, rfl, h1, h2⟩ := h
  rcases h2.unsnoc with e | ⟨y, i, e, hf, hp, hj⟩
  · simp only [List.cons.injEq] at e
    obtain ⟨rfl, rfl⟩ := e
    exact .inl ⟨rfl, h1⟩
  · refine .inr ⟨y, i, e, hf, ?_, hj, ?_⟩
    · cases y with
      | nil => exact hp.elim
      | cons b s =>
        simp only [List.cons_append, List.cons.injEq] at e
        obtain ⟨rfl, _⟩ := e
        exact ⟨a, s, rfl, h1, hp⟩
    · obtain ⟨z, rfl⟩ := hp.last_eq
      exact hp.mem i (by simp)

/-- The fewest changes to each one; -1: it cannot be come to. -/
structure Fewest (m : Nat) (fol : Nat → Nat → Bool) (wt : Nat → Nat → Nat) (first : Nat → Bool) (out : List Int) : Prop where
  length : out.length = m
  low : ∀ i, i < m → -1 ≤ ith out i
  sound : ∀ i, i < m → 0 ≤ ith out i → ∃ y, Jn m fol first (fun k => k == i) y ∧ (wsum wt y : Int) = ith out i
  least : ∀ i y, i < m → Jn m fol first (fun k => k == i) y → 0 ≤ ith out i ∧ ith out i ≤ (wsum wt y : Int)
structure FewIn (m : Nat) (fol : Nat → Nat → Bool) (wt : Nat → Nat → Nat) (first : Nat → Bool) (out : List Int) : Prop where
  length : out.length = m
  low : ∀ i, i < m → -1 ≤ ith out i
  sound : ∀ i, i < m → 0 ≤ ith out i → ∃ y, Jn m fol first (fun k => k == i) y ∧ (wsum wt y : Int) = ith out i
  one : ∀ i, i < m → first i = true → ith out i = 0
def FewEnd (m : Nat) (fol : Nat → Nat → Bool) (wt : Nat → Nat → Nat) (out : List Int) : Prop :=
  ∀ i j, i < m → j < m → 0 ≤ ith out i → fol i j = true → 0 ≤ ith out j ∧ ith out j ≤ ith out i + (wt i j : Int)
theorem FewIn.done {m : Nat} {fol : Nat → Nat → Bool} {wt : Nat → Nat → Nat} {first : Nat → Bool} {out : List Int} (h : FewIn m fol wt first out) (he : FewEnd m fol wt out) : Fewest m fol wt first out := by
  refine ⟨h.length, h.low, h.sound, ?_⟩
  have key : ∀ (q : Nat) (i : Nat) (y : List Nat), y.length ≤ q → i < m → Jn m fol first (fun k => k == i) y → 0 ≤ ith out i ∧ ith out i ≤ (wsum wt y : Int) := by
    intro q
    induction q with
    | zero =>
      intro i y hl _ hj
      obtain ⟨a, r, rfl, _⟩ := hj
      simp at hl
    | succ q ih =>
      intro i y hl hi hj
      rcases hj.unsnoc with ⟨rfl, hf⟩ | ⟨z, k, rfl, hf, hz, _, hk⟩
      · rw [h.one i hi hf]; simp [wsum]
      · have h1 := ih k z (by simp at hl; omega) hk hz
        have h2 := he k i hk hi h1.1 hf
        rw [wsum_join hz.path]
        omega
  exact fun i y hi hj => key y.length i y (Nat.le_refl _) hi hj
theorem FewIn.relax {m : Nat} {fol : Nat → Nat → Bool} {wt : Nat → Nat → Nat} {first : Nat → Bool} {out : List Int} (h : FewIn m fol wt first out) {i j : Nat} (hi : i < m) (hj : j < m) (h0 : 0 ≤ ith out i) (h1 : ith out j < 0 ∨ ith out i + (wt i j : Int) < ith out j) (hf : fol i j = true) :
    FewIn m fol wt first (out.set j (ith out i + (wt i j : Int))) := by
  have hl := h.length
  refine ⟨by simpa using hl, fun k hk => ?_, fun k hk => ?_, fun k hk hfk => ?_⟩
  · rw [ith_set _ _ _ _ (by omega)]
    split
    · omega
    · exact h.low k hk
  · rw [ith_set _ _ _ _ (by omega)]
    split
    · rename_i e
      subst e
      intro _
      obtain ⟨y, hy, hs⟩ := h.sound i hi h0
      exact ⟨y ++ [k], hy.snoc hk hf, by rw [wsum_join hy.path]; omega⟩
    · exact h.sound k hk
  · rw [ith_set _ _ _ _ (by omega)]
    have := h.one k hk hfk
    split
    · rename_i e
      subst e
      omega
    · exact this
def fewF (x : Int) : Nat := if x < 0 then 20000 else x.toNat
theorem FewIn.bound {m : Nat} {fol : Nat → Nat → Bool} {wt : Nat → Nat → Nat} {first : Nat → Bool} {out : List Int} (h : FewIn m fol wt first out) (hw : ∀ i j, wt i j ≤ 1) (t : Nat → Int) (hf : ∀ i j, i < m → j < m → fol i j = true → t i < t j) (hM : ∀ i, i < m → 0 ≤ t i ∧ t i < 10000) :
    ∀ i, i < m → -1 ≤ ith out i ∧ ith out i ≤ 10000 := by
  intro i hi
  refine ⟨h.low i hi, ?_⟩
  by_cases h0 : 0 ≤ ith out i
  · obtain ⟨y, ⟨a, r, rfl, _, hp⟩, hs⟩ := h.sound i hi h0
    have := hp.short t 10000 hf (fun i hi => (hM i hi).2)
    have := (hM a hp.1).1
    have := wsum_le hw a r
    omega
  · omega
theorem mass_few {out : List Int} {i j : Nat} {d : Nat} (hj : j < out.length) (h0 : 0 ≤ ith out i) (hb : ith out i ≤ 10000) (hd : d ≤ 1) (h1 : ith out j < 0 ∨ ith out i + (d : Int) < ith out j) :
    mass fewF (out.set j (ith out i + (d : Int))) < mass fewF out := by
  refine mass_set _ _ _ _ hj ?_
  unfold fewF
  rw [if_neg (by omega)]
  split <;> omega
structure FewSweep (m : Nat) (fol : Nat → Nat → Bool) (wt : Nat → Nat → Nat) (first : Nat → Bool) (xs0 xs : List Int) (mb : Bool) (i j : Nat) : Prop where
  inn : FewIn m fol wt first xs
  calm : mb = false → xs = xs0 ∧ ∀ a b, a < m → b < m → (a < i ∨ (a = i ∧ b < j)) → 0 ≤ ith xs a → fol a b = true → 0 ≤ ith xs b ∧ ith xs b ≤ ith xs a + (wt a b : Int)
  down : mb = true → mass fewF xs < mass fewF xs0
theorem FewSweep.start {m : Nat} {fol : Nat → Nat → Bool} {wt : Nat → Nat → Nat} {first : Nat → Bool} {xs : List Int} (h : FewIn m fol wt first xs) : FewSweep m fol wt first xs xs false 0 0 :=
  ⟨h, fun _ => ⟨rfl, fun a b _ _ h => by omega⟩, fun h => by simp at h⟩
theorem FewSweep.row {m : Nat} {fol : Nat → Nat → Bool} {wt : Nat → Nat → Nat} {first : Nat → Bool} {xs0 xs : List Int} {mb : Bool} {i : Nat} (h : FewSweep m fol wt first xs0 xs mb i m) : FewSweep m fol wt first xs0 xs mb (i + 1) 0 :=
  ⟨h.inn, fun e => ⟨(h.calm e).1, fun a b ha hb hab => (h.calm e).2 a b ha hb (by omega)⟩, h.down⟩
theorem FewSweep.skip {m : Nat} {fol : Nat → Nat → Bool} {wt : Nat → Nat → Nat} {first : Nat → Bool} {xs0 xs : List Int} {mb : Bool} {i j : Nat} (h : FewSweep m fol wt first xs0 xs mb i j) (hn : 0 ≤ ith xs i → fol i j = true → 0 ≤ ith xs j ∧ ith xs j ≤ ith xs i + (wt i j : Int)) : FewSweep m fol wt first xs0 xs mb i (j + 1) := by
  refine ⟨h.inn, fun e => ⟨(h.calm e).1, fun a b ha hb hab h0 hf => ?_⟩, h.down⟩
  by_cases e' : a = i ∧ b = j
  · obtain ⟨rfl, rfl⟩ := e'; exact hn h0 hf
  · exact (h.calm e).2 a b ha hb (by omega) h0 hf
theorem FewSweep.relax {m : Nat} {fol : Nat → Nat → Bool} {wt : Nat → Nat → Nat} {first : Nat → Bool} {xs0 xs : List Int} {mb : Bool} {i j : Nat} (h : FewSweep m fol wt first xs0 xs mb i j) (hi : i < m) (hj : j < m) (h0 : 0 ≤ ith xs i) (hb : ith xs i ≤ 10000) (hd : wt i j ≤ 1) (h1 : ith xs j < 0 ∨ ith xs i + (wt i j : Int) < ith xs j) (hf : fol i j = true) :
    FewSweep m fol wt first xs0 (xs.set j (ith xs i + (wt i j : Int))) true i (j + 1) := by
  refine ⟨h.inn.relax hi hj h0 h1 hf, fun e => by simp at e, fun _ => ?_⟩
  have h2 := mass_few (out := xs) (i := i) (j := j) (d := wt i j) (by rw [h.inn.length]; exact hj) h0 hb hd h1
  cases mb with
  | true => exact Nat.lt_trans h2 (h.down rfl)
  | false => rw [(h.calm rfl).1] at h2 ⊢; exact h2
structure FewHead (m : Nat) (fol : Nat → Nat → Bool) (wt : Nat → Nat → Nat) (first : Nat → Bool) (xs : List Int) (mb : Bool) (q : Nat) : Prop where
  inn : FewIn m fol wt first xs
  stop : mb = false → FewEnd m fol wt xs
  mass : mass fewF xs + mb.toNat ≤ q
theorem FewSweep.head {m : Nat} {fol : Nat → Nat → Bool} {wt : Nat → Nat → Nat} {first : Nat → Bool} {xs0 xs : List Int} {mb : Bool} {q : Nat} (h : FewSweep m fol wt first xs0 xs mb m 0) (h0 : FewHead m fol wt first xs0 true q) : FewHead m fol wt first xs mb (q - 1) ∧ q - 1 < q := by
  have hq := h0.mass
  simp at hq
  refine ⟨⟨h.inn, ?_, ?_⟩, by omega⟩
  · rintro rfl
    exact fun i j hi hj h0 hf => (h.calm rfl).2 i j hi hj (.inl hi) h0 hf
  · cases mb with
    | true => have := h.down rfl; simp; omega
    | false => rw [(h.calm rfl).1]; simp; omega

/-- The record of the arrivals: each one that is earlier than all before. -/
def lastArr (r : List (Int × Int)) : Int := (r.getLastD (0, 0)).2
inductive Rec (Q : Nat → Int → Prop) : Nat → List (Int × Int) → Prop
  | zero : Rec Q 0 []
  | skip {k : Nat} {r : List (Int × Int)} {a : Int} : Rec Q k r → Q k a → (a < 0 ∨ (r ≠ [] ∧ lastArr r ≤ a)) → Rec Q (k + 1) r
  | add {k : Nat} {r : List (Int × Int)} {a : Int} : Rec Q k r → Q k a → 0 ≤ a → (r = [] ∨ a < lastArr r) → Rec Q (k + 1) (r ++ [((k : Int), a)])
theorem Rec.uniq {Q : Nat → Int → Prop} (hQ : ∀ k a b, Q k a → Q k b → a = b) : ∀ {k : Nat} {r s : List (Int × Int)}, Rec Q k r → Rec Q k s → r = s := by
  intro k
  induction k with
  | zero => intro r s h h'; cases h; cases h'; rfl
  | succ k ih =>
    intro r s h h'
    cases h with
    | skip h1 h2 h3 =>
      cases h' with
      | skip h1' h2' h3' => exact ih h1 h1'
      | add h1' h2' h3' h4' =>
        exfalso
        have := ih h1 h1'
        subst this
        have := hQ k _ _ h2 h2'
        subst this
        rcases h3 with h3 | ⟨h3, h5⟩
        · omega
        · rcases h4' with h4' | h4'
          · exact h3 h4'
          · omega
    | add h1 h2 h3 h4 =>
      cases h' with
      | skip h1' h2' h3' =>
        exfalso
        have := ih h1 h1'
        subst this
        have := hQ k _ _ h2 h2'
        subst this
        rcases h3' with h3' | ⟨h3', h5⟩
        · omega
        · rcases h4 with h4 | h4
          · exact h3' h4
          · omega
      | add h1' h2' h3' h4' =>
        have := ih h1 h1'
        subst this
        rw [hQ k _ _ h2 h2']
end Go.Proofs.Ytmmjjfjbhogfgaa
