/- Journeys as lists of numbers of legs: paths, the order of the alphabet, the least path; fewest steps; all plain law with no program in sight. -/
import Derived.Test.YtmmjjfjbhogfgaaOwn
namespace Go.Proofs.Ytmmjjfjbhogfgaa

/-- A path: numbers below m, each one follows the one before it, the last one is one of `last`. -/
def Path (m : Nat) (fol : Nat → Nat → Bool) (last : Nat → Bool) : List Nat → Prop
  | [] => False
  | i :: r => i < m ∧ ((r = [] ∧ last i = true) ∨ (∃ j s, r = j :: s ∧ fol i j = true ∧ Path m fol last r))

theorem Path.one {m : Nat} {fol : Nat → Nat → Bool} {last : Nat → Bool} {i : Nat} (h : i < m) (hl : last i = true) : Path m fol last [i] := ⟨h, .inl ⟨rfl, hl⟩⟩
theorem Path.cons {m : Nat} {fol : Nat → Nat → Bool} {last : Nat → Bool} {i j : Nat} {s : List Nat} (h : i < m) (hf : fol i j = true) (hp : Path m fol last (j :: s)) : Path m fol last (i :: j :: s) :=
  ⟨h, .inr ⟨j, s, rfl, hf, hp⟩⟩
theorem Path.lt {m : Nat} {fol : Nat → Nat → Bool} {last : Nat → Bool} {i : Nat} {s : List Nat} (h : Path m fol last (i :: s)) : i < m := h.1
theorem Path.one_inv {m : Nat} {fol : Nat → Nat → Bool} {last : Nat → Bool} {i : Nat} (h : Path m fol last [i]) : last i = true := by
  rcases h.2 with ⟨_, h⟩ | ⟨j, s, h, _⟩
  · exact h
  · simp at h
theorem Path.cons_inv {m : Nat} {fol : Nat → Nat → Bool} {last : Nat → Bool} {i j : Nat} {s : List Nat} (h : Path m fol last (i :: j :: s)) : fol i j = true ∧ Path m fol last (j :: s) := by
  rcases h.2 with ⟨h, _⟩ | ⟨j', s', h, hf, hp⟩
  · simp at h
  · simp only [List.cons.injEq] at h
    obtain ⟨rfl, rfl⟩ := h
    exact ⟨hf, hp⟩
theorem Path.mem {m : Nat} {fol : Nat → Nat → Bool} {last : Nat → Bool} : ∀ {x : List Nat}, Path m fol last x → ∀ i ∈ x, i < m
  | [], h, _, _ => h.elim
  | [a], h, i, hi => by simp at hi; subst hi; exact h.1
  | a :: b :: s, h, i, hi => by
    rcases List.mem_cons.1 hi with rfl | hi
    · exact h.1
    · exact Path.mem h.cons_inv.2 i hi
theorem Path.mono {m : Nat} {fol : Nat → Nat → Bool} {last last' : Nat → Bool} (hl : ∀ i, i < m → last i = true → last' i = true) : ∀ {x : List Nat}, Path m fol last x → Path m fol last' x
  | [], h => h.elim
  | [a], h => .one h.1 (hl a h.1 h.one_inv)
  | _ :: _ :: _, h => .cons h.1 h.cons_inv.1 (Path.mono hl h.cons_inv.2)
/-- The last one of a path. -/
theorem Path.end_ {m : Nat} {fol : Nat → Nat → Bool} {last : Nat → Bool} : ∀ {x : List Nat}, Path m fol last x → ∃ i, i < m ∧ last i = true ∧ Path m fol (fun j => j == i) x ∧ x.getLast? = some i
  | [], h => h.elim
  | [a], h => ⟨a, h.1, h.one_inv, .one h.1 (by simp), by simp⟩
  | a :: b :: s, h => by
    obtain ⟨i, hi, hl, hp, hg⟩ := Path.end_ h.cons_inv.2
    exact ⟨i, hi, hl, .cons h.1 h.cons_inv.1 hp, by simpa [List.getLast?_cons_cons] using hg⟩
theorem Path.snoc {m : Nat} {fol : Nat → Nat → Bool} {i j : Nat} (hj : j < m) (hf : fol i j = true) : ∀ {x : List Nat}, Path m fol (fun k => k == i) x → Path m fol (fun k => k == j) (x ++ [j])
  | [], h => h.elim
  | [a], h => by
    have : a = i := by simpa using h.one_inv
    subst this
    exact .cons h.1 hf (.one hj (by simp))
  | a :: b :: s, h => by
    have := Path.snoc hj hf h.cons_inv.2
    exact .cons h.1 h.cons_inv.1 this
/-- A path that has more than one: the one before the last. -/
theorem Path.unsnoc {m : Nat} {fol : Nat → Nat → Bool} {j : Nat} : ∀ {x : List Nat}, Path m fol (fun k => k == j) x → x = [j] ∨ ∃ y i, x = y ++ [j] ∧ fol i j = true ∧ Path m fol (fun k => k == i) y ∧ j < m
  | [], h => h.elim
  | [a], h => by
    have : a = j := by simpa using h.one_inv
    subst this
    exact .inl rfl
  | a :: b :: s, h => by
    rcases Path.unsnoc h.cons_inv.2 with e | ⟨y, i, e, hf, hp, hj⟩
    · simp only [List.cons.injEq] at e
      obtain ⟨rfl, rfl⟩ := e
      exact .inr ⟨[a], a, rfl, h.cons_inv.1, .one h.1 (by simp), h.cons_inv.2.1⟩
    · refine .inr ⟨a :: y, i, by rw [e]; rfl, hf, ?_, hj⟩
      cases y with
      | nil => exact hp.elim
      | cons b' y' =>
        simp only [List.cons_append, List.cons.injEq] at e
        obtain ⟨rfl, _⟩ := e
        exact .cons h.1 h.cons_inv.1 hp

/-- The order of the alphabet (of lists of one length). -/
def Lx : List Nat → List Nat → Prop
  | [], _ => True
  | _ :: _, [] => False
  | a :: x, b :: y => a < b ∨ (a = b ∧ Lx x y)
theorem Lx.refl : ∀ x : List Nat, Lx x x
  | [] => trivial
  | _ :: x => .inr ⟨rfl, Lx.refl x⟩
theorem Lx.antisymm : ∀ {x y : List Nat}, x.length = y.length → Lx x y → Lx y x → x = y
  | [], [], _, _, _ => rfl
  | [], _ :: _, h, _, _ => by simp at h
  | _ :: _, [], h, _, _ => by simp at h
  | a :: x, b :: y, h, h1, h2 => by
    rcases h1 with h1 | ⟨rfl, h1⟩
    · rcases h2 with h2 | ⟨e, _⟩ <;> omega
    · rcases h2 with h2 | ⟨_, h2⟩
      · omega
      · rw [Lx.antisymm (by simpa using h) h1 h2]
theorem Lx.trans : ∀ {x y z : List Nat}, Lx x y → Lx y z → Lx x z
  | [], _, _, _, _ => trivial
  | _ :: _, [], _, h, _ => h.elim
  | _ :: _, _ :: _, [], _, h => h.elim
  | a :: x, b :: y, c :: z, h1, h2 => by
    rcases h1 with h1 | ⟨rfl, h1⟩
    · rcases h2 with h2 | ⟨rfl, _⟩
      · exact .inl (by omega)
      · exact .inl h1
    · rcases h2 with h2 | ⟨rfl, h2⟩
      · exact .inl h2
      · exact .inr ⟨rfl, Lx.trans h1 h2⟩
theorem Lx.total : ∀ (x y : List Nat), x.length = y.length → Lx x y ∨ Lx y x
  | [], _, _ => .inl trivial
  | _ :: _, [], h => by simp at h
  | a :: x, b :: y, h => by
    rcases Nat.lt_trichotomy a b with h' | rfl | h'
    · exact .inl (.inl h')
    · rcases Lx.total x y (by simpa using h) with h | h
      · exact .inl (.inr ⟨rfl, h⟩)
      · exact .inr (.inr ⟨rfl, h⟩)
    · exact .inr (.inl h')
theorem Lx.append : ∀ {x y : List Nat} (z : List Nat), Lx x y → x.length = y.length → Lx (x ++ z) (y ++ z)
  | [], [], z, _, _ => Lx.refl z
  | [], _ :: _, _, _, h => by simp at h
  | _ :: _, [], _, h, _ => h.elim
  | a :: x, b :: y, z, h, e => by
    rcases h with h | ⟨rfl, h⟩
    · exact .inl h
    · exact .inr ⟨rfl, Lx.append z h (by simpa using e)⟩
theorem Lx.prefix_ : ∀ {x y : List Nat} (z : List Nat), Lx x y → Lx (z ++ x) (z ++ y)
  | _, _, [], h => h
  | _, _, _ :: z, h => .inr ⟨rfl, Lx.prefix_ z h⟩

/-- A journey: a path whose first one is one of `first`. -/
def Jn (m : Nat) (fol : Nat → Nat → Bool) (first last : Nat → Bool) (x : List Nat) : Prop := ∃ i r, x = i :: r ∧ first i = true ∧ Path m fol last x
theorem Jn.path {m : Nat} {fol : Nat → Nat → Bool} {first last : Nat → Bool} {x : List Nat} (h : Jn m fol first last x) : Path m fol last x := by
  obtain ⟨_, _, _, _, h⟩ := h; exact h
theorem Jn.mk' {m : Nat} {fol : Nat → Nat → Bool} {first last : Nat → Bool} {i : Nat} {r : List Nat} (h : first i = true) (hp : Path m fol last (i :: r)) : Jn m fol first last (i :: r) := ⟨i, r, rfl, h, hp⟩
theorem Jn.mono {m : Nat} {fol : Nat → Nat → Bool} {first last first' last' : Nat → Bool} {x : List Nat} (h : Jn m fol first last x) (hf : ∀ i, i < m → first i = true → first' i = true) (hl : ∀ i, i < m → last i = true → last' i = true) :
    Jn m fol first' last' x := by
  obtain ⟨i, r, e, h1, h2⟩ := h
  exact ⟨i, r, e, hf i (by subst e; exact h2.1) h1, h2.mono hl⟩
theorem Jn.end_ {m : Nat} {fol : Nat → Nat → Bool} {first last : Nat → Bool} {x : List Nat} (h : Jn m fol first last x) : ∃ i, i < m ∧ last i = true ∧ Jn m fol first (fun j => j == i) x ∧ x.getLast? = some i := by
  obtain ⟨a, r, e, h1, h2⟩ := h
  obtain ⟨i, hi, hl, hp, hg⟩ := h2.end_
  exact ⟨i, hi, hl, ⟨a, r, e, h1, hp⟩, hg⟩
theorem Jn.of_end {m : Nat} {fol : Nat → Nat → Bool} {first last : Nat → Bool} {x : List Nat} {i : Nat} (h : Jn m fol first (fun j => j == i) x) (hl : last i = true) : Jn m fol first last x :=
  h.mono (fun _ _ h => h) (fun j _ e => by simp at e; subst e; exact hl)
theorem Jn.snoc {m : Nat} {fol : Nat → Nat → Bool} {first : Nat → Bool} {x : List Nat} {i j : Nat} (h : Jn m fol first (fun k => k == i) x) (hj : j < m) (hf : fol i j = true) : Jn m fol first (fun k => k == j) (x ++ [j]) := by
  obtain ⟨a, r, rfl, h1, h2⟩ := h
  exact ⟨a, r ++ [j], rfl, h1, h2.snoc hj hf⟩
theorem Jn.one {m : Nat} {fol : Nat → Nat → Bool} {first : Nat → Bool} {i : Nat} (h : first i = true) (hi : i < m) : Jn m fol first (fun k => k == i) [i] := ⟨i, [], rfl, h, .one hi (by simp)⟩

/-- The least journey: as few as may be, of these the first in order. -/
def Least (m : Nat) (fol : Nat → Nat → Bool) (first last : Nat → Bool) (x : List Nat) : Prop :=
  Jn m fol first last x ∧ ∀ y, Jn m fol first last y → x.length < y.length ∨ (x.length = y.length ∧ Lx x y)
theorem Least.uniq {m : Nat} {fol : Nat → Nat → Bool} {first last : Nat → Bool} {x y : List Nat} (hx : Least m fol first last x) (hy : Least m fol first last y) : x = y := by
  rcases hx.2 y hy.1 with h | ⟨h, h1⟩
  · rcases hy.2 x hx.1 with h' | ⟨h', _⟩ <;> omega
  · rcases hy.2 x hx.1 with h' | ⟨_, h2⟩
    · omega
    · exact Lx.antisymm h h1 h2
theorem Least.congr {m : Nat} {fol : Nat → Nat → Bool} {first last first' last' : Nat → Bool} {x : List Nat} (h : Least m fol first last x) (hf : ∀ i, i < m → first i = first' i) (hl : ∀ i, i < m → last i = last' i) : Least m fol first' last' x :=
  ⟨h.1.mono (fun i hi h => by rw [← hf i hi]; exact h) (fun i hi h => by rw [← hl i hi]; exact h),
   fun y hy => h.2 y (hy.mono (fun i hi h => by rw [hf i hi]; exact h) (fun i hi h => by rw [hl i hi]; exact h))⟩

/-- Times rise along paths, below M: so paths are short. -/
theorem Path.short {m : Nat} {fol : Nat → Nat → Bool} {last : Nat → Bool} (t : Nat → Int) (M : Int) (hf : ∀ i j, i < m → j < m → fol i j = true → t i < t j) (hM : ∀ i, i < m → t i < M) : ∀ {i : Nat} {x : List Nat}, Path m fol last (i :: x) → t i + (x.length : Int) < M
  | i, [], h => by simpa using hM i h.1
  | i, j :: s, h => by
    have := Path.short t M hf hM h.cons_inv.2
    have := hf i j h.1 h.cons_inv.2.1 h.cons_inv.1
    simp only [List.length_cons]
    omega

/-- The fewest legs from each one to a last one. -/
structure Steps (m : Nat) (fol : Nat → Nat → Bool) (last : Nat → Bool) (out : List Int) : Prop where
  length : out.length = m
  nonneg : ∀ i, i < m → 0 ≤ ith out i
  sound : ∀ i, i < m → 0 < ith out i → ∃ x : List Nat, Path m fol last (i :: x) ∧ (x.length : Int) + 1 = ith out i
  least : ∀ (i : Nat) (x : List Nat), Path m fol last (i :: x) → 0 < ith out i ∧ ith out i ≤ (x.length : Int) + 1

/-- What holds while they are sought. -/
structure StepsIn (m : Nat) (fol : Nat → Nat → Bool) (last : Nat → Bool) (out : List Int) : Prop where
  length : out.length = m
  nonneg : ∀ i, i < m → 0 ≤ ith out i
  sound : ∀ i, i < m → 0 < ith out i → ∃ x : List Nat, Path m fol last (i :: x) ∧ (x.length : Int) + 1 = ith out i
  one : ∀ i, i < m → last i = true → ith out i = 1

/-- Nothing is left to be done. -/
def StepsEnd (m : Nat) (fol : Nat → Nat → Bool) (out : List Int) : Prop :=
  ∀ i j, i < m → j < m → 0 < ith out j → fol i j = true → 0 < ith out i ∧ ith out i ≤ ith out j + 1

theorem StepsIn.done {m : Nat} {fol : Nat → Nat → Bool} {last : Nat → Bool} {out : List Int} (h : StepsIn m fol last out) (he : StepsEnd m fol out) : Steps m fol last out := by
  refine ⟨h.length, h.nonneg, h.sound, ?_⟩
  intro i x
  induction x generalizing i with
  | nil => intro hp; rw [h.one i hp.1 hp.one_inv]; simp
  | cons j s ih =>
    intro hp
    have h1 := ih j hp.cons_inv.2
    have h2 := he i j hp.1 hp.cons_inv.2.1 h1.1 hp.cons_inv.1
    simp only [List.length_cons]
    omega

theorem StepsIn.relax {m : Nat} {fol : Nat → Nat → Bool} {last : Nat → Bool} {out : List Int} (h : StepsIn m fol last out) {i j : Nat} (hi : i < m) (hj : j < m) (h0 : 0 < ith out j) (h1 : ith out i = 0 ∨ ith out j + 1 < ith out i) (hf : fol i j = true) :
    StepsIn m fol last (out.set i (ith out j + 1)) := by
  have hl := h.length
  refine ⟨by simpa using hl, ?_, ?_, ?_⟩
  · intro k hk
    rw [ith_set _ _ _ _ (by omega)]
    split
    · omega
    · exact h.nonneg k hk
  · intro k hk
    rw [ith_set _ _ _ _ (by omega)]
    split
    · rename_i e
      subst e
      intro _
      obtain ⟨x, hp, hx⟩ := h.sound j hj h0
      exact ⟨j :: x, .cons hk hf hp, by simp only [List.length_cons]; omega⟩
    · exact h.sound k hk
  · intro k hk hlast
    rw [ith_set _ _ _ _ (by omega)]
    have := h.one k hk hlast
    split
    · rename_i e
      subst e
      omega
    · exact this

/-- A measure that goes down. -/
def mass (f : Int → Nat) (xs : List Int) : Nat := (xs.map f).sum
theorem mass_set (f : Int → Nat) : ∀ (xs : List Int) (k : Nat) (x : Int), k < xs.length → f x < f (ith xs k) → mass f (xs.set k x) < mass f xs
  | [], k, _, h, _ => by simp at h
  | a :: r, 0, x, _, h => by simp [mass, ith] at h ⊢; omega
  | a :: r, k + 1, x, hk, h => by
    have := mass_set f r k x (by simpa using hk) (by simpa [ith] using h)
    simp [mass] at this ⊢
    omega
def stepsF (x : Int) : Nat := if x = 0 then 20000 else x.toNat
theorem StepsIn.bound {m : Nat} {fol : Nat → Nat → Bool} {last : Nat → Bool} {out : List Int} (h : StepsIn m fol last out) (t : Nat → Int) (hf : ∀ i j, i < m → j < m → fol i j = true → t i < t j) (hM : ∀ i, i < m → 0 ≤ t i ∧ t i < 10000) :
    ∀ i, i < m → 0 ≤ ith out i ∧ ith out i ≤ 10000 := by
  intro i hi
  refine ⟨h.nonneg i hi, ?_⟩
  by_cases h0 : 0 < ith out i
  · obtain ⟨x, hp, hx⟩ := h.sound i hi h0
    have := hp.short t 10000 hf (fun i hi => (hM i hi).2)
    have := (hM i hi).1
    omega
  · omega
theorem mass_relax {out : List Int} {i j : Nat} (hi : i < out.length) (h0 : 0 < ith out j) (hb : ith out j ≤ 10000) (h1 : ith out i = 0 ∨ ith out j + 1 < ith out i) :
    mass stepsF (out.set i (ith out j + 1)) < mass stepsF out := by
  refine mass_set _ _ _ _ hi ?_
  unfold stepsF
  rw [if_neg (by omega)]
  split <;> omega

/-- All pairs before (i, j) are at rest. -/
def Calm (m : Nat) (fol : Nat → Nat → Bool) (xs : List Int) (i j : Nat) : Prop :=
  ∀ a b, a < m → b < m → (a < i ∨ (a = i ∧ b < j)) → 0 < ith xs b → fol a b = true → 0 < ith xs a ∧ ith xs a ≤ ith xs b + 1
structure Sweep (m : Nat) (fol : Nat → Nat → Bool) (last : Nat → Bool) (xs0 xs : List Int) (mb : Bool) (i j : Nat) : Prop where
  inn : StepsIn m fol last xs
  calm : mb = false → xs = xs0 ∧ Calm m fol xs i j
  down : mb = true → mass stepsF xs < mass stepsF xs0
theorem Sweep.start {m : Nat} {fol : Nat → Nat → Bool} {last : Nat → Bool} {xs : List Int} (h : StepsIn m fol last xs) : Sweep m fol last xs xs false 0 0 :=
  ⟨h, fun _ => ⟨rfl, fun a b _ _ h => by omega⟩, fun h => by simp at h⟩
theorem Sweep.row {m : Nat} {fol : Nat → Nat → Bool} {last : Nat → Bool} {xs0 xs : List Int} {mb : Bool} {i : Nat} (h : Sweep m fol last xs0 xs mb i m) : Sweep m fol last xs0 xs mb (i + 1) 0 :=
  ⟨h.inn, fun e => ⟨(h.calm e).1, fun a b ha hb hab => (h.calm e).2 a b ha hb (by omega)⟩, h.down⟩
theorem Sweep.skip {m : Nat} {fol : Nat → Nat → Bool} {last : Nat → Bool} {xs0 xs : List Int} {mb : Bool} {i j : Nat} (h : Sweep m fol last xs0 xs mb i j) (hn : 0 < ith xs j → fol i j = true → 0 < ith xs i ∧ ith xs i ≤ ith xs j + 1) : Sweep m fol last xs0 xs mb i (j + 1) := by
  refine ⟨h.inn, fun e => ⟨(h.calm e).1, fun a b ha hb hab h0 hf => ?_⟩, h.down⟩
  by_cases e' : a = i ∧ b = j
  · obtain ⟨rfl, rfl⟩ := e'; exact hn h0 hf
  · exact (h.calm e).2 a b ha hb (by omega) h0 hf
theorem Sweep.relax {m : Nat} {fol : Nat → Nat → Bool} {last : Nat → Bool} {xs0 xs : List Int} {mb : Bool} {i j : Nat} (h : Sweep m fol last xs0 xs mb i j) (hi : i < m) (hj : j < m) (h0 : 0 < ith xs j) (hb : ith xs j ≤ 10000) (h1 : ith xs i = 0 ∨ ith xs j + 1 < ith xs i) (hf : fol i j = true) :
    Sweep m fol last xs0 (xs.set i (ith xs j + 1)) true i (j + 1) := by
  refine ⟨h.inn.relax hi hj h0 h1 hf, fun e => by simp at e, fun _ => ?_⟩
  have h2 := mass_relax (out := xs) (i := i) (j := j) (by rw [h.inn.length]; exact hi) h0 hb h1
  cases mb with
  | true => exact Nat.lt_trans h2 (h.down rfl)
  | false => rw [(h.calm rfl).1] at h2 ⊢; exact h2
theorem Sweep.stop {m : Nat} {fol : Nat → Nat → Bool} {last : Nat → Bool} {xs0 xs : List Int} (h : Sweep m fol last xs0 xs false m 0) : StepsEnd m fol xs :=
  fun i j hi hj h0 hf => (h.calm rfl).2 i j hi hj (.inl hi) h0 hf

/-- What holds at the head of the search for steps. -/
structure StepsHead (m : Nat) (fol : Nat → Nat → Bool) (last : Nat → Bool) (xs : List Int) (mb : Bool) (q : Nat) : Prop where
  inn : StepsIn m fol last xs
  stop : mb = false → StepsEnd m fol xs
  mass : mass stepsF xs + mb.toNat ≤ q
theorem Sweep.head {m : Nat} {fol : Nat → Nat → Bool} {last : Nat → Bool} {xs0 xs : List Int} {mb : Bool} {q : Nat} (h : Sweep m fol last xs0 xs mb m 0) (h0 : StepsHead m fol last xs0 true q) : StepsHead m fol last xs mb (q - 1) ∧ q - 1 < q := by
  have hq := h0.mass
  simp at hq
  refine ⟨⟨h.inn, ?_, ?_⟩, by omega⟩
  · rintro rfl; exact h.stop
  · cases mb with
    | true => have := h.down rfl; simp; omega
    | false => rw [(h.calm rfl).1]; simp; omega

/-- The walk along the steps: what has been gathered is the beginning of the least journey. -/
def Greedy (m : Nat) (fol : Nat → Nat → Bool) (first last : Nat → Bool) (xs : List Nat) (b : Nat) : Prop :=
  ∃ pre, xs = pre ++ [b] ∧ b < m ∧ ∀ y, Least m fol (fun k => k == b) last (b :: y) → Least m fol first last (pre ++ b :: y)

theorem Steps.least_one {m : Nat} {fol : Nat → Nat → Bool} {last : Nat → Bool} {out : List Int} (h : Steps m fol last out) {b : Nat} (hb : b < m) (h1 : ith out b = 1) : Least m fol (fun k => k == b) last [b] := by
  obtain ⟨x, hp, hx⟩ := h.sound b hb (by omega)
  have : x = [] := by
    cases x with
    | nil => rfl
    | cons a r => simp at hx; omega
  subst this
  refine ⟨⟨b, [], rfl, by simp, hp⟩, ?_⟩
  rintro y ⟨i, r, rfl, hi, hpy⟩
  have : i = b := by simpa using hi
  subst this
  cases r with
  | nil => exact .inr ⟨rfl, Lx.refl _⟩
  | cons a r => exact .inl (by simp)

theorem Greedy.begin {m : Nat} {fol : Nat → Nat → Bool} {first last : Nat → Bool} {out : List Int} (h : Steps m fol last out) {b : Nat} (hb : b < m) (hf : first b = true) (h0 : 0 < ith out b)
    (hmin : ∀ i, i < m → first i = true → 0 < ith out i → ith out b < ith out i ∨ (ith out b = ith out i ∧ b ≤ i)) : Greedy m fol first last [b] b := by
  refine ⟨[], rfl, hb, fun y hy => ?_⟩
  obtain ⟨⟨i, r, e, hi, hp⟩, hmin'⟩ := hy
  refine ⟨⟨b, y, rfl, hf, hp⟩, ?_⟩
  rintro z ⟨k, s, rfl, hk, hpz⟩
  have hs := h.least k s hpz
  obtain ⟨x, hpx, hx⟩ := h.sound b hb h0
  have hlen : (y.length : Int) + 1 = ith out b := by
    have h1 := (h.least b y hp).2
    rcases hmin' (b :: x) ⟨b, x, rfl, by simp, hpx⟩ with h2 | ⟨h2, _⟩
    · simp at h2; omega
    · simp at h2; omega
  rcases hmin k hpz.1 hk hs.1 with h3 | ⟨h3, h4⟩
  · left; simp; omega
  · by_cases hls : (s.length : Int) + 1 = ith out k
    · by_cases e : b = k
      · subst e
        exact hmin' (b :: s) ⟨b, s, rfl, by simp, hpz⟩
      · right; exact ⟨by simp; omega, .inl (by omega)⟩
    · left; simp; omega

theorem Greedy.next {m : Nat} {fol : Nat → Nat → Bool} {first last : Nat → Bool} {out : List Int} (h : Steps m fol last out) {b j : Nat} {xs : List Nat} (hg : Greedy m fol first last xs b) (h1 : 1 < ith out b) (hj : j < m) (hf : fol b j = true) (hs : ith out j = ith out b - 1)
    (hmin : ∀ i, i < j → ¬ (ith out i = ith out b - 1 ∧ 0 < ith out i ∧ fol b i = true)) : Greedy m fol first last (xs ++ [j]) j := by
  obtain ⟨pre, rfl, hb, hall⟩ := hg
  refine ⟨pre ++ [b], rfl, hj, fun y hy => ?_⟩
  have := hall (j :: y) ?_
  · simpa using this
  obtain ⟨⟨i, r, e, hi, hp⟩, hmin'⟩ := hy
  refine ⟨⟨b, j :: y, rfl, by simp, .cons hb hf hp⟩, ?_⟩
  rintro z ⟨k, s, rfl, hk, hpz⟩
  have : k = b := by simpa using hk
  subst this
  have hlen : (y.length : Int) + 1 = ith out j := by
    obtain ⟨x, hpx, hx⟩ := h.sound j hj (by omega)
    have h1 := (h.least j y hp).2
    rcases hmin' (j :: x) ⟨j, x, rfl, by simp, hpx⟩ with h2 | ⟨h2, _⟩
    · simp at h2; omega
    · simp at h2; omega
  cases s with
  | nil =>
    have := (h.least k [] hpz).2
    simp at this
    omega
  | cons a s =>
    have h2 := h.least a s hpz.cons_inv.2
    have h3 := h.least k (a :: s) hpz
    simp only [List.length_cons] at h3
    by_cases hls : (s.length : Int) + 1 = ith out j
    · right
      refine ⟨by simp; omega, .inr ⟨rfl, ?_⟩⟩
      have ha : ith out a = ith out k - 1 := by
        obtain ⟨y', hpy, hy'⟩ := h.sound a hpz.cons_inv.2.1 h2.1
        have h4 := (h.least k (a :: y') (.cons hb hpz.cons_inv.1 hpy)).2
        simp only [List.length_cons] at h4
        omega
      have hja : j ≤ a := by
        rcases Nat.lt_or_ge a j with h' | h'
        · exact (hmin a h' ⟨ha, h2.1, hpz.cons_inv.1⟩).elim
        · exact h'
      by_cases e : j = a
      · subst e
        rcases hmin' (j :: s) ⟨j, s, rfl, by simp, hpz.cons_inv.2⟩ with h' | ⟨_, h'⟩
        · simp at h'; omega
        · exact h'
      · exact .inl (by omega)
    · left; simp; omega

theorem Greedy.done {m : Nat} {fol : Nat → Nat → Bool} {first last : Nat → Bool} {out : List Int} (h : Steps m fol last out) {b : Nat} {xs : List Nat} (hg : Greedy m fol first last xs b) (h1 : ith out b = 1) : Least m fol first last xs := by
  obtain ⟨pre, rfl, hb, hall⟩ := hg
  exact hall [] (h.least_one hb h1)

/-- There is a next one as long as there are more than one step. -/
theorem Steps.next {m : Nat} {fol : Nat → Nat → Bool} {last : Nat → Bool} {out : List Int} (h : Steps m fol last out) {b : Nat} (hb : b < m) (h1 : 1 < ith out b) : ∃ j, j < m ∧ ith out j = ith out b - 1 ∧ 0 < ith out j ∧ fol b j = true := by
  obtain ⟨x, hp, hx⟩ := h.sound b hb (by omega)
  cases x with
  | nil => simp at hx; omega
  | cons j s =>
    have h2 := h.least j s hp.cons_inv.2
    obtain ⟨y, hpy, hy⟩ := h.sound j hp.cons_inv.2.1 h2.1
    have h3 := h.least b (j :: y) (.cons hb hp.cons_inv.1 hpy)
    simp only [List.length_cons] at hx h3
    exact ⟨j, hp.cons_inv.2.1, by omega, h2.1, hp.cons_inv.1⟩
theorem Steps.some {m : Nat} {fol : Nat → Nat → Bool} {first last : Nat → Bool} {out : List Int} (h : Steps m fol last out) : (∃ i, i < m ∧ first i = true ∧ 0 < ith out i) ↔ ∃ x, Jn m fol first last x := by
  constructor
  · rintro ⟨i, hi, hf, h0⟩
    obtain ⟨x, hp, _⟩ := h.sound i hi h0
    exact ⟨i :: x, i, x, rfl, hf, hp⟩
  · rintro ⟨x, i, r, rfl, hf, hp⟩
    exact ⟨i, hp.1, hf, (h.least i r hp).1⟩

/-- The legs that can be in a journey that begins with some: while they are sought, and at the end. -/
structure ReachIn (m : Nat) (fol : Nat → Nat → Bool) (first : Nat → Bool) (out : List Bool) (todo : List Nat) : Prop where
  length : out.length = m
  sound : ∀ i, i < m → bth out i = true → ∃ y, Jn m fol first (fun k => k == i) y
  first : ∀ i, i < m → first i = true → bth out i = true
  queued : ∀ i ∈ todo, i < m ∧ bth out i = true
  closed : ∀ i j, i < m → j < m → bth out i = true → i ∉ todo → fol i j = true → bth out j = true
def Reach (m : Nat) (fol : Nat → Nat → Bool) (first : Nat → Bool) (out : List Bool) : Prop :=
  out.length = m ∧ ∀ i, i < m → (bth out i = true ↔ ∃ y, Jn m fol first (fun k => k == i) y)
theorem Reach.of {m : Nat} {fol : Nat → Nat → Bool} {first : Nat → Bool} {out : List Bool} (hl : out.length = m) (hs : ∀ i, i < m → bth out i = true → ∃ y, Jn m fol first (fun k => k == i) y) (hf : ∀ i, i < m → first i = true → bth out i = true)
    (hc : ∀ i j, i < m → j < m → bth out i = true → fol i j = true → bth out j = true) : Reach m fol first out := by
  refine ⟨hl, fun i hi => ⟨hs i hi, ?_⟩⟩
  rintro ⟨y, a, r, rfl, h1, hp⟩
  have key : ∀ (r : List Nat) (a : Nat), bth out a = true → Path m fol (fun k => k == i) (a :: r) → bth out i = true := by
    intro r
    induction r with
    | nil =>
      intro a ha hp
      have : a = i := by simpa using hp.one_inv
      subst this; exact ha
    | cons b s ih =>
      intro a ha hp
      exact ih b (hc a b hp.1 hp.cons_inv.2.1 ha hp.cons_inv.1) hp.cons_inv.2
  exact key r a (hf a hp.1 h1) hp
theorem ReachIn.done {m : Nat} {fol : Nat → Nat → Bool} {first : Nat → Bool} {out : List Bool} (h : ReachIn m fol first out []) : Reach m fol first out :=
  Reach.of h.length h.sound h.first (fun i j hi hj h1 h2 => h.closed i j hi hj h1 (by simp) h2)
end Go.Proofs.Ytmmjjfjbhogfgaa
