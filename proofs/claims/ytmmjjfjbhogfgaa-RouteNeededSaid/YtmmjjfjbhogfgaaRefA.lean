/- The specification's journeys: rows of numbers in memory, and the plain law of the least journey of so many legs. -/
import Derived.Test.YtmmjjfjbhogfgaaLawA
import Derived.Test.YtmmjjfjbhogfgaaGood
namespace Go.Proofs.Ytmmjjfjbhogfgaa
open Go.RowKit

/-- The least of the lists with a property. -/
def LeastOf (P : List Nat → Prop) (o : Option (List Nat)) : Prop := (o = none ∧ ∀ x, ¬ P x) ∨ ∃ x, o = some x ∧ P x ∧ ∀ y, P y → Lx x y
/-- A journey with k + 1 legs that ends with leg i. -/
def JK (m : Nat) (fol : Nat → Nat → Bool) (first : Nat → Bool) (k i : Nat) (x : List Nat) : Prop := Jn m fol first (fun q => q == i) x ∧ x.length = k + 1
theorem LeastOf.congr {P Q : List Nat → Prop} {o : Option (List Nat)} (h : LeastOf P o) (hpq : ∀ x, P x ↔ Q x) : LeastOf Q o := by
  rcases h with ⟨h1, h2⟩ | ⟨x, h1, h2, h3⟩
  · exact .inl ⟨h1, fun x hx => h2 x ((hpq x).2 hx)⟩
  · exact .inr ⟨x, h1, (hpq x).1 h2, fun y hy => h3 y ((hpq y).2 hy)⟩
theorem LeastOf.take {P Q P' : List Nat → Prop} {o : Option (List Nat)} {c : List Nat} (h : LeastOf P o) (hc : Q c) (hmin : ∀ y, Q y → Lx c y) (hP : ∀ x, P' x ↔ P x ∨ Q x) (hz : ∀ z, o = some z → Lx c z) : LeastOf P' (some c) := by
  refine .inr ⟨c, rfl, (hP c).2 (.inr hc), fun y hy => ?_⟩
  rcases (hP y).1 hy with hy | hy
  · rcases h with ⟨_, h⟩ | ⟨z, h1, _, h3⟩
    · exact (h y hy).elim
    · exact (hz z h1).trans (h3 y hy)
  · exact hmin y hy
theorem LeastOf.keep {P Q P' : List Nat → Prop} {z c : List Nat} (h : LeastOf P (some z)) (hmin : ∀ y, Q y → Lx c y) (hP : ∀ x, P' x ↔ P x ∨ Q x) (hz : Lx z c) : LeastOf P' (some z) := by
  rcases h with ⟨h, _⟩ | ⟨x, h1, h2, h3⟩
  · cases h
  · cases h1
    refine .inr ⟨z, rfl, (hP z).2 (.inl h2), fun y hy => ?_⟩
    rcases (hP y).1 hy with hy | hy
    · exact h3 y hy
    · exact hz.trans (hmin y hy)
theorem LeastOf.skip {P Q P' : List Nat → Prop} {o : Option (List Nat)} (h : LeastOf P o) (hQ : ∀ x, ¬ Q x) (hP : ∀ x, P' x ↔ P x ∨ Q x) : LeastOf P' o :=
  h.congr (fun x => by rw [hP x]; exact ⟨.inl, fun h => h.elim id (fun h => (hQ x h).elim)⟩)
theorem LeastOf.mem {P : List Nat → Prop} {x : List Nat} (h : LeastOf P (some x)) : P x ∧ ∀ y, P y → Lx x y := by
  rcases h with ⟨h, _⟩ | ⟨z, h1, h2, h3⟩
  · cases h
  · cases h1; exact ⟨h2, h3⟩
theorem LeastOf.no {P : List Nat → Prop} (h : LeastOf P none) : ∀ x, ¬ P x := by
  rcases h with ⟨_, h⟩ | ⟨z, h1, _⟩
  · exact h
  · cases h1

/-- What has grown out of the first j ones before. -/
def GrewTo (m : Nat) (fol : Nat → Nat → Bool) (first : Nat → Bool) (k i j : Nat) (x : List Nat) : Prop := ∃ q y, q < j ∧ q < m ∧ fol q i = true ∧ JK m fol first k q y ∧ x = y ++ [i]
def GrewOf (m : Nat) (fol : Nat → Nat → Bool) (first : Nat → Bool) (k i q : Nat) (x : List Nat) : Prop := q < m ∧ fol q i = true ∧ ∃ y, JK m fol first k q y ∧ x = y ++ [i]
theorem grew_succ {m : Nat} {fol : Nat → Nat → Bool} {first : Nat → Bool} {k i j : Nat} (x : List Nat) : GrewTo m fol first k i (j + 1) x ↔ GrewTo m fol first k i j x ∨ GrewOf m fol first k i j x := by
  constructor
  · rintro ⟨q, y, h1, h2, h3, h4, h5⟩
    by_cases e : q = j
    · subst e; exact .inr ⟨h2, h3, y, h4, h5⟩
    · exact .inl ⟨q, y, by omega, h2, h3, h4, h5⟩
  · rintro (⟨q, y, h1, h2, h3, h4, h5⟩ | ⟨h2, h3, y, h4, h5⟩)
    · exact ⟨q, y, by omega, h2, h3, h4, h5⟩
    · exact ⟨j, y, by omega, h2, h3, h4, h5⟩
theorem grew_end {m : Nat} {fol : Nat → Nat → Bool} {first : Nat → Bool} {k i : Nat} (hi : i < m) (x : List Nat) : GrewTo m fol first k i m x ↔ JK m fol first (k + 1) i x := by
  constructor
  · rintro ⟨q, y, _, h2, h3, ⟨h4, h6⟩, rfl⟩
    exact ⟨h4.snoc hi h3, by simp [h6]⟩
  · rintro ⟨h1, h2⟩
    rcases h1.unsnoc with ⟨rfl, _⟩ | ⟨y, q, rfl, h3, h4, _, h5⟩
    · simp at h2
    · exact ⟨q, y, h5, h5, h3, ⟨h4, by simp at h2; omega⟩, rfl⟩
theorem grew_zero {m : Nat} {fol : Nat → Nat → Bool} {first : Nat → Bool} {k i : Nat} : LeastOf (GrewTo m fol first k i 0) none :=
  .inl ⟨rfl, by rintro x ⟨q, y, h, _⟩; omega⟩
theorem jk_zero {m : Nat} {fol : Nat → Nat → Bool} {first : Nat → Bool} {i : Nat} (hi : i < m) : LeastOf (JK m fol first 0 i) (if first i = true then some [i] else none) := by
  have key : ∀ x, JK m fol first 0 i x ↔ first i = true ∧ x = [i] := by
    intro x
    constructor
    · rintro ⟨h1, h2⟩
      rcases h1.unsnoc with ⟨rfl, h⟩ | ⟨y, q, rfl, _, h4, _⟩
      · exact ⟨h, rfl⟩
      · obtain ⟨a, r, rfl, _⟩ := h4
        simp at h2
    · rintro ⟨h1, rfl⟩
      exact ⟨.one h1 hi, rfl⟩
  split
  · rename_i h
    exact .inr ⟨[i], rfl, (key _).2 ⟨h, rfl⟩, fun y hy => by rw [((key y).1 hy).2]; exact Lx.refl _⟩
  · rename_i h
    exact .inl ⟨rfl, fun x hx => h ((key x).1 hx).1⟩

/-- The order of the alphabet, as the specification asks for it. -/
def lessB : List Nat → List Nat → Bool
  | [], _ => false
  | _ :: _, [] => false
  | a :: x, b :: y => if a = b then lessB x y else decide (a < b)
theorem lessB_true : ∀ {x y : List Nat}, x.length = y.length → lessB x y = true → Lx x y
  | [], _, _, h => by simp [lessB] at h
  | _ :: _, [], h, _ => by simp at h
  | a :: x, b :: y, hl, h => by
    unfold lessB at h
    split at h
    · rename_i e; subst e; exact .inr ⟨rfl, lessB_true (by simpa using hl) h⟩
    · exact .inl (by simpa using h)
theorem lessB_false : ∀ {x y : List Nat}, x.length = y.length → lessB x y = false → Lx y x
  | [], [], _, _ => trivial
  | [], _ :: _, h, _ => by simp at h
  | _ :: _, [], h, _ => by simp at h
  | a :: x, b :: y, hl, h => by
    unfold lessB at h
    split at h
    · rename_i e; subst e; exact .inr ⟨rfl, lessB_false (by simpa using hl) h⟩
    · rename_i e
      simp at h
      exact .inl (by omega)
theorem lessB_drop : ∀ (k : Nat) (x y : List Nat), k < x.length → k < y.length → (∀ j, j < k → x.getD j 0 = y.getD j 0) → lessB x y = if x.getD k 0 = y.getD k 0 then lessB (x.drop (k + 1)) (y.drop (k + 1)) else decide (x.getD k 0 < y.getD k 0)
  | _, [], _, h, _, _ => by simp at h
  | _, _ :: _, [], _, h, _ => by simp at h
  | 0, a :: x, b :: y, _, _, _ => by simp [lessB]
  | k + 1, a :: x, b :: y, h1, h2, h => by
    have h0 := h 0 (by omega)
    simp at h0
    subst h0
    have := lessB_drop k x y (by simpa using h1) (by simpa using h2) (fun j hj => by have := h (j + 1) (by omega); simpa using this)
    simp only [lessB, if_true, List.getD_cons_succ, List.drop_succ_cons]
    exact this
theorem lessB_same : ∀ (x y : List Nat), x.length = y.length → (∀ j, j < x.length → x.getD j 0 = y.getD j 0) → lessB x y = false
  | [], _, _, _ => rfl
  | _ :: _, [], h, _ => by simp at h
  | a :: x, b :: y, hl, h => by
    have h0 := h 0 (by simp)
    simp at h0
    subst h0
    simp only [lessB, if_true]
    exact lessB_same x y (by simpa using hl) (fun j hj => by have := h (j + 1) (by simpa using hj); simpa using this)

/-- One row of numbers, or none. -/
def IntsRow (S : Nat → Prop) (w : World) (v : Value) (o : Option (List Nat)) : Prop :=
  (o = none ∧ v = .slice none 0 0) ∨ ∃ xs b off cap, o = some xs ∧ xs ≠ [] ∧ v = .slice (some ⟨b, off, none⟩) xs.length cap ∧ b < w.heap.size ∧ S b ∧ IntsIn w (some ⟨b, off, none⟩) (nats xs)
theorem IntsRow.keep {S : Nat → Prop} {w w' : World} {v : Value} {o : Option (List Nat)} {row : Option Nat} (h : IntsRow S w v o) (hg : w.grownBy w' row) (hS : ∀ b, S b → some b ≠ row) : IntsRow S w' v o := by
  rcases h with h | ⟨xs, b, off, cap, h1, h0, h2, h3, h4, h5⟩
  · exact .inl h
  · exact .inr ⟨xs, b, off, cap, h1, h0, h2, Nat.lt_of_lt_of_le h3 hg.size, h4, h5.grown hg (fun a ha => by simp at ha; subst ha; exact hS b h4)⟩
theorem IntsRow.weaken {S S' : Nat → Prop} {w : World} {v : Value} {o : Option (List Nat)} (h : IntsRow S w v o) (hS : ∀ b, b < w.heap.size → S b → S' b) : IntsRow S' w v o := by
  rcases h with h | ⟨xs, b, off, cap, h1, h0, h2, h3, h4, h5⟩
  · exact .inl h
  · exact .inr ⟨xs, b, off, cap, h1, h0, h2, h3, hS b h3 h4, h5⟩
def Any : Nat → Prop := fun _ => True
theorem IntsRow.ext {w w' : World} {v : Value} {o : Option (List Nat)} (h : IntsRow Any w v o) (he : Ext w w') : IntsRow Any w' v o := h.keep (he.grown none) (fun _ _ => by simp)
/-- Rows that lie one behind the other. -/
def RowsIn (S : Nat → Prop) (w : World) (ao : Option Addr) (rs : List (Option (List Nat))) : Prop :=
  ∀ k, k < rs.length → ∃ b off v, ao = some ⟨b, off, none⟩ ∧ b < w.heap.size ∧ S b ∧ w.cell? ⟨b, off + k, none⟩ = some v ∧ IntsRow S w v (rs.getD k none)
theorem RowsIn.keep {S : Nat → Prop} {w w' : World} {ao : Option Addr} {rs : List (Option (List Nat))} {row : Option Nat} (h : RowsIn S w ao rs) (hg : w.grownBy w' row) (hS : ∀ b, S b → some b ≠ row) : RowsIn S w' ao rs := by
  intro k hk
  obtain ⟨b, off, v, h1, h2, h3, h4, h5⟩ := h k hk
  exact ⟨b, off, v, h1, Nat.lt_of_lt_of_le h2 hg.size, h3, (grownBy_cell (p := ⟨b, off + k, none⟩) hg h2 (hS b h3)).trans h4, h5.keep hg hS⟩
theorem RowsIn.weaken {S S' : Nat → Prop} {w : World} {ao : Option Addr} {rs : List (Option (List Nat))} (h : RowsIn S w ao rs) (hS : ∀ b, b < w.heap.size → S b → S' b) : RowsIn S' w ao rs := by
  intro k hk
  obtain ⟨b, off, v, h1, h2, h3, h4, h5⟩ := h k hk
  exact ⟨b, off, v, h1, h2, hS b h2 h3, h4, h5.weaken hS⟩
theorem RowsIn.ext {w w' : World} {ao : Option Addr} {rs : List (Option (List Nat))} (h : RowsIn Any w ao rs) (he : Ext w w') : RowsIn Any w' ao rs := h.keep (he.grown none) (fun _ _ => by simp)
/-- Planes of rows that lie one behind the other. -/
def PlanesIn (S : Nat → Prop) (w : World) (ao : Option Addr) (ps : List (List (Option (List Nat)))) : Prop :=
  ∀ k, k < ps.length → ∃ b off ro rc, ao = some ⟨b, off, none⟩ ∧ b < w.heap.size ∧ S b ∧ w.cell? ⟨b, off + k, none⟩ = some (.slice ro (ps.getD k []).length rc) ∧ RowsIn S w ro (ps.getD k [])
theorem PlanesIn.keep {S : Nat → Prop} {w w' : World} {ao : Option Addr} {ps : List (List (Option (List Nat)))} {row : Option Nat} (h : PlanesIn S w ao ps) (hg : w.grownBy w' row) (hS : ∀ b, S b → some b ≠ row) : PlanesIn S w' ao ps := by
  intro k hk
  obtain ⟨b, off, ro, rc, h1, h2, h3, h4, h5⟩ := h k hk
  exact ⟨b, off, ro, rc, h1, Nat.lt_of_lt_of_le h2 hg.size, h3, (grownBy_cell (p := ⟨b, off + k, none⟩) hg h2 (hS b h3)).trans h4, h5.keep hg hS⟩
theorem PlanesIn.ext {w w' : World} {ao : Option Addr} {ps : List (List (Option (List Nat)))} (h : PlanesIn Any w ao ps) (he : Ext w w') : PlanesIn Any w' ao ps := h.keep (he.grown none) (fun _ _ => by simp)
end Go.Proofs.Ytmmjjfjbhogfgaa
