/- Arrivals with exactly so many changes: plain law, and rows of booleans in memory. -/
import Derived.Test.YtmmjjfjbhogfgaaLawB
import Derived.Test.YtmmjjfjbhogfgaaRefB
namespace Go.Proofs.Ytmmjjfjbhogfgaa
open Go.RowKit

/-- Leg i can be come to with exactly k changes. -/
def Exact (m : Nat) (fol : Nat → Nat → Bool) (wt : Nat → Nat → Nat) (first : Nat → Bool) (k i : Nat) : Prop := ∃ y, Jn m fol first (fun q => q == i) y ∧ wsum wt y = k
def BaseOf (m : Nat) (fol : Nat → Nat → Bool) (wt : Nat → Nat → Nat) (first : Nat → Bool) : Nat → Nat → Prop
  | 0, j => first j = true
  | k + 1, j => ∃ i, i < m ∧ Exact m fol wt first k i ∧ fol i j = true ∧ wt i j = 1
theorem exact_base {m : Nat} {fol : Nat → Nat → Bool} {wt : Nat → Nat → Nat} {first : Nat → Bool} {k j : Nat} (hj : j < m) (h : BaseOf m fol wt first k j) : Exact m fol wt first k j := by
  cases k with
  | zero => exact ⟨[j], .one h hj, rfl⟩
  | succ k =>
    obtain ⟨i, _, ⟨y, hy, hs⟩, hf, hw⟩ := h
    exact ⟨y ++ [j], hy.snoc hj hf, by rw [wsum_join hy.path, hs, hw]⟩
theorem exact_close {m : Nat} {fol : Nat → Nat → Bool} {wt : Nat → Nat → Nat} {first : Nat → Bool} {k i j : Nat} (hj : j < m) (h : Exact m fol wt first k i) (hf : fol i j = true) (hw : wt i j = 0) : Exact m fol wt first k j := by
  obtain ⟨y, hy, hs⟩ := h
  exact ⟨y ++ [j], hy.snoc hj hf, by rw [wsum_join hy.path, hs, hw]; rfl⟩
theorem exact_ind {m : Nat} {fol : Nat → Nat → Bool} {wt : Nat → Nat → Nat} {first : Nat → Bool} {k : Nat} (hw : ∀ i j, wt i j ≤ 1) (S : Nat → Prop) (hb : ∀ i, i < m → BaseOf m fol wt first k i → S i) (hc : ∀ i j, i < m → j < m → S i → fol i j = true → wt i j = 0 → S j) :
    ∀ i, i < m → Exact m fol wt first k i → S i := by
  have key : ∀ (q : Nat) (i : Nat) (y : List Nat), y.length ≤ q → i < m → Jn m fol first (fun k => k == i) y → wsum wt y = k → S i := by
    intro q
    induction q with
    | zero =>
      intro i y hl _ hj
      obtain ⟨a, r, rfl, _⟩ := hj
      simp at hl
    | succ q ih =>
      intro i y hl hi hj hs
      rcases hj.unsnoc with ⟨rfl, hf⟩ | ⟨z, p, rfl, hf, hz, _, hp⟩
      · simp [wsum] at hs
        subst hs
        exact hb i hi hf
      · rw [wsum_join hz.path] at hs
        have h1 := hw p i
        by_cases e : wt p i = 0
        · exact hc p i hp hi (ih p z (by simp at hl; omega) hp hz (by omega)) hf e
        · cases k with
          | zero => omega
          | succ k => exact hb i hi ⟨p, hp, ⟨z, hz, by omega⟩, hf, by omega⟩
  intro i hi h
  obtain ⟨y, hy, hs⟩ := h
  exact key y.length i y (Nat.le_refl _) hi hy hs

/-- The sweep along the same line. -/
structure CloseIn (m : Nat) (fol : Nat → Nat → Bool) (wt : Nat → Nat → Nat) (first : Nat → Bool) (k : Nat) (xs : List Bool) : Prop where
  length : xs.length = m
  sound : ∀ i, i < m → bth xs i = true → Exact m fol wt first k i
  base : ∀ i, i < m → BaseOf m fol wt first k i → bth xs i = true
theorem CloseIn.add {m : Nat} {fol : Nat → Nat → Bool} {wt : Nat → Nat → Nat} {first : Nat → Bool} {k i j : Nat} {xs : List Bool} (h : CloseIn m fol wt first k xs) (hi : i < m) (hj : j < m) (h0 : bth xs i = true) (hf : fol i j = true) (hw : wt i j = 0) : CloseIn m fol wt first k (xs.set j true) := by
  have hl := h.length
  refine ⟨by simpa using hl, fun q hq => ?_, fun q hq hb => ?_⟩
  · rw [bth_set _ _ _ _ (by omega)]
    split
    · rename_i e; subst e; exact fun _ => exact_close hq (h.sound i hi h0) hf hw
    · exact h.sound q hq
  · rw [bth_set _ _ _ _ (by omega)]
    split
    · rfl
    · exact h.base q hq hb
structure CloseSweep (m : Nat) (fol : Nat → Nat → Bool) (wt : Nat → Nat → Nat) (first : Nat → Bool) (k : Nat) (xs0 xs : List Bool) (mb : Bool) (i j : Nat) : Prop where
  inn : CloseIn m fol wt first k xs
  calm : mb = false → xs = xs0 ∧ ∀ a b, a < m → b < m → (a < i ∨ (a = i ∧ b < j)) → bth xs a = true → fol a b = true → wt a b = 0 → bth xs b = true
  down : mb = true → falses xs < falses xs0
theorem CloseSweep.start {m : Nat} {fol : Nat → Nat → Bool} {wt : Nat → Nat → Nat} {first : Nat → Bool} {k : Nat} {xs : List Bool} (h : CloseIn m fol wt first k xs) : CloseSweep m fol wt first k xs xs false 0 0 :=
  ⟨h, fun _ => ⟨rfl, fun a b _ _ h => by omega⟩, fun h => by simp at h⟩
theorem CloseSweep.row {m : Nat} {fol : Nat → Nat → Bool} {wt : Nat → Nat → Nat} {first : Nat → Bool} {k : Nat} {xs0 xs : List Bool} {mb : Bool} {i : Nat} (h : CloseSweep m fol wt first k xs0 xs mb i m) : CloseSweep m fol wt first k xs0 xs mb (i + 1) 0 :=
  ⟨h.inn, fun e => ⟨(h.calm e).1, fun a b ha hb hab => (h.calm e).2 a b ha hb (by omega)⟩, h.down⟩
theorem CloseSweep.skip {m : Nat} {fol : Nat → Nat → Bool} {wt : Nat → Nat → Nat} {first : Nat → Bool} {k : Nat} {xs0 xs : List Bool} {mb : Bool} {i j : Nat} (h : CloseSweep m fol wt first k xs0 xs mb i j) (hn : bth xs i = true → fol i j = true → wt i j = 0 → bth xs j = true) : CloseSweep m fol wt first k xs0 xs mb i (j + 1) := by
  refine ⟨h.inn, fun e => ⟨(h.calm e).1, fun a b ha hb hab h0 hf hw => ?_⟩, h.down⟩
  by_cases e' : a = i ∧ b = j
  · obtain ⟨rfl, rfl⟩ := e'; exact hn h0 hf hw
  · exact (h.calm e).2 a b ha hb (by omega) h0 hf hw
theorem CloseSweep.add {m : Nat} {fol : Nat → Nat → Bool} {wt : Nat → Nat → Nat} {first : Nat → Bool} {k : Nat} {xs0 xs : List Bool} {mb : Bool} {i j : Nat} (h : CloseSweep m fol wt first k xs0 xs mb i j) (hi : i < m) (hj : j < m) (h0 : bth xs i = true) (h1 : bth xs j = false) (hf : fol i j = true) (hw : wt i j = 0) :
    CloseSweep m fol wt first k xs0 (xs.set j true) true i (j + 1) := by
  refine ⟨h.inn.add hi hj h0 hf hw, fun e => by simp at e, fun _ => ?_⟩
  have h2 := falses_set xs j (by rw [h.inn.length]; exact hj) h1
  cases mb with
  | true => have := h.down rfl; omega
  | false => rw [(h.calm rfl).1] at h2 ⊢; omega
structure CloseHead (m : Nat) (fol : Nat → Nat → Bool) (wt : Nat → Nat → Nat) (first : Nat → Bool) (k : Nat) (xs : List Bool) (mb : Bool) (q : Nat) : Prop where
  inn : CloseIn m fol wt first k xs
  stop : mb = false → ∀ a b, a < m → b < m → bth xs a = true → fol a b = true → wt a b = 0 → bth xs b = true
  mass : falses xs + mb.toNat ≤ q
theorem CloseSweep.head {m : Nat} {fol : Nat → Nat → Bool} {wt : Nat → Nat → Nat} {first : Nat → Bool} {k : Nat} {xs0 xs : List Bool} {mb : Bool} {q : Nat} (h : CloseSweep m fol wt first k xs0 xs mb m 0) (h0 : CloseHead m fol wt first k xs0 true q) : CloseHead m fol wt first k xs mb (q - 1) ∧ q - 1 < q := by
  have hq := h0.mass
  simp at hq
  refine ⟨⟨h.inn, ?_, ?_⟩, by omega⟩
  · rintro rfl
    exact fun a b ha hb h0 hf hw => (h.calm rfl).2 a b ha hb (.inl ha) h0 hf hw
  · cases mb with
    | true => have := h.down rfl; simp; omega
    | false => rw [(h.calm rfl).1]; simp; omega
/-- All that can be come to with k changes are marked. -/
def ExactRow (m : Nat) (fol : Nat → Nat → Bool) (wt : Nat → Nat → Nat) (first : Nat → Bool) (k : Nat) (xs : List Bool) : Prop := xs.length = m ∧ ∀ i, i < m → (bth xs i = true ↔ Exact m fol wt first k i)
theorem CloseHead.done {m : Nat} {fol : Nat → Nat → Bool} {wt : Nat → Nat → Nat} {first : Nat → Bool} {k : Nat} {xs : List Bool} {q : Nat} (hw : ∀ i j, wt i j ≤ 1) (h : CloseHead m fol wt first k xs false q) : ExactRow m fol wt first k xs :=
  ⟨h.inn.length, fun i hi => ⟨h.inn.sound i hi, exact_ind hw (fun i => bth xs i = true) h.inn.base (fun a b ha hb h0 hf h1 => h.stop rfl a b ha hb h0 hf h1) i hi⟩⟩
/-- The next ones, of which some pairs have been looked at. -/
def NextIn (m : Nat) (fol : Nat → Nat → Bool) (wt : Nat → Nat → Nat) (xs ys : List Bool) (i j : Nat) : Prop :=
  ys.length = m ∧ ∀ b, b < m → (bth ys b = true ↔ ∃ a, a < m ∧ (a < i ∨ (a = i ∧ b < j)) ∧ bth xs a = true ∧ fol a b = true ∧ wt a b = 1)
theorem NextIn.start (m : Nat) (fol : Nat → Nat → Bool) (wt : Nat → Nat → Nat) (xs : List Bool) : NextIn m fol wt xs (List.replicate m false) 0 0 :=
  ⟨by simp, fun b hb => by simp [bth, hb]⟩
theorem NextIn.row {m : Nat} {fol : Nat → Nat → Bool} {wt : Nat → Nat → Nat} {xs ys : List Bool} {i : Nat} (h : NextIn m fol wt xs ys i m) : NextIn m fol wt xs ys (i + 1) 0 := by
  refine ⟨h.1, fun b hb => (h.2 b hb).trans ?_⟩
  constructor
  · rintro ⟨a, h1, h2, h3⟩; exact ⟨a, h1, by omega, h3⟩
  · rintro ⟨a, h1, h2, h3⟩; exact ⟨a, h1, by omega, h3⟩
theorem NextIn.skip {m : Nat} {fol : Nat → Nat → Bool} {wt : Nat → Nat → Nat} {xs ys : List Bool} {i j : Nat} (h : NextIn m fol wt xs ys i j) (hn : ¬ (bth xs i = true ∧ fol i j = true ∧ wt i j = 1)) : NextIn m fol wt xs ys i (j + 1) := by
  refine ⟨h.1, fun b hb => (h.2 b hb).trans ?_⟩
  constructor
  · rintro ⟨a, h1, h2, h3⟩; exact ⟨a, h1, by omega, h3⟩
  · rintro ⟨a, h1, h2, h3⟩
    by_cases e : a = i ∧ b = j
    · obtain ⟨rfl, rfl⟩ := e; exact (hn h3).elim
    · exact ⟨a, h1, by omega, h3⟩
theorem NextIn.add {m : Nat} {fol : Nat → Nat → Bool} {wt : Nat → Nat → Nat} {xs ys : List Bool} {i j : Nat} (h : NextIn m fol wt xs ys i j) (hi : i < m) (hj : j < m) (hn : bth xs i = true ∧ fol i j = true ∧ wt i j = 1) : NextIn m fol wt xs (ys.set j true) i (j + 1) := by
  have hl := h.1
  refine ⟨by simpa using hl, fun b hb => ?_⟩
  rw [bth_set _ _ _ _ (by omega)]
  split
  · rename_i e; subst e
    exact ⟨fun _ => ⟨i, hi, .inr ⟨rfl, by omega⟩, hn⟩, fun _ => rfl⟩
  · rename_i e
    refine (h.2 b hb).trans ?_
    constructor
    · rintro ⟨a, h1, h2, h3⟩; exact ⟨a, h1, by omega, h3⟩
    · rintro ⟨a, h1, h2, h3⟩; exact ⟨a, h1, by omega, h3⟩
theorem NextIn.close {m : Nat} {fol : Nat → Nat → Bool} {wt : Nat → Nat → Nat} {first : Nat → Bool} {k : Nat} {xs ys : List Bool} (h : NextIn m fol wt xs ys m 0) (hx : ExactRow m fol wt first k xs) : CloseIn m fol wt first (k + 1) ys := by
  have key : ∀ b, b < m → (bth ys b = true ↔ BaseOf m fol wt first (k + 1) b) := by
    intro b hb
    refine (h.2 b hb).trans ?_
    constructor
    · rintro ⟨a, h1, _, h3, h4, h5⟩; exact ⟨a, h1, (hx.2 a h1).1 h3, h4, h5⟩
    · rintro ⟨a, h1, h3, h4, h5⟩; exact ⟨a, h1, .inl h1, (hx.2 a h1).2 h3, h4, h5⟩
  exact ⟨h.1, fun i hi hb => exact_base hi ((key i hi).1 hb), fun i hi hb => (key i hi).2 hb⟩

/-- The record of the exact ones is that of those with at most so many. -/
theorem within_iff {c : Int} {L : List Leg} {first : Nat → Bool} {k i : Nat} : Within c L first k i ↔ ∃ j, j ≤ k ∧ Exact L.length (folL c L) (wtL L) first j i := by
  constructor
  · rintro ⟨y, hy, hs⟩; exact ⟨_, hs, y, hy, rfl⟩
  · rintro ⟨j, hj, y, hy, hs⟩; exact ⟨y, hy, by omega⟩
theorem rec_within {c : Int} {L : List Leg} {first : Nat → Bool} {dst : Int} {k : Nat} {r : List (Int × Int)} (h : Rec (fun k a => ArrAt L dst (Exact L.length (folL c L) (wtL L) first k) L.length a) k r) :
    Rec (fun k a => ArrAt L dst (Within c L first k) L.length a) k r := by
  have hu : ∀ k a b, ArrAt L dst (Exact L.length (folL c L) (wtL L) first k) L.length a → ArrAt L dst (Exact L.length (folL c L) (wtL L) first k) L.length b → a = b := fun k a b h h' => h.uniq h'
  -- of what has been looked at, with at most k changes
  have old : ∀ {k : Nat} {r : List (Int × Int)}, Rec (fun k a => ArrAt L dst (Exact L.length (folL c L) (wtL L) first k) L.length a) k r → (r = [] → ∀ i j, i < L.length → j < k → Exact L.length (folL c L) (wtL L) first j i → (leg L i).To ≠ dst) ∧
      (r ≠ [] → 0 ≤ lastArr r ∧ (∃ i, i < L.length ∧ (∃ j, j < k ∧ Exact L.length (folL c L) (wtL L) first j i) ∧ (leg L i).To = dst ∧ lastArr r = (leg L i).Arr) ∧ ∀ i j, i < L.length → j < k → Exact L.length (folL c L) (wtL L) first j i → (leg L i).To = dst → lastArr r ≤ (leg L i).Arr) := by
    intro k r h
    have hok := h.ok hu
    refine ⟨fun hr i j hi hj he ht => ?_, fun hr => ?_⟩
    · obtain ⟨a, ha⟩ := hok.tot j hj
      have := hok.none hr j a hj ha
      rcases ha with ⟨_, ha⟩ | ⟨ha, _⟩
      · exact ha i hi ⟨he, ht⟩
      · omega
    · obtain ⟨q, _, h2, h3, h4, h5, _⟩ := hok.last hr
      refine ⟨h4, ?_, fun i j hi hj he ht => ?_⟩
      · rcases h3 with ⟨h3, _⟩ | ⟨_, ⟨i, hi, he, ht, hae⟩, _⟩
        · omega
        · exact ⟨i, hi, ⟨q, h2, he⟩, ht, hae⟩
      · obtain ⟨a, ha⟩ := hok.tot j hj
        rcases ha with ⟨_, ha⟩ | ⟨ha0, hex, ha⟩
        · exact (ha i hi ⟨he, ht⟩).elim
        · have h6 := ha i hi he ht
          rcases h5 j a hj (.inr ⟨ha0, hex, ha⟩) with h7 | h7 <;> omega
  induction h with
  | zero => exact .zero
  | @skip k r a h hq hs ih =>
    have hold := old h
    by_cases hr : r = []
    · have ha : a < 0 := by
        rcases hs with hs | ⟨hs, _⟩
        · exact hs
        · exact (hs hr).elim
      refine .skip ih (a := -1) (.inl ⟨rfl, ?_⟩) (.inl (by omega))
      rintro i hi ⟨hw, ht⟩
      obtain ⟨j, hj, he⟩ := within_iff.1 hw
      by_cases e : j = k
      · subst e
        rcases hq with ⟨_, hq⟩ | ⟨hq, _⟩
        · exact hq i hi ⟨he, ht⟩
        · omega
      · exact hold.1 hr i j hi (by omega) he ht
    · obtain ⟨h0, ⟨i, hi, ⟨j, hj, he⟩, ht, hae⟩, hm⟩ := hold.2 hr
      refine .skip ih (a := lastArr r) (.inr ⟨h0, ⟨i, hi, within_iff.2 ⟨j, by omega, he⟩, ht, hae⟩, ?_⟩) (.inr ⟨hr, Int.le_refl _⟩)
      intro i' hi' hw ht'
      obtain ⟨j', hj', he'⟩ := within_iff.1 hw
      by_cases e : j' = k
      · subst e
        rcases hq with ⟨_, hq⟩ | ⟨hq0, _, hq⟩
        · exact (hq i' hi' ⟨he', ht'⟩).elim
        · have h6 := hq i' hi' he' ht'
          rcases hs with hs | ⟨_, hs⟩ <;> omega
      · exact hm i' j' hi' (by omega) he' ht'
  | @add k r a h hq h0 hs ih =>
    have hold := old h
    refine .add ih ?_ h0 hs
    rcases hq with ⟨hq, _⟩ | ⟨_, ⟨i, hi, he, ht, hae⟩, hm⟩
    · omega
    · refine .inr ⟨h0, ⟨i, hi, within_iff.2 ⟨k, Nat.le_refl _, he⟩, ht, hae⟩, ?_⟩
      intro i' hi' hw ht'
      obtain ⟨j', hj', he'⟩ := within_iff.1 hw
      by_cases e : j' = k
      · subst e; exact hm i' hi' he' ht'
      · by_cases hr : r = []
        · exact (hold.1 hr i' j' hi' (by omega) he' ht').elim
        · have := (hold.2 hr).2.2 i' j' hi' (by omega) he' ht'
          rcases hs with hs | hs
          · exact (hr hs).elim
          · omega
theorem Rec.mono {Q Q' : Nat → Int → Prop} (h : ∀ k a, Q k a → Q' k a) : ∀ {k : Nat} {r : List (Int × Int)}, Rec Q k r → Rec Q' k r := by
  intro k r hr
  induction hr with
  | zero => exact .zero
  | skip _ h2 h3 ih => exact .skip ih (h _ _ h2) h3
  | add _ h2 h3 h4 ih => exact .add ih (h _ _ h2) h3 h4
/-- The last number of changes is one too many. -/
theorem rec_last {n c : Int} {L : List Leg} {first : Nat → Bool} {dst : Int} {r : List (Int × Int)} (hc : 0 ≤ c) (hf : ∀ k, k < L.length → Fine n (leg L k)) (h : Rec (fun k a => ArrAt L dst (Exact L.length (folL c L) (wtL L) first k) L.length a) (L.length + 1) r) :
    Rec (fun k a => ArrAt L dst (Within c L first k) L.length a) L.length r := by
  cases h with
  | skip h1 _ _ => exact rec_within h1
  | add _ h2 h3 _ =>
    exfalso
    rcases h2 with ⟨h2, _⟩ | ⟨_, ⟨i, hi, ⟨y, hy, hs⟩, _⟩, _⟩
    · omega
    · have h4 := jn_short hc hf hy
      obtain ⟨a, s, rfl, _⟩ := hy
      have := wsum_le (wtL_le L) a s
      simp at h4
      omega

/-- One row of booleans. -/
def BRow (S : Nat → Prop) (m : Nat) (w : World) (v : Value) (xs : List Bool) : Prop := ∃ b off cap, v = .slice (some ⟨b, off, none⟩) m cap ∧ b < w.heap.size ∧ S b ∧ xs.length = m ∧ BoolsIn w (some ⟨b, off, none⟩) xs
theorem BRow.keep {S : Nat → Prop} {m : Nat} {w w' : World} {v : Value} {xs : List Bool} {row : Option Nat} (h : BRow S m w v xs) (hg : w.grownBy w' row) (hS : ∀ b, S b → some b ≠ row) : BRow S m w' v xs := by
  obtain ⟨b, off, cap, h1, h2, h3, h4, h5⟩ := h
  exact ⟨b, off, cap, h1, Nat.lt_of_lt_of_le h2 hg.size, h3, h4, h5.grown hg (fun a ha => by simp at ha; subst ha; exact hS b h3)⟩
theorem BRow.weaken {S S' : Nat → Prop} {m : Nat} {w : World} {v : Value} {xs : List Bool} (h : BRow S m w v xs) (hS : ∀ b, b < w.heap.size → S b → S' b) : BRow S' m w v xs := by
  obtain ⟨b, off, cap, h1, h2, h3, h4, h5⟩ := h
  exact ⟨b, off, cap, h1, h2, hS b h2 h3, h4, h5⟩
/-- Rows of booleans that are being gathered, beside one in block g that is being written. -/
structure ArrOut (w : World) (B g m : Nat) (out : Value) (vs : List Value) (bs : List (List Bool)) : Prop where
  own : Own w B 1 out vs
  len : vs.length = bs.length
  row : ∀ k, k < bs.length → BRow (fun b => b ≠ g ∧ some b ≠ out.ownBlock) m w (vs.getD k (.slice none 0 0)) (bs.getD k [])
  apart : out.ownBlock ≠ some g
theorem ArrOut.keep {w w' : World} {B g m : Nat} {out : Value} {vs : List Value} {bs : List (List Bool)} {row : Option Nat} (h : ArrOut w B g m out vs bs) (hg : w.grownBy w' row) (hr : row = none ∨ row = some g) : ArrOut w' B g m out vs bs := by
  refine ⟨h.own.keep hg ?_, h.len, fun k hk => (h.row k hk).keep hg ?_, h.apart⟩
  · rcases hr with rfl | rfl
    · cases out.ownBlock <;> simp
    · exact .inr h.apart
  · rintro b ⟨hb, _⟩
    rcases hr with rfl | rfl
    · simp
    · intro e; simp at e; exact hb e
theorem ArrOut.ext {w w' : World} {B g m : Nat} {out : Value} {vs : List Value} {bs : List (List Bool)} (h : ArrOut w B g m out vs bs) (he : Ext w w') : ArrOut w' B g m out vs bs := h.keep (he.grown none) (.inl rfl)
theorem ArrOut.push {w w' w'' : World} {B g g' m : Nat} {out out' : Value} {vs : List Value} {bs : List (List Bool)} (h : ArrOut w B g m out vs bs) {v : Value} {xs : List Bool} (hv : BRow (fun b => b = g) m w v xs) (ho : Own w' B 1 out' (vs ++ [v])) (hg : w.grownBy w' out.ownBlock)
    (hb : ∀ k, out'.ownBlock = some k → out.ownBlock = some k ∨ w.heap.size ≤ k) (hx : Ext w' w'') (hg' : w'.heap.size ≤ g') : ArrOut w'' B g' m out' (vs ++ [v]) (bs ++ [xs]) := by
  have hgl : g < w.heap.size := by obtain ⟨b, _, _, _, h2, h3, _⟩ := hv; omega
  have key : ∀ {S : Nat → Prop} {v : Value} {xs : List Bool}, BRow S m w v xs → (∀ b, S b → some b ≠ out.ownBlock) → BRow (fun b => b ≠ g' ∧ some b ≠ out'.ownBlock) m w'' v xs := by
    intro S v xs hv hS
    have h1 : BRow (fun b => b < w.heap.size ∧ some b ≠ out.ownBlock ∧ some b ≠ out'.ownBlock) m w v xs := hv.weaken (fun b hlt hs => ⟨hlt, hS b hs, fun e => by
      rcases hb b e.symm with h1 | h1
      · exact hS b hs h1.symm
      · omega⟩)
    have h2 := (h1.keep hg (fun b hb => hb.2.1)).keep (hx.grown none) (fun _ _ => by simp)
    refine h2.weaken (fun b _ hb => ⟨fun e => ?_, hb.2.2⟩)
    have := hb.1
    have := hg.size
    omega
  have hl := h.len
  refine ⟨ho.ext hx, by simp [hl], fun k hk => ?_, fun e => by have := (ho.lt g' e).2; omega⟩
  rw [getD_snoc, getD_snoc]
  by_cases e : k < bs.length
  · rw [if_pos (by omega), if_pos e]
    exact key (h.row k e) (fun b hb => hb.2)
  · obtain rfl : k = bs.length := by simp at hk; omega
    rw [if_neg (by omega), if_pos hl.symm, if_neg (by omega), if_pos rfl]
    exact key hv (fun b hb => by subst hb; exact fun e => h.apart e.symm)
/-- Rows of booleans that lie one behind the other. -/
def BPlanes (m : Nat) (w : World) (ao : Option Addr) (bs : List (List Bool)) : Prop :=
  ∀ k, k < bs.length → ∃ b off rb roff rc, ao = some ⟨b, off, none⟩ ∧ b < w.heap.size ∧ w.cell? ⟨b, off + k, none⟩ = some (.slice (some ⟨rb, roff, none⟩) m rc) ∧ rb < w.heap.size ∧ (bs.getD k []).length = m ∧ BoolsIn w (some ⟨rb, roff, none⟩) (bs.getD k [])
theorem BPlanes.ext {m : Nat} {w w' : World} {ao : Option Addr} {bs : List (List Bool)} (h : BPlanes m w ao bs) (he : Ext w w') : BPlanes m w' ao bs := by
  intro k hk
  obtain ⟨b, off, rb, roff, rc, h1, h2, h3, h4, h5, h6⟩ := h k hk
  exact ⟨b, off, rb, roff, rc, h1, Nat.lt_of_lt_of_le h2 he.size, (he.cell (p := ⟨b, off + k, none⟩) h2).trans h3, Nat.lt_of_lt_of_le h4 he.size, h5, h6.ext he⟩
theorem Own.cellD {w : World} {base g off n cap : Nat} {vs : List Value} (h : Own w base 1 (.slice (some ⟨g, off, none⟩) n cap) vs) {k : Nat} (hk : k < vs.length) : w.cell? ⟨g, off + k, none⟩ = some (vs.getD k (.slice none 0 0)) := by
  have := (h.cellAt k hk).1
  rw [List.getElem?_eq_getElem hk] at this
  simpa [List.getD_eq_getElem?_getD, hk] using this
theorem ArrOut.lie {w : World} {B g m : Nat} {out : Value} {vs : List Value} {bs : List (List Bool)} (h : ArrOut w B g m out vs bs) : ∃ ao cap, out = .slice ao bs.length cap ∧ BPlanes m w ao bs := by
  have hl := h.len
  rcases h.own.shape (by omega) with ⟨rfl, rfl⟩ | ⟨g, off, cap, rfl, hb, hlt, _, _⟩
  · have : bs = [] := by cases bs with | nil => rfl | cons a r => simp at hl
    subst this
    exact ⟨none, 0, rfl, fun k hk => by simp at hk⟩
  · refine ⟨some ⟨g, off, none⟩, cap, by rw [hl]; simp, fun k hk => ?_⟩
    obtain ⟨rb, roff, rc, h1, h2, _, h4, h5⟩ := h.row k hk
    have hc := h.own.cellD (k := k) (by omega)
    rw [h1] at hc
    exact ⟨g, off, rb, roff, rc, rfl, hlt, hc, h2, h4, h5⟩
end Go.Proofs.Ytmmjjfjbhogfgaa
