/- Apart of the program. -/
import Derived.Test.YtmmjjfjbhogfgaaFlowD
namespace Go.Proofs.Ytmmjjfjbhogfgaa
open Go.RowKit
attribute [local go_sem] Leg.val run_store_fn

/-- The greatest flow: nothing more can be let through. -/
def MostOf (n : Nat) (c : Nat → Nat → Int) (k : Int) : Prop := ∃ M, Flowed n c M k ∧ Stuck n (fun u v => 0 < M u v)
def MostRes (w0 : World) (n : Nat) (c : Nat → Nat → Int) (e : Ending) (w' : World) : Prop :=
  ∃ k : Nat, e = .returned (.int .i64 k) ∧ MostOf n c k ∧ Ext w0 w'
set_option maxRecDepth 100000 in
set_option maxHeartbeats 4000000 in
theorem most_calls (w0 w : World) (fb g off gcap n : Nat) (rb : Nat → Nat) (c : Nat → Nat → Int) (hx0 : Ext w0 w) (hN : Net w w0.heap.size fb g off gcap n rb c) (hn : n ≤ 1000) (hn2 : 2 ≤ n) (hc : ∀ u v, 0 ≤ c u v) (hc2 : ∀ u v, c u v + c v u ≤ 2) (hK : mass0 n c ≤ 100000) :
    Calls Try.prog 66 #[.pointer (some ⟨fb, 0, none⟩)] w (MostRes w0 n c) := by
  have HC2 := Lib.hid hc2
  have HC := Lib.hid hc
  clear hc2 hc
  go_enter Try.func66, Try.ntmps66
  go_wp2_with fail
  go_loopg [3] (mass0 n c) (fun q cnt ws => ∃ (kn : Nat) (M : Nat → Nat → Int), cnt = .int .i64 kn ∧ Ext w0 ws ∧ Net ws w0.heap.size fb g off gcap n rb M ∧ kn + q ≤ mass0 n c ∧ mass0 n M = q ∧ Hid (Flowed n c M kn))
  case atStart => exact ⟨0, c, rfl, hx0, hN, by omega, rfl, Lib.hid (Flowed.start HC.out)⟩
  case round =>
    obtain ⟨kn, M, rfl, hx, hNr, hkq, hq, HFl⟩ := hrel
    go_wp2_with fail
    refine (flowMore_calls w0 wr fb g off gcap n rb M hx hNr hn hn2 HFl.out.nonneg (fun u v => by rw [HFl.out.anti u v]; exact HC2.out u v)).mono ?_
    rintro e w2 (⟨rfl, hN2, hS, hx2⟩ | ⟨M', rk, rfl, hN2, hA, hx2⟩)
    · have HS := Lib.hid hS
      clear hS
      go_wp2_with fail
      go_ret
      exact ⟨kn, rfl, ⟨M, HFl.out, HS.out⟩, hx2⟩
    · have HA := Lib.hid hA
      clear hA
      have hmass := mass_push hn2 HA.out
      go_wp2_with fail
      go_roundg (mass0 n M')
      case measure => omega
      case rel => exact ⟨kn + 1, M', rfl, hx2, hN2, by omega, rfl, Lib.hid (HFl.out.push HA.out)⟩

/-! The arcs of a leg. -/
section
variable (m : Nat) (inb beg last : Nat → Prop) (fol : Nat → Nat → Prop)
/-- The arcs of leg k, those to legs below j. -/
def ArcTo (k j u v : Nat) : Prop := (u = 2 + 2 * k ∧ v = 3 + 2 * k) ∨ (beg k ∧ u = 0 ∧ v = 2 + 2 * k) ∨ (last k ∧ u = 3 + 2 * k ∧ v = 1) ∨ ∃ l, l < j ∧ inb l ∧ fol k l ∧ u = 3 + 2 * k ∧ v = 2 + 2 * l
def Arcs (k u v : Nat) : Prop := ∃ i, i < k ∧ inb i ∧ ArcTo inb beg last fol i m u v
end
open Classical in
def IsCap (S : Nat → Nat → Prop) (M : Nat → Nat → Int) : Prop := ∀ u v, M u v = if S u v then 1 else 0
theorem IsCap.add {S S' : Nat → Nat → Prop} {M : Nat → Nat → Int} (h : IsCap S M) {i j : Nat} (hs : ∀ u v, S' u v ↔ (u = i ∧ v = j) ∨ S u v) : IsCap S' (fun a b => if a = i ∧ b = j then 1 else M a b) := by
  intro u v
  by_cases e : u = i ∧ v = j
  · simp only [if_pos e]
    rw [if_pos ((hs u v).2 (.inl e))]
  · simp only [if_neg e]
    rw [h u v]
    by_cases hS : S u v
    · rw [if_pos hS, if_pos ((hs u v).2 (.inr hS))]
    · rw [if_neg hS, if_neg (fun h' => ((hs u v).1 h').elim e hS)]
theorem IsCap.congr {S S' : Nat → Nat → Prop} {M : Nat → Nat → Int} (h : IsCap S M) (hs : ∀ u v, S' u v ↔ S u v) : IsCap S' M := by
  intro u v
  rw [h u v]
  by_cases hS : S u v
  · rw [if_pos hS, if_pos ((hs u v).2 hS)]
  · rw [if_neg hS, if_neg (fun h' => hS ((hs u v).1 h'))]
theorem IsCap.uniq {S : Nat → Nat → Prop} {M M' : Nat → Nat → Int} (h : IsCap S M) (h' : IsCap S M') : M = M' := by
  funext u v
  rw [h u v, h' u v]
theorem IsCap.nonneg {S : Nat → Nat → Prop} {M : Nat → Nat → Int} (h : IsCap S M) (u v : Nat) : 0 ≤ M u v ∧ M u v ≤ 1 := by
  rw [h u v]
  split <;> omega
theorem arcTo_yes {inb beg last : Nat → Prop} {fol : Nat → Nat → Prop} {k j u v : Nat} (h : inb j ∧ fol k j) : ArcTo inb beg last fol k (j + 1) u v ↔ (u = 3 + 2 * k ∧ v = 2 + 2 * j) ∨ ArcTo inb beg last fol k j u v := by
  unfold ArcTo
  constructor
  · rintro (h1 | h1 | h1 | ⟨l, hl, h1, h2, h3⟩)
    · exact .inr (.inl h1)
    · exact .inr (.inr (.inl h1))
    · exact .inr (.inr (.inr (.inl h1)))
    · by_cases e : l = j
      · subst e; exact .inl h3
      · exact .inr (.inr (.inr (.inr ⟨l, by omega, h1, h2, h3⟩)))
  · rintro (h1 | h1 | h1 | h1 | ⟨l, hl, h1⟩)
    · exact .inr (.inr (.inr ⟨j, by omega, h.1, h.2, h1⟩))
    · exact .inl h1
    · exact .inr (.inl h1)
    · exact .inr (.inr (.inl h1))
    · exact .inr (.inr (.inr ⟨l, by omega, h1⟩))
theorem arcTo_no {inb beg last : Nat → Prop} {fol : Nat → Nat → Prop} {k j u v : Nat} (h : ¬ (inb j ∧ fol k j)) : ArcTo inb beg last fol k (j + 1) u v ↔ ArcTo inb beg last fol k j u v := by
  unfold ArcTo
  constructor
  · rintro (h1 | h1 | h1 | ⟨l, hl, h1, h2, h3⟩)
    · exact .inl h1
    · exact .inr (.inl h1)
    · exact .inr (.inr (.inl h1))
    · by_cases e : l = j
      · subst e; exact (h ⟨h1, h2⟩).elim
      · exact .inr (.inr (.inr ⟨l, by omega, h1, h2, h3⟩))
  · rintro (h1 | h1 | h1 | ⟨l, hl, h1⟩)
    · exact .inl h1
    · exact .inr (.inl h1)
    · exact .inr (.inr (.inl h1))
    · exact .inr (.inr (.inr ⟨l, by omega, h1⟩))
theorem arcs_yes {m : Nat} {inb beg last : Nat → Prop} {fol : Nat → Nat → Prop} {k u v : Nat} (h : inb k) : Arcs m inb beg last fol (k + 1) u v ↔ Arcs m inb beg last fol k u v ∨ ArcTo inb beg last fol k m u v := by
  constructor
  · rintro ⟨i, hi, h1, h2⟩
    by_cases e : i = k
    · subst e; exact .inr h2
    · exact .inl ⟨i, by omega, h1, h2⟩
  · rintro (⟨i, hi, h1⟩ | h1)
    · exact ⟨i, by omega, h1⟩
    · exact ⟨k, by omega, h, h1⟩
def InJ (c : Int) (L : List Leg) (src dst at_ by_ : Int) (i : Nat) : Prop := ComeTo c L (fun i => begB src at_ (leg L i)) i ∧ GoesTo c L (fun i => lastB dst by_ (leg L i)) i
def ArcsOf (c : Int) (L : List Leg) (src dst at_ by_ : Int) (inb : Nat → Prop) (k u v : Nat) : Prop := Arcs L.length inb (fun i => begB src at_ (leg L i) = true) (fun i => lastB dst by_ (leg L i) = true) (fun i j => folL c L i j = true) k u v
def ArcOf (c : Int) (L : List Leg) (src dst at_ by_ : Int) (inb : Nat → Prop) (k j u v : Nat) : Prop := ArcTo inb (fun i => begB src at_ (leg L i) = true) (fun i => lastB dst by_ (leg L i) = true) (fun i j => folL c L i j = true) k j u v
/-- What Apart answers. -/
def ApartOf (n : Int) (L : List Leg) (c src dst at_ by_ : Int) (k : Nat) (e : Int) : Prop :=
  (goodE n L c src dst [at_, by_] ≠ 0 ∧ k = 0 ∧ e = goodE n L c src dst [at_, by_]) ∨
  (goodE n L c src dst [at_, by_] = 0 ∧ src = dst ∧ k = 0 ∧ e = (if by_ < at_ then 10 else 0)) ∨
  (goodE n L c src dst [at_, by_] = 0 ∧ src ≠ dst ∧ ¬ Goes c L src dst at_ by_ ∧ k = 0 ∧ e = 10) ∨
  (goodE n L c src dst [at_, by_] = 0 ∧ src ≠ dst ∧ Goes c L src dst at_ by_ ∧ e = 0 ∧ ∃ C, IsCap (ArcsOf c L src dst at_ by_ (InJ c L src dst at_ by_) L.length) C ∧ MostOf (2 * L.length + 2) C k)
def ApartRes (w : World) (n : Int) (L : List Leg) (c src dst at_ by_ : Int) (e : Ending) (w' : World) : Prop :=
  ∃ (k : Nat) (er : Int), e = .returned (.tuple #[.int .i64 k, .int .i64 er]) ∧ ApartOf n L c src dst at_ by_ k er ∧ Ext w w'
end Go.Proofs.Ytmmjjfjbhogfgaa
