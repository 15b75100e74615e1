/- Journeys without a leg: plain law. -/
import Derived.Test.YtmmjjfjbhogfgaaWithout
import Derived.Test.YtmmjjfjbhogfgaaProfA
namespace Go.Proofs.Ytmmjjfjbhogfgaa

/-- Is there a journey, not earlier and not later than times? -/
def Goes (c : Int) (L : List Leg) (src dst at_ by_ : Int) : Prop := ∃ x, Jn L.length (folL c L) (fun i => begB src at_ (leg L i)) (fun i => lastB dst by_ (leg L i)) x
/-- One that does not use a leg? -/
def GoesBut (c : Int) (L : List Leg) (src dst at_ by_ : Int) (d : Nat) : Prop := ∃ x, Jn L.length (folL c L) (fun i => begB src at_ (leg L i)) (fun i => lastB dst by_ (leg L i)) x ∧ d ∉ x

theorem path_end {m : Nat} {fol : Nat → Nat → Bool} {last : Nat → Bool} {i : Nat} : ∀ {x y : List Nat}, Path m fol (fun k => k == i) x → Path m fol last (i :: y) → Path m fol last (x ++ y)
  | [], _, h, _ => h.elim
  | [a], y, h, h2 => by
    have : a = i := by simpa using h.one_inv
    subst this
    exact h2
  | a :: b :: r, _, h, h2 => .cons h.1 h.cons_inv.1 (path_end (x := b :: r) h.cons_inv.2 h2)
/-- A leg that comes from the beginning and goes to the end is in a journey; and the other way round. -/
theorem goes_of {c : Int} {L : List Leg} {src dst at_ by_ : Int} {i : Nat} (h1 : ComeTo c L (fun i => begB src at_ (leg L i)) i) (h2 : GoesTo c L (fun i => lastB dst by_ (leg L i)) i) : ∃ x, Jn L.length (folL c L) (fun i => begB src at_ (leg L i)) (fun i => lastB dst by_ (leg L i)) x ∧ i ∈ x := by
  obtain ⟨x, a, r, rfl, hf, hp⟩ := h1
  obtain ⟨y, hy⟩ := h2
  refine ⟨(a :: r) ++ y, ⟨a, r ++ y, rfl, hf, path_end hp hy⟩, List.mem_append.2 (.inl ?_)⟩
  have := (path_iff (a :: r) (by simp)).1 hp
  have h3 := this.2.2
  simp only [beq_iff_eq] at h3
  rw [← h3]
  simp only [List.length_cons, Nat.add_sub_cancel]
  rw [List.getD_eq_getElem?_getD, List.getElem?_eq_getElem (by simp)]
  exact List.getElem_mem (by simp)
theorem path_from {m : Nat} {fol : Nat → Nat → Bool} {last : Nat → Bool} {i : Nat} : ∀ {x : List Nat}, Path m fol last x → i ∈ x → ∃ u v, x = u ++ i :: v ∧ Path m fol last (i :: v) ∧ Path m fol (fun k => k == i) (u ++ [i])
  | [], h, _ => h.elim
  | [a], h, hi => by
    have : i = a := by simpa using hi
    subst this
    exact ⟨[], [], rfl, h, .one h.1 (by simp)⟩
  | a :: b :: r, h, hi => by
    by_cases e : i = a
    · subst e
      exact ⟨[], b :: r, rfl, h, .one h.1 (by simp)⟩
    · have hi' : i ∈ b :: r := by simpa [e] using hi
      obtain ⟨u, v, e1, h1, h2⟩ := path_from (x := b :: r) h.cons_inv.2 hi'
      refine ⟨a :: u, v, by rw [e1]; rfl, h1, ?_⟩
      cases u with
      | nil =>
        simp only [List.nil_append, List.cons.injEq] at e1
        obtain ⟨rfl, rfl⟩ := e1
        exact .cons h.1 h.cons_inv.1 h2
      | cons c u =>
        simp only [List.cons_append, List.cons.injEq] at e1
        obtain ⟨rfl, e1⟩ := e1
        exact .cons h.1 h.cons_inv.1 h2
theorem jn_mem {c : Int} {L : List Leg} {first last : Nat → Bool} {x : List Nat} {i : Nat} (h : Jn L.length (folL c L) first last x) (hi : i ∈ x) : ComeTo c L first i ∧ GoesTo c L last i := by
  obtain ⟨a, r, rfl, hf, hp⟩ := h
  obtain ⟨u, v, e, h1, h2⟩ := path_from hp hi
  refine ⟨⟨u ++ [i], ?_⟩, ⟨v, h1⟩⟩
  cases u with
  | nil =>
    simp only [List.nil_append, List.cons.injEq] at e
    obtain ⟨rfl, rfl⟩ := e
    exact ⟨a, [], rfl, hf, h2⟩
  | cons b u =>
    simp only [List.cons_append, List.cons.injEq] at e
    obtain ⟨rfl, e⟩ := e
    exact ⟨a, u ++ [i], rfl, hf, h2⟩
theorem any_goes {c : Int} {L : List Leg} {src dst at_ by_ : Int} {xs : List Bool} {m : Nat} (hm : L.length = m) (h : ∀ i, i < m → (bth xs i = true ↔ ComeTo c L (fun i => begB src at_ (leg L i)) i ∧ GoesTo c L (fun i => lastB dst by_ (leg L i)) i)) : anyB m (bth xs) = true ↔ Goes c L src dst at_ by_ := by
  subst hm
  rw [anyB_true]
  constructor
  · rintro ⟨i, hi, hb⟩
    obtain ⟨x, hx, _⟩ := goes_of ((h i hi).1 hb).1 ((h i hi).1 hb).2
    exact ⟨x, hx⟩
  · rintro ⟨x, hx⟩
    obtain ⟨a, r, rfl, hf, hp⟩ := id hx
    exact ⟨a, hp.1, (h a hp.1).2 (jn_mem hx (by simp))⟩

/-! The legs without one of them. -/
def upTo (d k : Nat) : Nat := if k < d then k else k + 1
def downTo (d k : Nat) : Nat := if k < d then k else k - 1
theorem upTo_ne (d k : Nat) : upTo d k ≠ d := by unfold upTo; split <;> omega
theorem up_down {d k : Nat} (h : k ≠ d) : upTo d (downTo d k) = k := by
  unfold upTo downTo
  by_cases h1 : k < d
  · rw [if_pos h1, if_pos h1]
  · rw [if_neg h1, if_neg (by omega)]
    omega
theorem leg_up (L : List Leg) (d k : Nat) : leg (L.eraseIdx d) k = leg L (upTo d k) := by
  simp only [leg, List.getD_eq_getElem?_getD, List.getElem?_eraseIdx, upTo]
  split <;> rfl
theorem erase_len {L : List Leg} {d : Nat} (h : d < L.length) : (L.eraseIdx d).length = L.length - 1 := by rw [List.length_eraseIdx, if_pos h]
theorem goes_erase {c : Int} {L : List Leg} {src dst at_ by_ : Int} {d : Nat} (hd : d < L.length) : Goes c (L.eraseIdx d) src dst at_ by_ ↔ GoesBut c L src dst at_ by_ d := by
  constructor
  · rintro ⟨x, hx⟩
    obtain ⟨h0, h1, h2, h3, h4⟩ := jn_iff.1 hx
    have hg : ∀ k, k < x.length → (x.map (upTo d)).getD k 0 = upTo d (x.getD k 0) := fun k hk => by simp [List.getD_eq_getElem?_getD, hk]
    have hp : 0 < x.length := List.length_pos_iff.2 h0
    refine ⟨x.map (upTo d), jn_iff.2 ⟨by simpa using h0, ?_, fun k hk => ?_, fun k hk => ?_, ?_⟩, fun h => ?_⟩
    · rw [hg 0 hp, ← leg_up]; exact h1
    · rw [List.length_map] at hk
      rw [hg k hk]
      have := h2 k hk
      rw [erase_len hd] at this
      unfold upTo
      split <;> omega
    · rw [List.length_map] at hk
      rw [hg k (by omega), hg (k + 1) hk]
      have := h3 k hk
      unfold folL at this ⊢
      rw [leg_up, leg_up] at this
      exact this
    · rw [List.length_map, hg _ (by omega), ← leg_up]; exact h4
    · obtain ⟨k, _, e⟩ := List.mem_map.1 h
      exact upTo_ne d k e
  · rintro ⟨x, hx, hn⟩
    obtain ⟨h0, h1, h2, h3, h4⟩ := jn_iff.1 hx
    have hp : 0 < x.length := List.length_pos_iff.2 h0
    have hne : ∀ k, k < x.length → x.getD k 0 ≠ d := fun k hk e => hn (by
      rw [← e, List.getD_eq_getElem?_getD, List.getElem?_eq_getElem hk]
      exact List.getElem_mem hk)
    have hg : ∀ k, k < x.length → (x.map (downTo d)).getD k 0 = downTo d (x.getD k 0) := fun k hk => by simp [List.getD_eq_getElem?_getD, hk]
    have hl : ∀ k, k < x.length → leg (L.eraseIdx d) (downTo d (x.getD k 0)) = leg L (x.getD k 0) := fun k hk => by rw [leg_up, up_down (hne k hk)]
    refine ⟨x.map (downTo d), jn_iff.2 ⟨by simpa using h0, ?_, fun k hk => ?_, fun k hk => ?_, ?_⟩⟩
    · rw [hg 0 hp, hl 0 hp]; exact h1
    · rw [List.length_map] at hk
      rw [hg k hk, erase_len hd]
      have := h2 k hk
      have := hne k hk
      unfold downTo
      split <;> omega
    · rw [List.length_map] at hk
      rw [hg k (by omega), hg (k + 1) hk]
      unfold folL
      rw [hl k (by omega), hl (k + 1) hk]
      exact h3 k hk
    · rw [List.length_map, hg _ (by omega), hl _ (by omega)]; exact h4

/-- The legs that are in every journey, of the first k ones. -/
def NeedIn (c : Int) (L : List Leg) (src dst at_ by_ : Int) (k : Nat) (R : List Nat) : Prop := R.Pairwise (· < ·) ∧ ∀ i, i ∈ R ↔ i < k ∧ ¬ GoesBut c L src dst at_ by_ i
theorem NeedIn.start (c : Int) (L : List Leg) (src dst at_ by_ : Int) : NeedIn c L src dst at_ by_ 0 [] := ⟨.nil, fun i => by simp⟩
theorem NeedIn.add {c : Int} {L : List Leg} {src dst at_ by_ : Int} {k : Nat} {R : List Nat} (h : NeedIn c L src dst at_ by_ k R) (hk : ¬ GoesBut c L src dst at_ by_ k) : NeedIn c L src dst at_ by_ (k + 1) (R ++ [k]) := by
  refine ⟨List.pairwise_append.2 ⟨h.1, by simp, fun a ha b hb => ?_⟩, fun i => ?_⟩
  · have := (h.2 a).1 ha
    simp at hb
    omega
  · rw [List.mem_append, h.2 i, List.mem_singleton]
    constructor
    · rintro (⟨h1, h2⟩ | rfl)
      · exact ⟨by omega, h2⟩
      · exact ⟨by omega, hk⟩
    · rintro ⟨h1, h2⟩
      by_cases e : i = k
      · exact .inr e
      · exact .inl ⟨by omega, h2⟩
theorem NeedIn.skip {c : Int} {L : List Leg} {src dst at_ by_ : Int} {k : Nat} {R : List Nat} (h : NeedIn c L src dst at_ by_ k R) (hk : GoesBut c L src dst at_ by_ k) : NeedIn c L src dst at_ by_ (k + 1) R := by
  refine ⟨h.1, fun i => ?_⟩
  rw [h.2 i]
  constructor
  · rintro ⟨h1, h2⟩; exact ⟨by omega, h2⟩
  · rintro ⟨h1, h2⟩
    refine ⟨?_, h2⟩
    by_cases e : i = k
    · subst e; exact (h2 hk).elim
    · omega
theorem pair_uniq : ∀ {R R' : List Nat}, R.Pairwise (· < ·) → R'.Pairwise (· < ·) → (∀ i, i ∈ R ↔ i ∈ R') → R = R'
  | [], [], _, _, _ => rfl
  | [], b :: s, _, _, h => by have := (h b).2 (by simp); simp at this
  | a :: r, [], _, _, h => by have := (h a).1 (by simp); simp at this
  | a :: r, b :: s, h1, h2, h => by
    have g1 := List.pairwise_cons.1 h1
    have g2 := List.pairwise_cons.1 h2
    have e : a = b := by
      have ha := (h a).1 (by simp)
      have hb := (h b).2 (by simp)
      rcases List.mem_cons.1 ha with e | ha
      · exact e
      · rcases List.mem_cons.1 hb with e | hb
        · exact e.symm
        · have := g2.1 a ha
          have := g1.1 b hb
          omega
    subst e
    rw [pair_uniq g1.2 g2.2 (fun i => ?_)]
    have := h i
    simp only [List.mem_cons] at this
    constructor
    · intro hi
      rcases this.1 (.inr hi) with e | hs
      · have := g1.1 i hi; omega
      · exact hs
    · intro hi
      rcases this.2 (.inr hi) with e | hs
      · have := g2.1 i hi; omega
      · exact hs
/-- What Needed answers. -/
def NeedOf (n : Int) (L : List Leg) (c src dst at_ by_ : Int) (R : List Nat) (e : Int) : Prop :=
  (goodE n L c src dst [at_, by_] ≠ 0 ∧ R = [] ∧ e = goodE n L c src dst [at_, by_]) ∨
  (goodE n L c src dst [at_, by_] = 0 ∧ src = dst ∧ R = [] ∧ e = (if by_ < at_ then 10 else 0)) ∨
  (goodE n L c src dst [at_, by_] = 0 ∧ src ≠ dst ∧ ¬ Goes c L src dst at_ by_ ∧ R = [] ∧ e = 10) ∨
  (goodE n L c src dst [at_, by_] = 0 ∧ src ≠ dst ∧ Goes c L src dst at_ by_ ∧ NeedIn c L src dst at_ by_ L.length R ∧ e = 0)
theorem NeedOf.uniq {n : Int} {L : List Leg} {c src dst at_ by_ : Int} {R R' : List Nat} {e e' : Int} (h : NeedOf n L c src dst at_ by_ R e) (h' : NeedOf n L c src dst at_ by_ R' e') : R = R' ∧ e = e' := by
  rcases h with ⟨h1, rfl, rfl⟩ | ⟨h1, h2, rfl, rfl⟩ | ⟨h1, h2, h3, rfl, rfl⟩ | ⟨h1, h2, h3, h4, rfl⟩ <;> rcases h' with ⟨g1, rfl, rfl⟩ | ⟨g1, g2, rfl, rfl⟩ | ⟨g1, g2, g3, rfl, rfl⟩ | ⟨g1, g2, g3, g4, rfl⟩
  all_goals first
    | exact ⟨rfl, rfl⟩
    | exact (h1 g1).elim
    | exact (g1 h1).elim
    | exact (h2 g2).elim
    | exact (g2 h2).elim
    | exact (h3 g3).elim
    | exact (g3 h3).elim
    | exact ⟨pair_uniq h4.1 g4.1 (fun i => (h4.2 i).trans (g4.2 i).symm), rfl⟩
end Go.Proofs.Ytmmjjfjbhogfgaa

/- Needed of the program. -/
namespace Go.Proofs.Ytmmjjfjbhogfgaa
open Go.RowKit
attribute [local go_sem] Leg.val run_store_fn

theorem two_ints (w : World) (t : TypeId) (x y : Int) : IntsIn (w.alloc (.cells #[.int .i64 x, .int .i64 y] t)) (some ⟨w.heap.size, 0, none⟩) [x, y] := by
  intro k hk
  have : k = 0 ∨ k = 1 := by simp at hk; omega
  rcases this with rfl | rfl <;> exact ⟨w.heap.size, 0, rfl, by simp, by simp [go_sem, ith]⟩
theorem good_two {n : Int} {L : List Leg} {c src dst a b : Int} (h : Good n L c src dst [a, b]) : (0 ≤ a ∧ a ≤ 10000) ∧ 0 ≤ b ∧ b ≤ 10000 := by
  have h0 := h.times 0 (by simp)
  have h1 := h.times 1 (by simp)
  simp [ith] at h0 h1
  omega
def NeedRes (w : World) (n : Int) (L : List Leg) (c src dst at_ by_ : Int) (e : Ending) (w' : World) : Prop :=
  ∃ v R er, e = .returned (.tuple #[v, .int .i64 er]) ∧ Own w' w.heap.size 1 v (ints (nats R)) ∧ R.length ≤ L.length ∧ NeedOf n L c src dst at_ by_ R er ∧ Ext w w'
theorem NeedIn.len {c : Int} {L : List Leg} {src dst at_ by_ : Int} {R : List Nat} : ∀ {k : Nat}, NeedIn c L src dst at_ by_ k R → R.length ≤ k := by
  have key : ∀ (k : Nat) (R : List Nat), R.Pairwise (· < ·) → (∀ i ∈ R, i < k) → R.length ≤ k := by
    intro k
    induction k with
    | zero =>
      intro R _ h
      cases R with
      | nil => simp
      | cons a r => have := h a (by simp); omega
    | succ k ih =>
      intro R hp h
      by_cases hR : R = []
      · subst hR; simp
      · obtain ⟨O, l, rfl⟩ : ∃ O l, R = O ++ [l] := ⟨R.dropLast, R.getLast hR, (List.dropLast_concat_getLast hR).symm⟩
        have h1 := List.pairwise_append.1 hp
        have := ih O h1.1 (fun i hi => by
          have := h1.2.2 i hi l (by simp)
          have := h l (by simp)
          omega)
        simp
        omega
  exact fun {k} h => key k R h.1 (fun i hi => ((h.2 i).1 hi).1)

set_option maxRecDepth 100000 in
set_option maxHeartbeats 8000000 in
theorem bigNeeded_calls (w : World) (n : Int) (ao : Option Addr) (cap : Nat) (L : List Leg) (c src dst at_ by_ : Int) (hL : LegsIn w ao L) (hlen : L.length ≤ 10000000) :
    Calls Try.prog 31 #[.int .i64 n, .slice ao L.length cap, .int .i64 c, .int .i64 src, .int .i64 dst, .int .i64 at_, .int .i64 by_] w (NeedRes w n L c src dst at_ by_) := by
  obtain ⟨i0, hi, hz0, hz1, hz2⟩ := info_parts info_int
  go_enter Try.func31, Try.ntmps31
  go_wp2_with fail
  have hts := two_ints w 3 at_ by_
  have hx4 : Ext w (w.alloc (Obj.cells #[Value.int IntKind.i64 at_, Value.int IntKind.i64 by_] 3)) := (by repeat (first | exact Ext.refl _ | assumption | refine Ext.alloc ?_ _ | refine Ext.drewN ?_ _ | refine Ext.drew ?_))
  generalize (w.alloc (Obj.cells #[Value.int IntKind.i64 at_, Value.int IntKind.i64 by_] 3)) = w4 at *
  refine (of_calls w4 n ao cap L c src dst _ 2 [at_, by_] (hL.ext hx4) hlen hts (by simp)).mono ?_
  rintro e w5 ⟨hx5, ⟨hg, rfl⟩ | ⟨hg, tb, rfl, htb, hT⟩⟩
  · have hne : (goodE n L c src dst [at_, by_] != 0) = true := by simpa using hg
    have HG := Lib.hid hg
    clear hg
    go_wp2_with fail
    go_ret2
    exact ⟨_, [], _, rfl, Own.nil _ _ _, by simp, .inl ⟨HG.out, rfl, rfl⟩, hx4.trans hx5⟩
  · have HG := Lib.hid hg
    have hgood := good_iff.1 hg
    have hlen2 := hgood.len
    have hch := hgood.change
    have HF := Lib.hid hgood.fine
    clear hg hgood hts
    have hxw := hx4.trans hx5
    cases hsd : (src == dst) with
    | true =>
      have hsd' : src = dst := by simpa using hsd
      have HS := Lib.hid hsd'
      clear hsd'
      cases hab : decide (by_ < at_) with
      | true =>
        go_wp2_with fail
        go_ret2
        exact ⟨_, [], _, rfl, Own.nil _ _ _, by simp, .inr (.inl ⟨HG.out, HS.out, rfl, by rw [if_pos (by simpa using hab)]⟩), hxw⟩
      | false =>
        go_wp2_with fail
        go_ret2
        exact ⟨_, [], _, rfl, Own.nil _ _ _, by simp, .inr (.inl ⟨HG.out, HS.out, rfl, by rw [if_neg (by simpa using hab)]⟩), hxw⟩
    | false =>
      have hsd' : src ≠ dst := by simpa using hsd
      have HS := Lib.hid hsd'
      clear hsd'
      go_wp2_with fail
      refine (within_calls w5 tb n ao cap L c src dst at_ by_ hT (hL.ext hxw) (by omega) (by omega) HF.out).mono ?_
      rintro e w6 ⟨v, xs, rfl, hov, hxl, hxs, hx6⟩
      have HX := Lib.hid hxs
      clear hxs
      have hx06 := hxw.trans hx6
      obtain ⟨vo, vcap, rfl, hvb, -⟩ := hov.boolsShape
      rw [hxl]
      go_wp2_with fail
      refine (containsB_calls w6 vo vcap xs hvb (by omega) hxl).mono ?_
      rintro e w7 ⟨rfl, hx7⟩
      have hx07 := hx06.trans hx7
      have hx57 := hx6.trans hx7
      have HA : Hid (anyB L.length (bth xs) = true ↔ Goes c L src dst at_ by_) := Lib.hid (any_goes rfl HX.out)
      cases hany : anyB L.length (bth xs) with
      | false =>
        have HN : Hid (¬ Goes c L src dst at_ by_) := Lib.hid (fun h => by rw [HA.out.2 h] at hany; cases hany)
        go_wp2_with fail
        go_ret2
        exact ⟨_, [], _, rfl, Own.nil _ _ _, by simp, .inr (.inr (.inl ⟨HG.out, HS.out, HN.out, rfl, rfl⟩)), hx07⟩
      | true =>
        have HGO := Lib.hid (HA.out.1 hany)
        clear hany
        have hvb7 := hvb.ext hx7
        have hT7 := hT.ext hx57
        go_wp2_with fail
        go_loopw [54, 19] (fun i ov wr => ∃ (k : Nat) (outv : Value) (R : List Nat), k ≤ L.length ∧ i = .int .i64 k ∧ outv = ov ∧ Ext w7 wr ∧ Own wr w7.heap.size 1 outv (ints (nats R)) ∧ R.length ≤ k ∧ Hid (NeedIn c L src dst at_ by_ k R)) (fun i _ _ => L.length - (intOf i).toNat)
        case atStart => exact ⟨0, _, [], by omega, rfl, rfl, Ext.refl _, Own.nil _ _ _, by simp, Lib.hid (NeedIn.start _ _ _ _ _ _)⟩
        case round =>
          obtain ⟨k, outv, R, hk, rfl, rfl, hx, ho, hRk, HN⟩ := hrel
          by_cases hlt : k < L.length
          · obtain ⟨vb, vf, hvo, hvbl, hck⟩ := (hvb7.ext hx) k (by omega)
            subst hvo
            cases hb : bth xs k with
            | false =>
              rw [hb] at hck
              have HK := Lib.hid (HN.out.skip (by
                obtain ⟨x, hx⟩ := HGO.out
                exact ⟨x, hx, fun hm => by
                  have := (HX.out k hlt).2 (jn_mem hx hm)
                  rw [hb] at this; cases this⟩))
              clear hb
              go_wp2_with fail
              exact ⟨⟨k + 1, _, R, by omega, rfl, rfl, hx, ho, by omega, Lib.hid HK.out⟩, by simp only [intOf]; omega⟩
            | true =>
              rw [hb] at hck
              clear hb
              have hLr := hL.ext (hx07.trans hx)
              obtain ⟨lb, lf, hao, hlb, -⟩ := hLr k hlt
              subst hao
              have hTr := hT7.ext hx
              go_wp2_with fail
              refine (without_calls wr tb n lb lf cap L c k hTr hLr hlt (by omega)).mono ?_
              rintro e w8 ⟨tb2, g, goff, gcap, rfl, hT8, hL8, hx8⟩
              rw [← erase_len hlt] at hT8
              have hel : (L.eraseIdx k).length ≤ 100 := by rw [erase_len hlt]; omega
              go_wp2_with fail
              refine (within_calls w8 tb2 n _ gcap (L.eraseIdx k) c src dst at_ by_ hT8 hL8 hel (by omega) (fun j hj => by
                rw [leg_up]
                refine HF.out _ ?_
                rw [erase_len hlt] at hj
                unfold upTo
                split <;> omega)).mono ?_
              rintro e w9 ⟨v2, ys, rfl, hov2, hyl, hys, hx9⟩
              obtain ⟨yo, ycap, rfl, hyb, -⟩ := hov2.boolsShape
              rw [hyl]
              have hx89 := hx8.trans hx9
              go_wp2_with fail
              refine (containsB_calls w9 yo ycap ys hyb (by omega) hyl).mono ?_
              rintro e w10 ⟨rfl, hx10⟩
              have HB : Hid (anyB (L.eraseIdx k).length (bth ys) = true ↔ GoesBut c L src dst at_ by_ k) := Lib.hid ((any_goes rfl hys).trans (goes_erase hlt))
              clear hys hov2
              have hxr := hx.trans (hx89.trans hx10)
              have ho10 := ho.ext (hx89.trans hx10)
              cases hany2 : anyB (L.eraseIdx k).length (bth ys) with
              | true =>
                have HK := Lib.hid (HN.out.skip (HB.out.1 hany2))
                clear hany2
                go_wp2_with fail
                exact ⟨⟨k + 1, _, R, by omega, rfl, rfl, hxr, ho10, by omega, Lib.hid HK.out⟩, by simp only [intOf]; omega⟩
              | false =>
                have HK := Lib.hid (HN.out.add (fun h => by rw [HB.out.2 h] at hany2; cases hany2))
                clear hany2
                have hs10 := hxr.size
                go_wp2_with (at_builtin; refine wpList_append_Own _ rfl _ _ 25 rfl 3 i0 (.int .i64 0) 1 8 Try.underlying25 hi hz0 hz1 hz2 rfl (by omega) w7.heap.size _ _ rfl (Own.ext ho10 ((Ext.refl _).alloc _)) (by simp; omega) _ 1 1 [.int .i64 (k : Int)] rfl rfl (one_cell _ _ _ _ rfl) (by simp [Value.oneCell']) (by simp [ints_length, nats_length]; unfold maxLen; omega) (by simp [ints_length, nats_length]; omega) ?_; intro v' w5 ho5 hg5 hb5)
                rw [ints_snoc, nats_snoc] at ho5
                have hx5 : Ext w7 w5 := (hxr.alloc _).onto hg5 (fun q hq => by have := (ho10.lt q hq).1; omega)
                exact ⟨⟨k + 1, _, R ++ [k], by omega, rfl, rfl, hx5, ho5, by simp; omega, Lib.hid HK.out⟩, by simp only [intOf]; omega⟩
          · obtain rfl : k = L.length := by omega
            go_wp2_with fail
            go_ret2
            exact ⟨_, R, 0, rfl, ho.rebase hx07.size, hRk, .inr (.inr (.inr ⟨HG.out, HS.out, HGO.out, HN.out, rfl⟩)), hx07.trans hx⟩
end Go.Proofs.Ytmmjjfjbhogfgaa
