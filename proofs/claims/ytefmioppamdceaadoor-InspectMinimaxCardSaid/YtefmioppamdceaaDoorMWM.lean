/- big.Int: Add, Sub (the receiver may be a summand). -/
import Derived.Test.YtefmioppamdceaaDoorMWJ
namespace Go.Proofs.YtefmioppamdceaaDoor
open Go.RowKit Go.Shelf

set_option maxRecDepth 100000 in
set_option maxHeartbeats 8000000 in
theorem iadd_calls (w : World) (a b c : Nat) (x y : Int) (ha : IntSpot w a) (hx : BigAt w b x) (hy : BigAt w c y) (hX : W.many x.natAbs ≤ 1000) (hY : W.many y.natAbs ≤ 1000) :
    Calls Tryd.prog 90 #[.pointer (some ⟨a, 0, none⟩), .pointer (some ⟨b, 0, none⟩), .pointer (some ⟨c, 0, none⟩)] w (MutRes w a (x + y)) := by
  obtain ⟨⟨-, -, -, -, hbl⟩, x0, xo, xA, xc, x1, hxN⟩ := id hx
  obtain ⟨⟨-, -, -, -, hcl⟩, y0, yo, yA, yc, y1, hyN⟩ := id hy
  have hxA : xA ≤ 1000 := by rw [← hxN.many]; exact hX
  have hyA : yA ≤ 1000 := by rw [← hyN.many]; exact hY
  have hpc := fun W h h' => wplus_calls W xo yo xc yc xA yA x.natAbs y.natAbs h h' (by omega) (by omega)
  have hcc := fun W h h' => wcmp_calls W xo yo xc yc xA yA x.natAbs y.natAbs h h' (by omega) (by omega)
  have hmc := fun W (hle : y.natAbs ≤ x.natAbs) h h' => wminus_calls W xo yo xc yc xA yA x.natAbs y.natAbs h h' (by omega) hle
  have hmc2 := fun W (hle : x.natAbs ≤ y.natAbs) h h' => wminus_calls W yo xo yc xc yA xA y.natAbs x.natAbs h h' (by omega) hle
  obtain ⟨s, hs⟩ : ∃ s, s = decide (x < 0) := ⟨_, rfl⟩
  obtain ⟨t, ht⟩ : ∃ t, t = decide (y < 0) := ⟨_, rfl⟩
  rw [← hs] at x0
  rw [← ht] at y0
  by_cases hst : s = t
  · have HZ : Hid ((if s = true then -((x.natAbs + y.natAbs : Nat) : Int) else ((x.natAbs + y.natAbs : Nat) : Int)) = x + y) := Lib.hid (by
      have h2 := hst
      rw [hs, ht] at h2
      rw [hs]
      by_cases h1 : x < 0
      · have h3 : y < 0 := by simpa [h1] using h2
        rw [decide_eq_true h1, if_pos rfl]; omega
      · have h3 : ¬ y < 0 := by simpa [h1] using h2
        rw [decide_eq_false h1, if_neg (by decide)]; omega)
    have hsc := fun W ro rA rc h hN => (iset_calls W a s ro rA rc (x.natAbs + y.natAbs) h hN)
    rw [HZ.out] at hsc
    have hsb : (s == t) = true := by simp [hst]
    subst hst
    clear hs ht HZ hcc hmc hmc2
    go_enter Tryd.func90, Tryd.ntmps90
    go_wp2_with fail
    go_region
    obtain ⟨w0, hw0⟩ : ∃ w0, w0 = w.drew := ⟨_, rfl⟩
    have hx0 : Ext w w0 := by rw [hw0]; exact (Ext.refl _).drew
    rw [← hw0]
    clear hw0
    replace x0 := (hx0.cell (p := ⟨b, 0, none⟩) hbl).trans x0
    replace x1 := (hx0.cell (p := ⟨b, 1, none⟩) hbl).trans x1
    replace y0 := (hx0.cell (p := ⟨c, 0, none⟩) hcl).trans y0
    replace y1 := (hx0.cell (p := ⟨c, 1, none⟩) hcl).trans y1
    have hbl0 := Nat.lt_of_lt_of_le hbl hx0.size
    have hcl0 := Nat.lt_of_lt_of_le hcl hx0.size
    go_wp2_with fail
    go_region_with ((first
      | (go_at_call 92; (with_reducible refine Calls.mono (hsc _ _ _ _ ?_ ?_) ?_); (exact ha.ext (hx0.trans (by repeat (with_reducible first | exact Ext.refl _ | assumption | refine Ext.alloc ?_ _ | refine Ext.drew ?_)))); (exact hN); rintro e v2 ⟨rfl, hg, hB⟩)
      | (go_at_call 109; (with_reducible refine Calls.mono (hpc _ ?_ ?_) ?_); (exact hxN.ext (hx0.trans (by repeat (with_reducible first | exact Ext.refl _ | assumption | refine Ext.alloc ?_ _ | refine Ext.drew ?_)))); (exact hyN.ext (hx0.trans (by repeat (with_reducible first | exact Ext.refl _ | assumption | refine Ext.alloc ?_ _ | refine Ext.drew ?_)))); rintro e v1 ⟨ro, rA, rc, rfl, hN, hx11⟩; have hxv1 : Ext w0 v1 := Ext.trans (by repeat (with_reducible first | exact Ext.refl _ | assumption | refine Ext.alloc ?_ _ | refine Ext.drew ?_)) hx11; obtain ⟨d0, d1, d2, d3⟩ := i4c hbl0 x0 x1 hcl0 y0 y1 hxv1)))
    all_goals
      have hg2 := grownBy_trans ((hx0.trans hxv1).grown (some a)) hg
      go_wp2_with fail
      go_ret
      exact ⟨rfl, hg2, hB⟩
  · have hsb : (s == t) = false := by simp [hst]
    have hst2 : x < 0 ↔ ¬ y < 0 := by
      rw [hs, ht] at hst
      by_cases h1 : x < 0 <;> by_cases h2 : y < 0 <;> simp [h1, h2] at hst ⊢
    obtain ⟨cz, hcz⟩ : ∃ cz, cz = cmpZ (x.natAbs : Int) (y.natAbs : Int) := ⟨_, rfl⟩
    have hcz2 := cmpZ_cases (x.natAbs : Int) (y.natAbs : Int)
    rw [← hcz] at hcz2
    simp only [← hcz] at hcc
    have HST := Lib.hid hst2
    have HS := Lib.hid hs
    have HT := Lib.hid ht
    clear hcz hst2 hs ht hpc
    go_enter Tryd.func90, Tryd.ntmps90
    go_wp2_with fail
    go_region
    obtain ⟨w1, hw1⟩ : ∃ w1, w1 = w.drew := ⟨_, rfl⟩
    have hx01 : Ext w w1 := by rw [hw1]; exact (Ext.refl _).drew
    rw [← hw1]
    clear hw1
    replace x0 := (hx01.cell (p := ⟨b, 0, none⟩) hbl).trans x0
    replace x1 := (hx01.cell (p := ⟨b, 1, none⟩) hbl).trans x1
    replace y0 := (hx01.cell (p := ⟨c, 0, none⟩) hcl).trans y0
    replace y1 := (hx01.cell (p := ⟨c, 1, none⟩) hcl).trans y1
    replace hbl := Nat.lt_of_lt_of_le hbl hx01.size
    replace hcl := Nat.lt_of_lt_of_le hcl hx01.size
    by_cases hle : y.natAbs ≤ x.natAbs
    · have hcp : decide (cz ≥ 0) = true := by simp; omega
      have hcp2 : 0 ≤ cz := by omega
      have hmd := fun W h h' => hmc W hle h h'
      have HZ : Hid ((if s = true then -((x.natAbs - y.natAbs : Nat) : Int) else ((x.natAbs - y.natAbs : Nat) : Int)) = x + y) := Lib.hid (by
        rw [HS.out]
        have h2 := HST.out
        by_cases h1 : x < 0
        · rw [decide_eq_true h1, if_pos rfl]; omega
        · rw [decide_eq_false h1, if_neg (by decide)]; omega)
      have hsc := fun W ro rA rc h hN => (iset_calls W a s ro rA rc (x.natAbs - y.natAbs) h hN)
      rw [HZ.out] at hsc
      clear HZ hcz2 hmc hmc2 hle
      go_wp2_with fail
      go_region_held3 (fun w' => (w'.cell? ⟨b, 0, none⟩ = some (.bool s)) ∧ (w'.cell? ⟨b, 1, none⟩ = some (.slice xo xA xc)) ∧ (w'.cell? ⟨c, 0, none⟩ = some (.bool t)) ∧ (w'.cell? ⟨c, 1, none⟩ = some (.slice yo yA yc)))
        (exact i4c hbl x0 x1 hcl y0 y1 (by repeat (with_reducible first | exact Ext.refl _ | assumption | refine Ext.alloc ?_ _ | refine Ext.drew ?_)))
        ((go_at_call 110; (with_reducible refine Calls.mono (hcc _ ?_ ?_) ?_); (exact hxN.ext (hx01.trans (by repeat (with_reducible first | exact Ext.refl _ | assumption | refine Ext.alloc ?_ _ | refine Ext.drew ?_)))); (exact hyN.ext (hx01.trans (by repeat (with_reducible first | exact Ext.refl _ | assumption | refine Ext.alloc ?_ _ | refine Ext.drew ?_)))); rintro e w0 ⟨rfl, hx12⟩; have hx10 : Ext w1 w0 := Ext.trans (by repeat (with_reducible first | exact Ext.refl _ | assumption | refine Ext.alloc ?_ _ | refine Ext.drew ?_)) hx12))
      have hx0 := hx01.trans hx10
      replace x0 := (hx10.cell (p := ⟨b, 0, none⟩) hbl).trans x0
      replace x1 := (hx10.cell (p := ⟨b, 1, none⟩) hbl).trans x1
      replace y0 := (hx10.cell (p := ⟨c, 0, none⟩) hcl).trans y0
      replace y1 := (hx10.cell (p := ⟨c, 1, none⟩) hcl).trans y1
      have hbl0 := Nat.lt_of_lt_of_le hbl hx10.size
      have hcl0 := Nat.lt_of_lt_of_le hcl hx10.size
      clear hcc
      go_wp2_with fail
      go_region_with ((first
        | (go_at_call 92; (with_reducible refine Calls.mono (hsc _ _ _ _ ?_ ?_) ?_); (exact ha.ext (hx0.trans (by repeat (with_reducible first | exact Ext.refl _ | assumption | refine Ext.alloc ?_ _ | refine Ext.drew ?_)))); (exact hN); rintro e v2 ⟨rfl, hg, hB⟩)
        | (go_at_call 111; (with_reducible refine Calls.mono (hmd _ ?_ ?_) ?_); (exact hxN.ext (hx0.trans (by repeat (with_reducible first | exact Ext.refl _ | assumption | refine Ext.alloc ?_ _ | refine Ext.drew ?_)))); (exact hyN.ext (hx0.trans (by repeat (with_reducible first | exact Ext.refl _ | assumption | refine Ext.alloc ?_ _ | refine Ext.drew ?_)))); rintro e v1 ⟨ro, rA, rc, rfl, hN, hx11⟩; have hxv1 : Ext w0 v1 := Ext.trans (by repeat (with_reducible first | exact Ext.refl _ | assumption | refine Ext.alloc ?_ _ | refine Ext.drew ?_)) hx11; obtain ⟨d0, d1, d2, d3⟩ := i4c hbl0 x0 x1 hcl0 y0 y1 hxv1)))
      all_goals
        have hg2 := grownBy_trans ((hx0.trans hxv1).grown (some a)) hg
        go_wp2_with fail
        go_ret
        exact ⟨rfl, hg2, hB⟩
    · have hcp : decide (cz ≥ 0) = false := by simp; omega
      have hcp2 : ¬ 0 ≤ cz := by omega
      have hmd := fun W h h' => hmc2 W (by omega) h h'
      have HZ : Hid ((if t = true then -((y.natAbs - x.natAbs : Nat) : Int) else ((y.natAbs - x.natAbs : Nat) : Int)) = x + y) := Lib.hid (by
        rw [HT.out]
        have h2 := HST.out
        by_cases h1 : y < 0
        · rw [decide_eq_true h1, if_pos rfl]; omega
        · rw [decide_eq_false h1, if_neg (by decide)]; omega)
      have hsc := fun W ro rA rc h hN => (iset_calls W a t ro rA rc (y.natAbs - x.natAbs) h hN)
      rw [HZ.out] at hsc
      clear HZ hcz2 hmc hmc2 hle
      go_wp2_with fail
      go_region_held3 (fun w' => (w'.cell? ⟨b, 0, none⟩ = some (.bool s)) ∧ (w'.cell? ⟨b, 1, none⟩ = some (.slice xo xA xc)) ∧ (w'.cell? ⟨c, 0, none⟩ = some (.bool t)) ∧ (w'.cell? ⟨c, 1, none⟩ = some (.slice yo yA yc)))
        (exact i4c hbl x0 x1 hcl y0 y1 (by repeat (with_reducible first | exact Ext.refl _ | assumption | refine Ext.alloc ?_ _ | refine Ext.drew ?_)))
        ((go_at_call 110; (with_reducible refine Calls.mono (hcc _ ?_ ?_) ?_); (exact hxN.ext (hx01.trans (by repeat (with_reducible first | exact Ext.refl _ | assumption | refine Ext.alloc ?_ _ | refine Ext.drew ?_)))); (exact hyN.ext (hx01.trans (by repeat (with_reducible first | exact Ext.refl _ | assumption | refine Ext.alloc ?_ _ | refine Ext.drew ?_)))); rintro e w0 ⟨rfl, hx12⟩; have hx10 : Ext w1 w0 := Ext.trans (by repeat (with_reducible first | exact Ext.refl _ | assumption | refine Ext.alloc ?_ _ | refine Ext.drew ?_)) hx12))
      have hx0 := hx01.trans hx10
      replace x0 := (hx10.cell (p := ⟨b, 0, none⟩) hbl).trans x0
      replace x1 := (hx10.cell (p := ⟨b, 1, none⟩) hbl).trans x1
      replace y0 := (hx10.cell (p := ⟨c, 0, none⟩) hcl).trans y0
      replace y1 := (hx10.cell (p := ⟨c, 1, none⟩) hcl).trans y1
      have hbl0 := Nat.lt_of_lt_of_le hbl hx10.size
      have hcl0 := Nat.lt_of_lt_of_le hcl hx10.size
      clear hcc
      go_wp2_with fail
      go_region_with ((first
        | (go_at_call 92; (with_reducible refine Calls.mono (hsc _ _ _ _ ?_ ?_) ?_); (exact ha.ext (hx0.trans (by repeat (with_reducible first | exact Ext.refl _ | assumption | refine Ext.alloc ?_ _ | refine Ext.drew ?_)))); (exact hN); rintro e v2 ⟨rfl, hg, hB⟩)
        | (go_at_call 111; (with_reducible refine Calls.mono (hmd _ ?_ ?_) ?_); (exact hyN.ext (hx0.trans (by repeat (with_reducible first | exact Ext.refl _ | assumption | refine Ext.alloc ?_ _ | refine Ext.drew ?_)))); (exact hxN.ext (hx0.trans (by repeat (with_reducible first | exact Ext.refl _ | assumption | refine Ext.alloc ?_ _ | refine Ext.drew ?_)))); rintro e v1 ⟨ro, rA, rc, rfl, hN, hx11⟩; have hxv1 : Ext w0 v1 := Ext.trans (by repeat (with_reducible first | exact Ext.refl _ | assumption | refine Ext.alloc ?_ _ | refine Ext.drew ?_)) hx11; obtain ⟨d0, d1, d2, d3⟩ := i4c hbl0 x0 x1 hcl0 y0 y1 hxv1)))
      all_goals
        have hg2 := grownBy_trans ((hx0.trans hxv1).grown (some a)) hg
        go_wp2_with fail
        go_ret
        exact ⟨rfl, hg2, hB⟩
end Go.Proofs.YtefmioppamdceaaDoor

/- big.Int: Sub. -/
namespace Go.Proofs.YtefmioppamdceaaDoor
open Go.RowKit Go.Shelf

theorem IntSpot.new (w : World) : IntSpot (w.alloc (Obj.cells #[.bool false, .slice none 0 0] 94)) w.heap.size := ⟨⟨false, by simp [go_sem]⟩, ⟨_, by simp [go_sem]; rfl⟩, by simp [go_sem], by simp [go_sem], by simp⟩
set_option maxRecDepth 100000 in
set_option maxHeartbeats 1000000 in
theorem isub_calls (w : World) (a b c : Nat) (x y : Int) (ha : IntSpot w a) (hx : BigAt w b x) (hy : BigAt w c y) (hX : W.many x.natAbs ≤ 1000) (hY : W.many y.natAbs ≤ 1000) :
    Calls Tryd.prog 56 #[.pointer (some ⟨a, 0, none⟩), .pointer (some ⟨b, 0, none⟩), .pointer (some ⟨c, 0, none⟩)] w (MutRes w a (x - y)) := by
  go_enter Tryd.func56, Tryd.ntmps56
  go_wp2_with fail
  have hx1 : Ext w (w.alloc (Obj.cells #[.bool false, .slice none 0 0] 94)) := (by repeat (first | exact Ext.refl _ | assumption | refine Ext.alloc ?_ _ | refine Ext.drewN ?_ _ | refine Ext.drew ?_))
  have hs1 := IntSpot.new w
  obtain ⟨N, hN⟩ : ∃ N, N = w.heap.size := ⟨_, rfl⟩
  generalize (w.alloc (Obj.cells #[.bool false, .slice none 0 0] 94)) = w1 at *
  rw [← hN] at hs1 ⊢
  have hNw : w.heap.size ≤ N := by omega
  have hNa : a ≠ N := by have := ha.lt; omega
  have hNb : b ≠ N := by have := hx.spot.lt; omega
  clear hN
  refine (ineg_calls w1 N c y hs1 (hy.ext hx1)).mono ?_
  rintro e w2 ⟨rfl, hg, hB⟩
  have hx2 : Ext w w2 := hx1.onto hg (fun q hq => by simp only [Option.some.injEq] at hq; omega)
  go_wp2_with fail
  refine (iadd_calls w2 a b N x (-y) (ha.ext hx2) (hx.ext hx2) hB hX (by rw [Int.natAbs_neg]; exact hY)).mono ?_
  rintro e w3 ⟨rfl, hg3, hB3⟩
  have hg4 := grownBy_trans (hx2.grown (some a)) hg3
  rw [show x + -y = x - y by omega] at hB3
  go_wp2_with fail
  go_ret
  exact ⟨rfl, hg4, hB3⟩
end Go.Proofs.YtefmioppamdceaaDoor

/- big.Int: Set, Quo and QuoRem (by numbers of at most two words). -/
namespace Go.Proofs.YtefmioppamdceaaDoor
open Go.RowKit Go.Shelf

set_option maxRecDepth 100000 in
theorem isetTo_calls (w : World) (a b : Nat) (x : Int) (ha : IntSpot w a) (hx : BigAt w b x) :
    Calls Tryd.prog 89 #[.pointer (some ⟨a, 0, none⟩), .pointer (some ⟨b, 0, none⟩)] w (MutRes w a x) := by
  obtain ⟨⟨-, -, -, -, hbl⟩, x0, xo, xA, xc, x1, hxN⟩ := id hx
  have hsc := fun W h hN => iset_calls W a (decide (x < 0)) xo xA xc x.natAbs h hN
  have HZ : Hid ((if decide (x < 0) = true then -(x.natAbs : Int) else (x.natAbs : Int)) = x) := Lib.hid (by
    by_cases h1 : x < 0
    · rw [decide_eq_true h1, if_pos rfl]; omega
    · rw [decide_eq_false h1, if_neg (by decide)]; omega)
  rw [HZ.out] at hsc
  obtain ⟨s, hs⟩ : ∃ s, s = decide (x < 0) := ⟨_, rfl⟩
  rw [← hs] at x0
  simp only [← hs] at hsc
  clear hs HZ
  go_enter Tryd.func89, Tryd.ntmps89
  go_wp2_with fail
  go_region_with ((go_at_call 92; (with_reducible refine Calls.mono (hsc _ ?_ ?_) ?_); (exact ha.ext (by repeat (with_reducible first | exact Ext.refl _ | assumption | refine Ext.alloc ?_ _ | refine Ext.drew ?_))); (exact hxN.ext (by repeat (with_reducible first | exact Ext.refl _ | assumption | refine Ext.alloc ?_ _ | refine Ext.drew ?_))); rintro e v2 ⟨rfl, hg, hB⟩))
  all_goals
    have hg2 : w.grownBy v2 (some a) := grownBy_trans (Ext.grown (show Ext w _ from (by repeat (with_reducible first | exact Ext.refl _ | assumption | refine Ext.alloc ?_ _ | refine Ext.drew ?_))) (some a)) hg
    go_wp2_with fail
    go_ret
    exact ⟨rfl, hg2, hB⟩
end Go.Proofs.YtefmioppamdceaaDoor

/- big.Int: QuoRem, Quo (by numbers of at most two words), Cmp. -/
namespace Go.Proofs.YtefmioppamdceaaDoor
open Go.RowKit Go.Shelf

theorem IntSpot.far {w w' : World} {a b : Nat} (h : IntSpot w a) (hab : a ≠ b) (hg : w.grownBy w' (some b)) : IntSpot w' a := by
  obtain ⟨⟨x, h0⟩, ⟨v, h1⟩, h2, h3, h4⟩ := h
  have hne : ∀ o, some (⟨a, o, none⟩ : Addr).block ≠ some b := fun o => by simp only [ne_eq, Option.some.injEq]; exact hab
  exact ⟨⟨x, (grownBy_cell hg (p := ⟨a, 0, none⟩) h4 (hne 0)).trans h0⟩, ⟨v, (grownBy_cell hg (p := ⟨a, 1, none⟩) h4 (hne 1)).trans h1⟩, (grownBy_frozen hg (p := ⟨a, 0, none⟩) h4 (hne 0)).trans h2, (grownBy_frozen hg (p := ⟨a, 1, none⟩) h4 (hne 1)).trans h3, Nat.lt_of_lt_of_le h4 hg.size⟩
theorem signed_div (x y : Int) : (if (!(decide (x < 0) == decide (y < 0))) = true then -((x.natAbs / y.natAbs : Nat) : Int) else ((x.natAbs / y.natAbs : Nat) : Int)) = x.tdiv y := by
  by_cases h1 : x < 0 <;> by_cases h2 : y < 0
  · rw [decide_eq_true h1, decide_eq_true h2, if_neg (by decide)]
    obtain ⟨p, rfl⟩ : ∃ p : Nat, x = -(p : Int) := ⟨x.natAbs, by omega⟩
    obtain ⟨q, rfl⟩ : ∃ q : Nat, y = -(q : Int) := ⟨y.natAbs, by omega⟩
    rw [Int.neg_tdiv, Int.tdiv_neg, Int.neg_neg, Int.natAbs_neg, Int.natAbs_neg]; rfl
  · rw [decide_eq_true h1, decide_eq_false h2, if_pos (by decide)]
    obtain ⟨p, rfl⟩ : ∃ p : Nat, x = -(p : Int) := ⟨x.natAbs, by omega⟩
    obtain ⟨q, rfl⟩ : ∃ q : Nat, y = (q : Int) := ⟨y.natAbs, by omega⟩
    rw [Int.neg_tdiv, Int.natAbs_neg]; rfl
  · rw [decide_eq_false h1, decide_eq_true h2, if_pos (by decide)]
    obtain ⟨p, rfl⟩ : ∃ p : Nat, x = (p : Int) := ⟨x.natAbs, by omega⟩
    obtain ⟨q, rfl⟩ : ∃ q : Nat, y = -(q : Int) := ⟨y.natAbs, by omega⟩
    rw [Int.tdiv_neg, Int.natAbs_neg]; rfl
  · rw [decide_eq_false h1, decide_eq_false h2, if_neg (by decide)]
    obtain ⟨p, rfl⟩ : ∃ p : Nat, x = (p : Int) := ⟨x.natAbs, by omega⟩
    obtain ⟨q, rfl⟩ : ∃ q : Nat, y = (q : Int) := ⟨y.natAbs, by omega⟩
    rfl
theorem signed_mod (x y : Int) : (if decide (x < 0) = true then -((x.natAbs % y.natAbs : Nat) : Int) else ((x.natAbs % y.natAbs : Nat) : Int)) = x.tmod y := by
  have e : ∀ p : Nat, (p : Int).tmod y = ((p % y.natAbs : Nat) : Int) := fun p => by
    rcases Int.lt_or_le y 0 with h | h
    · obtain ⟨q, rfl⟩ : ∃ q : Nat, y = -(q : Int) := ⟨y.natAbs, by omega⟩
      rw [Int.tmod_neg, Int.natAbs_neg]; rfl
    · obtain ⟨q, rfl⟩ : ∃ q : Nat, y = (q : Int) := ⟨y.natAbs, by omega⟩
      rfl
  by_cases h1 : x < 0
  · rw [decide_eq_true h1, if_pos rfl]
    obtain ⟨p, rfl⟩ : ∃ p : Nat, x = -(p : Int) := ⟨x.natAbs, by omega⟩
    rw [Int.neg_tmod, Int.natAbs_neg, e]; rfl
  · rw [decide_eq_false h1, if_neg (by decide)]
    obtain ⟨p, rfl⟩ : ∃ p : Nat, x = (p : Int) := ⟨x.natAbs, by omega⟩
    rw [e]; rfl
/-- The quotient is set, and the rest. -/
def QuoRes (w : World) (a d : Nat) (x y : Int) (e : Ending) (w' : World) : Prop := e = .returned (.tuple #[.pointer (some ⟨a, 0, none⟩), .pointer (some ⟨d, 0, none⟩)]) ∧ BigAt w' a (x.tdiv y) ∧ BigAt w' d (x.tmod y) ∧ ∃ w1, w.grownBy w1 (some a) ∧ w1.grownBy w' (some d)
set_option maxRecDepth 100000 in
set_option maxHeartbeats 4000000 in
theorem iquoRem_calls (w : World) (a b c d : Nat) (x y : Int) (ha : IntSpot w a) (hx : BigAt w b x) (hy : BigAt w c y) (hd : IntSpot w d) (hX : W.many x.natAbs ≤ 1000) (hY : y.natAbs < 18446744073709551616) (hy0 : y ≠ 0) (hda : d ≠ a) :
    Calls Tryd.prog 118 #[.pointer (some ⟨a, 0, none⟩), .pointer (some ⟨b, 0, none⟩), .pointer (some ⟨c, 0, none⟩), .pointer (some ⟨d, 0, none⟩)] w (QuoRes w a d x y) := by
  obtain ⟨⟨-, -, -, -, hbl⟩, x0, xo, xA, xc, x1, hxN⟩ := id hx
  obtain ⟨⟨-, -, -, -, hcl⟩, y0, yo, yA, yc, y1, hyN⟩ := id hy
  have hxA : xA ≤ 1000 := by rw [← hxN.many]; exact hX
  have hyA : yA ≤ 2 := by rw [← hyN.many]; exact many2 hY
  have hdc := fun W h h' => wdivide_calls W xo yo xc yc xA yA x.natAbs y.natAbs h h' (by omega) hyA (by omega)
  have hsc := fun W ro rA rc h hN => (iset_calls W a (!(decide (x < 0) == decide (y < 0))) ro rA rc (x.natAbs / y.natAbs) h hN)
  have htc := fun W ro rA rc h hN => (iset_calls W d (decide (x < 0)) ro rA rc (x.natAbs % y.natAbs) h hN)
  rw [signed_div] at hsc
  rw [signed_mod] at htc
  obtain ⟨s, hs⟩ : ∃ s, s = decide (x < 0) := ⟨_, rfl⟩
  obtain ⟨t, ht⟩ : ∃ t, t = decide (y < 0) := ⟨_, rfl⟩
  rw [← hs] at x0
  rw [← ht] at y0
  simp only [← hs, ← ht] at hsc htc
  clear hs ht hy0
  go_enter Tryd.func118, Tryd.ntmps118
  go_wp2_with fail
  go_region_held3 (fun w' => (w'.cell? ⟨b, 0, none⟩ = some (.bool s)) ∧ (w'.cell? ⟨b, 1, none⟩ = some (.slice xo xA xc)) ∧ (w'.cell? ⟨c, 0, none⟩ = some (.bool t)) ∧ (w'.cell? ⟨c, 1, none⟩ = some (.slice yo yA yc)))
    (exact i4c hbl x0 x1 hcl y0 y1 (by repeat (with_reducible first | exact Ext.refl _ | assumption | refine Ext.alloc ?_ _ | refine Ext.drew ?_)))
    ((go_at_call 121; (with_reducible refine Calls.mono (hdc _ ?_ ?_) ?_); (exact hxN.ext (by repeat (with_reducible first | exact Ext.refl _ | assumption | refine Ext.alloc ?_ _ | refine Ext.drew ?_))); (exact hyN.ext (by repeat (with_reducible first | exact Ext.refl _ | assumption | refine Ext.alloc ?_ _ | refine Ext.drew ?_))); rintro e w2 ⟨qo, qA, qc, ro, rA, rc, rfl, hN, hN2, hx12⟩; have hx2 : Ext w w2 := Ext.trans (by repeat (with_reducible first | exact Ext.refl _ | assumption | refine Ext.alloc ?_ _ | refine Ext.drew ?_)) hx12))
  obtain ⟨d0, d1, d2, d3⟩ := i4c hbl x0 x1 hcl y0 y1 hx2
  have hbl2 := Nat.lt_of_lt_of_le hbl hx2.size
  have hcl2 := Nat.lt_of_lt_of_le hcl hx2.size
  clear hdc x0 x1 y0 y1
  go_wp2_with fail
  go_region
  obtain ⟨w3, hw3⟩ : ∃ w3, w3 = w2.drew := ⟨_, rfl⟩
  have hx3 : Ext w w3 := by rw [hw3]; exact hx2.drew
  have hx23 : Ext w2 w3 := by rw [hw3]; exact (Ext.refl _).drew
  rw [← hw3]
  clear hw3
  have ha3 := ha.ext hx3
  have hd3 := hd.ext hx3
  have hN3 := hN.ext hx23
  have hM3 := hN2.ext hx23
  go_wp2_with fail
  refine (hsc w3 _ _ _ ha3 hN3).mono ?_
  rintro e w4 ⟨rfl, hg4, hB4⟩
  obtain ⟨⟨b0, hb0⟩, -, -, -, -⟩ := id ha3
  obtain ⟨⟨b1, hb1⟩, -, -, -, -⟩ := id (hd3.far hda hg4)
  go_wp2_with fail
  refine (htc w4 _ _ _ (hd3.far hda hg4) (hM3.far hb0 hg4)).mono ?_
  rintro e w5 ⟨rfl, hg5, hB5⟩
  have hB4' := hB4.far (hd3.far hda hg4) (Ne.symm hda) hg5
  have hg4' := grownBy_trans (hx3.grown (some a)) hg4
  go_wp2_with fail
  go_ret2
  exact ⟨rfl, hB4', hB5, w4, hg4', hg5⟩
set_option maxRecDepth 100000 in
set_option maxHeartbeats 1000000 in
theorem iquo_calls (w : World) (a b c : Nat) (x y : Int) (ha : IntSpot w a) (hx : BigAt w b x) (hy : BigAt w c y) (hX : W.many x.natAbs ≤ 1000) (hY : y.natAbs < 18446744073709551616) (hy0 : y ≠ 0) :
    Calls Tryd.prog 100 #[.pointer (some ⟨a, 0, none⟩), .pointer (some ⟨b, 0, none⟩), .pointer (some ⟨c, 0, none⟩)] w (MutRes w a (x.tdiv y)) := by
  go_enter Tryd.func100, Tryd.ntmps100
  go_wp2_with fail
  have hx1 : Ext w (w.alloc (Obj.cells #[.bool false, .slice none 0 0] 94)) := (by repeat (first | exact Ext.refl _ | assumption | refine Ext.alloc ?_ _ | refine Ext.drewN ?_ _ | refine Ext.drew ?_))
  have hs1 := IntSpot.new w
  obtain ⟨N, hN⟩ : ∃ N, N = w.heap.size := ⟨_, rfl⟩
  generalize (w.alloc (Obj.cells #[.bool false, .slice none 0 0] 94)) = w1 at *
  rw [← hN] at hs1 ⊢
  have hNw : w.heap.size ≤ N := by omega
  have hNa : N ≠ a := by have := ha.lt; omega
  clear hN
  refine (iquoRem_calls w1 a b c N x y (ha.ext hx1) (hx.ext hx1) (hy.ext hx1) hs1 hX hY hy0 hNa).mono ?_
  rintro e w2 ⟨rfl, hB, -, w3, hg1, hg2⟩
  have hg3 : w.grownBy w2 (some a) := grownBy_onto (grownBy_trans (hx1.grown (some a)) hg1) hg2 (fun k hk => by simp only [Option.some.injEq] at hk; subst hk; exact .inl hNw)
  go_wp2_with fail
  go_ret
  exact ⟨rfl, hg3, hB⟩
theorem sign_ge {y : Int} (h : 0 ≤ y) : 0 ≤ y.sign := by
  rcases Int.lt_or_eq_of_le h with h | h
  · rw [Int.sign_eq_one_of_pos h]; decide
  · rw [← h]; decide
set_option maxRecDepth 100000 in
set_option maxHeartbeats 2000000 in
theorem icmp_calls (w : World) (b c : Nat) (x y : Int) (hx : BigAt w b x) (hy : BigAt w c y) (hX : W.many x.natAbs ≤ 1000) (hY : W.many y.natAbs ≤ 1000) :
    Calls Tryd.prog 101 #[.pointer (some ⟨b, 0, none⟩), .pointer (some ⟨c, 0, none⟩)] w fun e w' => e = .returned (.int .i64 (cmpZ x y)) ∧ Ext w w' := by
  obtain ⟨⟨-, -, -, -, hbl⟩, x0, xo, xA, xc, x1, hxN⟩ := id hx
  obtain ⟨⟨-, -, -, -, hcl⟩, y0, yo, yA, yc, y1, hyN⟩ := id hy
  have hxA : xA ≤ 1000 := by rw [← hxN.many]; exact hX
  have hyA : yA ≤ 1000 := by rw [← hyN.many]; exact hY
  have hcc := fun W h h' => wcmp_calls W xo yo xc yc xA yA x.natAbs y.natAbs h h' (by omega) (by omega)
  obtain ⟨cz, hcz⟩ : ∃ cz, cz = cmpZ (x.natAbs : Int) (y.natAbs : Int) := ⟨_, rfl⟩
  have hcz2 := cmpZ_cases (x.natAbs : Int) (y.natAbs : Int)
  rw [← hcz] at hcz2
  simp only [← hcz] at hcc
  have hczb : -1 ≤ cz ∧ cz ≤ 1 := by omega
  have HC := Lib.hid hcz2
  clear hcz2 hcz
  by_cases h1 : x < 0 <;> by_cases h2 : y < 0
  · rw [decide_eq_true h1] at x0
    rw [decide_eq_true h2] at y0
    have HF : Hid (-cz = cmpZ x y) := Lib.hid (by have := HC.out; unfold cmpZ; split <;> (try split) <;> omega)
    go_enter Tryd.func101, Tryd.ntmps101
    go_wp2_with fail
    go_region_held3 (fun w' => (w'.cell? ⟨b, 0, none⟩ = some (.bool true)) ∧ (w'.cell? ⟨b, 1, none⟩ = some (.slice xo xA xc)) ∧ (w'.cell? ⟨c, 0, none⟩ = some (.bool true)) ∧ (w'.cell? ⟨c, 1, none⟩ = some (.slice yo yA yc)))
      (exact i4c hbl x0 x1 hcl y0 y1 (by repeat (with_reducible first | exact Ext.refl _ | assumption | refine Ext.alloc ?_ _ | refine Ext.drew ?_)))
      ((go_at_call 110; (with_reducible refine Calls.mono (hcc _ ?_ ?_) ?_); (exact hxN.ext (by repeat (with_reducible first | exact Ext.refl _ | assumption | refine Ext.alloc ?_ _ | refine Ext.drew ?_))); (exact hyN.ext (by repeat (with_reducible first | exact Ext.refl _ | assumption | refine Ext.alloc ?_ _ | refine Ext.drew ?_))); rintro e w2 ⟨rfl, hx12⟩; have hx2 : Ext w w2 := Ext.trans (by repeat (with_reducible first | exact Ext.refl _ | assumption | refine Ext.alloc ?_ _ | refine Ext.drew ?_)) hx12))
    obtain ⟨d0, d1, d2, d3⟩ := i4c hbl x0 x1 hcl y0 y1 hx2
    have hbl2 := Nat.lt_of_lt_of_le hbl hx2.size
    have hcl2 := Nat.lt_of_lt_of_le hcl hx2.size
    clear hcc x0 x1 y0 y1
    go_wp2_with fail
    go_region
    go_wp2_with fail
    go_ret
    exact ⟨ret_int HF.out, hx2.drew⟩
  · rw [decide_eq_true h1] at x0
    rw [decide_eq_false h2] at y0
    have HF : Hid (cmpZ x.sign y.sign = cmpZ x y) := Lib.hid (by
      have e1 : x.sign = -1 := Int.sign_eq_neg_one_of_neg h1
      have e2 : 0 ≤ y.sign := sign_ge (by omega)
      unfold cmpZ; rw [if_pos (by omega), if_pos (by omega)])
    go_enter Tryd.func101, Tryd.ntmps101
    go_wp2_with fail
    go_region_held3 (fun w' => (w'.cell? ⟨b, 0, none⟩ = some (.bool true)) ∧ (w'.cell? ⟨b, 1, none⟩ = some (.slice xo xA xc)) ∧ (w'.cell? ⟨c, 0, none⟩ = some (.bool false)) ∧ (w'.cell? ⟨c, 1, none⟩ = some (.slice yo yA yc)))
      (exact i4c hbl x0 x1 hcl y0 y1 (by repeat (with_reducible first | exact Ext.refl _ | assumption | refine Ext.alloc ?_ _ | refine Ext.drew ?_)))
      ((go_at_call 110; (with_reducible refine Calls.mono (hcc _ ?_ ?_) ?_); (exact hxN.ext (by repeat (with_reducible first | exact Ext.refl _ | assumption | refine Ext.alloc ?_ _ | refine Ext.drew ?_))); (exact hyN.ext (by repeat (with_reducible first | exact Ext.refl _ | assumption | refine Ext.alloc ?_ _ | refine Ext.drew ?_))); rintro e w2 ⟨rfl, hx12⟩; have hx2 : Ext w w2 := Ext.trans (by repeat (with_reducible first | exact Ext.refl _ | assumption | refine Ext.alloc ?_ _ | refine Ext.drew ?_)) hx12))
    obtain ⟨d0, d1, d2, d3⟩ := i4c hbl x0 x1 hcl y0 y1 hx2
    have hbl2 := Nat.lt_of_lt_of_le hbl hx2.size
    have hcl2 := Nat.lt_of_lt_of_le hcl hx2.size
    clear hcc x0 x1 y0 y1
    go_wp2_with fail
    go_region
    obtain ⟨w3, hw3⟩ : ∃ w3, w3 = w2.drew := ⟨_, rfl⟩
    have hx3 : Ext w w3 := by rw [hw3]; exact hx2.drew
    rw [← hw3]
    clear hw3
    go_wp2_with fail
    refine (isign_calls w3 b x (hx.ext hx3)).mono ?_
    rintro e w4 ⟨rfl, hx4⟩
    go_wp2_with fail
    refine (isign_calls w4 c y (hy.ext (hx3.trans hx4))).mono ?_
    rintro e w5 ⟨rfl, hx5⟩
    go_wp2_with fail
    refine (cmpInt_calls w5 _ _).mono ?_
    rintro e w6 ⟨rfl, hx6⟩
    have hx36 := ((hx3.trans hx4).trans hx5).trans hx6
    go_wp2_with fail
    go_ret
    exact ⟨ret_int HF.out, hx36⟩
  · rw [decide_eq_false h1] at x0
    rw [decide_eq_true h2] at y0
    have HF : Hid (cmpZ x.sign y.sign = cmpZ x y) := Lib.hid (by
      have e1 : y.sign = -1 := Int.sign_eq_neg_one_of_neg h2
      have e2 : 0 ≤ x.sign := sign_ge (by omega)
      unfold cmpZ; rw [if_neg (by omega), if_pos (by omega), if_neg (by omega), if_pos (by omega)])
    go_enter Tryd.func101, Tryd.ntmps101
    go_wp2_with fail
    go_region_held3 (fun w' => (w'.cell? ⟨b, 0, none⟩ = some (.bool false)) ∧ (w'.cell? ⟨b, 1, none⟩ = some (.slice xo xA xc)) ∧ (w'.cell? ⟨c, 0, none⟩ = some (.bool true)) ∧ (w'.cell? ⟨c, 1, none⟩ = some (.slice yo yA yc)))
      (exact i4c hbl x0 x1 hcl y0 y1 (by repeat (with_reducible first | exact Ext.refl _ | assumption | refine Ext.alloc ?_ _ | refine Ext.drew ?_)))
      ((go_at_call 110; (with_reducible refine Calls.mono (hcc _ ?_ ?_) ?_); (exact hxN.ext (by repeat (with_reducible first | exact Ext.refl _ | assumption | refine Ext.alloc ?_ _ | refine Ext.drew ?_))); (exact hyN.ext (by repeat (with_reducible first | exact Ext.refl _ | assumption | refine Ext.alloc ?_ _ | refine Ext.drew ?_))); rintro e w2 ⟨rfl, hx12⟩; have hx2 : Ext w w2 := Ext.trans (by repeat (with_reducible first | exact Ext.refl _ | assumption | refine Ext.alloc ?_ _ | refine Ext.drew ?_)) hx12))
    obtain ⟨d0, d1, d2, d3⟩ := i4c hbl x0 x1 hcl y0 y1 hx2
    have hbl2 := Nat.lt_of_lt_of_le hbl hx2.size
    have hcl2 := Nat.lt_of_lt_of_le hcl hx2.size
    clear hcc x0 x1 y0 y1
    go_wp2_with fail
    go_region
    obtain ⟨w3, hw3⟩ : ∃ w3, w3 = w2.drew := ⟨_, rfl⟩
    have hx3 : Ext w w3 := by rw [hw3]; exact hx2.drew
    rw [← hw3]
    clear hw3
    go_wp2_with fail
    refine (isign_calls w3 b x (hx.ext hx3)).mono ?_
    rintro e w4 ⟨rfl, hx4⟩
    go_wp2_with fail
    refine (isign_calls w4 c y (hy.ext (hx3.trans hx4))).mono ?_
    rintro e w5 ⟨rfl, hx5⟩
    go_wp2_with fail
    refine (cmpInt_calls w5 _ _).mono ?_
    rintro e w6 ⟨rfl, hx6⟩
    have hx36 := ((hx3.trans hx4).trans hx5).trans hx6
    go_wp2_with fail
    go_ret
    exact ⟨ret_int HF.out, hx36⟩
  · rw [decide_eq_false h1] at x0
    rw [decide_eq_false h2] at y0
    have HF : Hid (cz = cmpZ x y) := Lib.hid (by have := HC.out; unfold cmpZ; split <;> (try split) <;> omega)
    go_enter Tryd.func101, Tryd.ntmps101
    go_wp2_with fail
    go_region_held3 (fun w' => (w'.cell? ⟨b, 0, none⟩ = some (.bool false)) ∧ (w'.cell? ⟨b, 1, none⟩ = some (.slice xo xA xc)) ∧ (w'.cell? ⟨c, 0, none⟩ = some (.bool false)) ∧ (w'.cell? ⟨c, 1, none⟩ = some (.slice yo yA yc)))
      (exact i4c hbl x0 x1 hcl y0 y1 (by repeat (with_reducible first | exact Ext.refl _ | assumption | refine Ext.alloc ?_ _ | refine Ext.drew ?_)))
      ((go_at_call 110; (with_reducible refine Calls.mono (hcc _ ?_ ?_) ?_); (exact hxN.ext (by repeat (with_reducible first | exact Ext.refl _ | assumption | refine Ext.alloc ?_ _ | refine Ext.drew ?_))); (exact hyN.ext (by repeat (with_reducible first | exact Ext.refl _ | assumption | refine Ext.alloc ?_ _ | refine Ext.drew ?_))); rintro e w2 ⟨rfl, hx12⟩; have hx2 : Ext w w2 := Ext.trans (by repeat (with_reducible first | exact Ext.refl _ | assumption | refine Ext.alloc ?_ _ | refine Ext.drew ?_)) hx12))
    obtain ⟨d0, d1, d2, d3⟩ := i4c hbl x0 x1 hcl y0 y1 hx2
    have hbl2 := Nat.lt_of_lt_of_le hbl hx2.size
    have hcl2 := Nat.lt_of_lt_of_le hcl hx2.size
    clear hcc x0 x1 y0 y1
    go_wp2_with fail
    go_region
    go_wp2_with fail
    go_ret
    exact ⟨ret_int HF.out, hx2.drew⟩
end Go.Proofs.YtefmioppamdceaaDoor
