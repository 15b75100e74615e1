/- Inspect: Today; how worths and looks grow. -/
import Derived.Test.YtefmioppamdceaaDoorMYI
import Derived.Test.YtefmioppamdceaaDoorMKit
import Derived.Test.YtefmioppamdceaaDoorRows
import Derived.ProofKit
import Derived.Deep.Slices
import Derived.Deep.Fields
import Derived.Below
import Derived.Carry
import Derived.Test.YtefmioppamdceaaDoorMJD
import Derived.LaidMore
import Derived.OpenShut
import Derived.Stop.Joined
namespace Go.Proofs.YtefmioppamdceaaDoor
--@optional
open Go.RowKit Go.Shelf Go.Maps

def noRatio : Value := .agg #[.int .i64 0, .int .i64 0]
def todV (d l : Int) : Value := if DayOk d l then (if d = 0 then .tuple #[noRatio, noRatio, .int .i64 10] else .tuple #[ratV (lookR d.toNat l.toNat), ratV (goR d.toNat l.toNat), .int .i64 0]) else .tuple #[noRatio, noRatio, .int .i64 2]
/-- Four stores into two boxes. -/
theorem four_put {y : World} {W : Nat} (h1 : Spot y W) (h2 : Spot y (W + 1)) (a b c d : Value) :
    ((((y.setCell ⟨W, 0, none⟩ a).setCell ⟨W, 1, none⟩ b).setCell ⟨W + 1, 0, none⟩ c).setCell ⟨W + 1, 1, none⟩ d).cell? ⟨W, 0, none⟩ = some a ∧ ((((y.setCell ⟨W, 0, none⟩ a).setCell ⟨W, 1, none⟩ b).setCell ⟨W + 1, 0, none⟩ c).setCell ⟨W + 1, 1, none⟩ d).cell? ⟨W, 1, none⟩ = some b ∧
    ((((y.setCell ⟨W, 0, none⟩ a).setCell ⟨W, 1, none⟩ b).setCell ⟨W + 1, 0, none⟩ c).setCell ⟨W + 1, 1, none⟩ d).cell? ⟨W + 1, 0, none⟩ = some c ∧ ((((y.setCell ⟨W, 0, none⟩ a).setCell ⟨W, 1, none⟩ b).setCell ⟨W + 1, 0, none⟩ c).setCell ⟨W + 1, 1, none⟩ d).cell? ⟨W + 1, 1, none⟩ = some d := by
  obtain ⟨v0, v1⟩ := h1.put a b
  obtain ⟨v2, v3⟩ := ((h2.set W 0 a).set W 1 b).put c d
  exact ⟨(World.cell?_setCell_far _ ⟨W + 1, 1, none⟩ _ d (by simp)).trans ((World.cell?_setCell_far _ ⟨W + 1, 0, none⟩ _ c (by simp)).trans v0), (World.cell?_setCell_far _ ⟨W + 1, 1, none⟩ _ d (by simp)).trans ((World.cell?_setCell_far _ ⟨W + 1, 0, none⟩ _ c (by simp)).trans v1), v2, v3⟩
theorem bud_le {d : Nat} (h : d ≤ 14) : bud d ≤ 16383 := by
  have hmono : ∀ a b, a ≤ b → bud a ≤ bud b := by
    intro a b hab
    induction hab with
    | refl => exact Nat.le_refl _
    | step _ ih => simp only [bud]; omega
  have hb14 : bud 14 = 16383 := by decide
  have := hmono _ _ h
  omega
set_option maxRecDepth 100000 in
set_option maxHeartbeats 2000000 in
theorem todayO_calls (w : World) (d l : Int) (hG : Glob w) (hd : -9223372036854775808 ≤ d ∧ d ≤ 9223372036854775807) (hl : -9223372036854775808 ≤ l ∧ l ≤ 9223372036854775807) :
    Calls Tryd.prog 18 #[.int .i64 d, .int .i64 l] w fun e w' => e = .returned (todV d l) ∧ Ext w w' := by
  have hsc := fun W => seasoned_calls W d l hd hl
  by_cases h : DayOk d l
  · obtain ⟨h1, h2, h3, h4⟩ := id h
    have e : seaOf d l = .tuple #[.agg #[.int .i64 d, .int .i64 l], .int .i64 0] := if_pos h
    simp only [e] at hsc
    by_cases hd0 : d = 0
    · have e2 : todV d l = .tuple #[noRatio, noRatio, .int .i64 10] := by unfold todV; rw [if_pos h, if_pos hd0]
      subst hd0
      rw [e2]
      clear e e2
      go_enter Tryd.func18, Tryd.ntmps18
      go_wp2_with fail
      obtain ⟨w1, hw1⟩ : ∃ w1, w1 = ((w.alloc (Obj.cells #[.int .i64 0, .int .i64 0] 23)).alloc (Obj.cells #[.int .i64 0, .int .i64 0] 23)) := ⟨_, rfl⟩
      obtain ⟨W, hW⟩ : ∃ W, W = w.heap.size := ⟨_, rfl⟩
      have hx1 : Ext w w1 := by rw [hw1]; exact (by repeat (first | exact Ext.refl _ | assumption | refine Ext.alloc ?_ _ | refine Ext.drewN ?_ _ | refine Ext.drew ?_))
      have hsp1 : Spot w1 W := by rw [hw1, hW]; exact Spot.two _ _ _ _ _ _ _
      have hsp2 : Spot w1 (W + 1) := by rw [hw1, hW]; exact Spot.two2 _ _ _ _ _ _ _
      rw [← hw1, ← hW]
      have hWw : w.heap.size ≤ W := by omega
      clear hw1 hW
      (with_reducible refine Calls.mono (hsc w1) ?_)
      rintro e w2 ⟨rfl, hx2⟩
      have hsp1 := hsp1.ext hx2
      have hsp2 := hsp2.ext hx2
      have hx02 := hx1.trans hx2
      obtain ⟨s0, hs0⟩ := Option.isSome_iff_exists.1 hsp1.some0
      obtain ⟨s1, hs1⟩ := Option.isSome_iff_exists.1 hsp1.some1
      obtain ⟨t0, ht0⟩ := Option.isSome_iff_exists.1 hsp2.some0
      obtain ⟨t1, ht1⟩ := Option.isSome_iff_exists.1 hsp2.some1
      have f0 := hsp1.free0
      have f1 := hsp1.free1
      have g0 := hsp2.free0
      have g1 := hsp2.free1
      have hl1 := hsp1.lt
      have hl2 := hsp2.lt
      clear hsc hx1 hx2
      go_wp2_with fail
      obtain ⟨q0, q1, q2, q3⟩ := four_put hsp1 hsp2 (.int .i64 0) (.int .i64 0) (.int .i64 0) (.int .i64 0)
      have q0 := (((Ext.refl _).alloc (Obj.cells #[.int .i64 0, .int .i64 l] 58)).cell (p := ⟨W, 0, none⟩) (by simpa using hl1)).trans q0
      have q1 := (((Ext.refl _).alloc (Obj.cells #[.int .i64 0, .int .i64 l] 58)).cell (p := ⟨W, 1, none⟩) (by simpa using hl1)).trans q1
      have q2 := (((Ext.refl _).alloc (Obj.cells #[.int .i64 0, .int .i64 l] 58)).cell (p := ⟨W + 1, 0, none⟩) (by simpa using hl2)).trans q2
      have q3 := (((Ext.refl _).alloc (Obj.cells #[.int .i64 0, .int .i64 l] 58)).cell (p := ⟨W + 1, 1, none⟩) (by simpa using hl2)).trans q3
      refine bodyPost_ret (v := .tuple #[noRatio, noRatio, .int .i64 10]) (by simp [results, Tryd.results18, go_sem, noRatio, q0, q1, q2, q3]) rfl ?_
      exact ⟨rfl, ((((hx02.setOwn _ _ hWw).setOwn _ _ hWw).setOwn _ _ (show w.heap.size ≤ W + 1 by omega)).setOwn _ _ (show w.heap.size ≤ W + 1 by omega)).alloc _⟩
    · have e2 : todV d l = .tuple #[ratV (lookR d.toNat l.toNat), ratV (goR d.toNat l.toNat), .int .i64 0] := by unfold todV; rw [if_pos h, if_neg hd0]
      obtain ⟨ln, hln⟩ : ∃ x, x = (lookR d.toNat l.toNat).num := ⟨_, rfl⟩
      obtain ⟨ld, hld⟩ : ∃ x : Int, x = ((lookR d.toNat l.toNat).den : Int) := ⟨_, rfl⟩
      obtain ⟨gn, hgn⟩ : ∃ x, x = (goR d.toNat l.toNat).num := ⟨_, rfl⟩
      obtain ⟨gd, hgd⟩ : ∃ x : Int, x = ((goR d.toNat l.toNat).den : Int) := ⟨_, rfl⟩
      have e3 : ratV (lookR d.toNat l.toNat) = .agg #[.int .i64 ln, .int .i64 ld] := by rw [ratV, hln, hld]
      have e4 : ratV (goR d.toNat l.toNat) = .agg #[.int .i64 gn, .int .i64 gd] := by rw [ratV, hgn, hgd]
      have hb := bud_le (d := d.toNat) (by omega)
      have htc : ∀ W m, Glob W → 3 ≤ m → Memo W m 0 → Calls Tryd.prog 43 #[.map (some m), .agg #[.int .i64 d, .int .i64 l]] W (MemoRes W m (bud d.toNat - 1) (.tuple #[.agg #[.int .i64 ln, .int .i64 ld], .agg #[.int .i64 gn, .int .i64 gd]])) := by
        intro W m h1 h2 h3
        have h := today_calls d.toNat l.toNat m 0 W (by omega) (by omega) (by omega) (by omega) h1 h2 h3
        rw [seaV, e3, e4, show ((d.toNat : Nat) : Int) = d by omega, show ((l.toNat : Nat) : Int) = l by omega, Nat.zero_add] at h
        exact h
      rw [e2, e3, e4]
      clear e e2 e3 e4 hln hld hgn hgd hb
      have hd0b : (d == 0) = false := by simpa using hd0
      have HG := Lib.hid hG
      have hl3 := hG.lt
      clear hG
      have hmm := @run_makeMap Tryd.prog
      go_enter Tryd.func18, Tryd.ntmps18
      go_wp2_with fail
      obtain ⟨w1, hw1⟩ : ∃ w1, w1 = ((w.alloc (Obj.cells #[.int .i64 0, .int .i64 0] 23)).alloc (Obj.cells #[.int .i64 0, .int .i64 0] 23)) := ⟨_, rfl⟩
      obtain ⟨W, hW⟩ : ∃ W, W = w.heap.size := ⟨_, rfl⟩
      have hx1 : Ext w w1 := by rw [hw1]; exact (by repeat (first | exact Ext.refl _ | assumption | refine Ext.alloc ?_ _ | refine Ext.drewN ?_ _ | refine Ext.drew ?_))
      have hsp1 : Spot w1 W := by rw [hw1, hW]; exact Spot.two _ _ _ _ _ _ _
      have hsp2 : Spot w1 (W + 1) := by rw [hw1, hW]; exact Spot.two2 _ _ _ _ _ _ _
      rw [← hw1, ← hW]
      have hWw : w.heap.size ≤ W := by omega
      clear hw1 hW
      (with_reducible refine Calls.mono (hsc w1) ?_)
      rintro e w2 ⟨rfl, hx2⟩
      have hsp1 := hsp1.ext hx2
      have hsp2 := hsp2.ext hx2
      have hx02 := hx1.trans hx2
      clear hsc hx1 hx2
      go_wp2_with fail
      have hx23 : Ext w2 ((w2.alloc (Obj.cells #[.int .i64 d, .int .i64 l] 58)).alloc (.map #[] 0)) := (by repeat (first | exact Ext.refl _ | assumption | refine Ext.alloc ?_ _ | refine Ext.drewN ?_ _ | refine Ext.drew ?_))
      have hMn : Memo ((w2.alloc (Obj.cells #[.int .i64 d, .int .i64 l] 58)).alloc (.map #[] 0)) (w2.heap.size + 1) 0 := by
        have h := Memo.new (w2.alloc (Obj.cells #[.int .i64 d, .int .i64 l] 58))
        rwa [World.size_alloc] at h
      have hx3 := hx02.trans hx23
      refine (htc _ _ (HG.out.ext hx3) (by have := hx02.size; omega) hMn).mono ?_
      rintro e w4 ⟨rfl, hg4, -⟩
      have hsp1 := spot_far (hsp1.ext hx23) hg4 (by have := hsp1.lt; simp; omega)
      have hsp2 := spot_far (hsp2.ext hx23) hg4 (by have := hsp2.lt; simp; omega)
      have hx4 : Ext w w4 := hx3.onto hg4 (fun q hq => by simp only [Option.some.injEq] at hq; have := hx02.size; omega)
      obtain ⟨s0, hs0⟩ := Option.isSome_iff_exists.1 hsp1.some0
      obtain ⟨s1, hs1⟩ := Option.isSome_iff_exists.1 hsp1.some1
      obtain ⟨t0, ht0⟩ := Option.isSome_iff_exists.1 hsp2.some0
      obtain ⟨t1, ht1⟩ := Option.isSome_iff_exists.1 hsp2.some1
      have f0 := hsp1.free0
      have f1 := hsp1.free1
      have g0 := hsp2.free0
      have g1 := hsp2.free1
      have hl1 := hsp1.lt
      have hl2 := hsp2.lt
      clear htc hmm hx23 hMn hx3
      go_wp2_with fail
      go_region
      all_goals
        go_wp2_with fail
        obtain ⟨q0, q1, q2, q3⟩ := four_put hsp1 hsp2 (.int .i64 ln) (.int .i64 ld) (.int .i64 gn) (.int .i64 gd)
        have hxa : ∀ X : World, Ext X (((X.alloc (Obj.cells #[.int .i64 ln, .int .i64 ld] 23)).alloc (Obj.cells #[.int .i64 gn, .int .i64 gd] 23)).drew) := fun X => (by repeat (first | exact Ext.refl _ | assumption | refine Ext.alloc ?_ _ | refine Ext.drewN ?_ _ | refine Ext.drew ?_))
        have q0 := ((hxa _).cell (p := ⟨W, 0, none⟩) (by simpa using hl1)).trans q0
        have q1 := ((hxa _).cell (p := ⟨W, 1, none⟩) (by simpa using hl1)).trans q1
        have q2 := ((hxa _).cell (p := ⟨W + 1, 0, none⟩) (by simpa using hl2)).trans q2
        have q3 := ((hxa _).cell (p := ⟨W + 1, 1, none⟩) (by simpa using hl2)).trans q3
        refine bodyPost_ret (v := .tuple #[.agg #[.int .i64 ln, .int .i64 ld], .agg #[.int .i64 gn, .int .i64 gd], .int .i64 0]) (by simp [results, Tryd.results18, go_sem, q0, q1, q2, q3]) rfl ?_
        exact ⟨rfl, ((((hx4.setOwn _ _ hWw).setOwn _ _ hWw).setOwn _ _ (show w.heap.size ≤ W + 1 by omega)).setOwn _ _ (show w.heap.size ≤ W + 1 by omega)).trans (hxa _)⟩
  · have e : seaOf d l = .tuple #[.agg #[.int .i64 0, .int .i64 0], .int .i64 2] := if_neg h
    have e2 : todV d l = .tuple #[noRatio, noRatio, .int .i64 2] := by unfold todV; rw [if_neg h]
    rw [e2]
    simp only [e] at hsc
    clear e e2
    go_enter Tryd.func18, Tryd.ntmps18
    go_wp2_with fail
    obtain ⟨w1, hw1⟩ : ∃ w1, w1 = ((w.alloc (Obj.cells #[.int .i64 0, .int .i64 0] 23)).alloc (Obj.cells #[.int .i64 0, .int .i64 0] 23)) := ⟨_, rfl⟩
    obtain ⟨W, hW⟩ : ∃ W, W = w.heap.size := ⟨_, rfl⟩
    have hx1 : Ext w w1 := by rw [hw1]; exact (by repeat (first | exact Ext.refl _ | assumption | refine Ext.alloc ?_ _ | refine Ext.drewN ?_ _ | refine Ext.drew ?_))
    have hsp1 : Spot w1 W := by rw [hw1, hW]; exact Spot.two _ _ _ _ _ _ _
    have hsp2 : Spot w1 (W + 1) := by rw [hw1, hW]; exact Spot.two2 _ _ _ _ _ _ _
    rw [← hw1, ← hW]
    have hWw : w.heap.size ≤ W := by omega
    clear hw1 hW
    (with_reducible refine Calls.mono (hsc w1) ?_)
    rintro e w2 ⟨rfl, hx2⟩
    have hsp1 := hsp1.ext hx2
    have hsp2 := hsp2.ext hx2
    have hx02 := hx1.trans hx2
    obtain ⟨s0, hs0⟩ := Option.isSome_iff_exists.1 hsp1.some0
    obtain ⟨s1, hs1⟩ := Option.isSome_iff_exists.1 hsp1.some1
    obtain ⟨t0, ht0⟩ := Option.isSome_iff_exists.1 hsp2.some0
    obtain ⟨t1, ht1⟩ := Option.isSome_iff_exists.1 hsp2.some1
    have f0 := hsp1.free0
    have f1 := hsp1.free1
    have g0 := hsp2.free0
    have g1 := hsp2.free1
    have hl1 := hsp1.lt
    have hl2 := hsp2.lt
    clear hsc hx1 hx2
    go_wp2_with fail
    obtain ⟨q0, q1, q2, q3⟩ := four_put hsp1 hsp2 (.int .i64 0) (.int .i64 0) (.int .i64 0) (.int .i64 0)
    have q0 := (((Ext.refl _).alloc (Obj.cells #[.int .i64 0, .int .i64 0] 58)).cell (p := ⟨W, 0, none⟩) (by simpa using hl1)).trans q0
    have q1 := (((Ext.refl _).alloc (Obj.cells #[.int .i64 0, .int .i64 0] 58)).cell (p := ⟨W, 1, none⟩) (by simpa using hl1)).trans q1
    have q2 := (((Ext.refl _).alloc (Obj.cells #[.int .i64 0, .int .i64 0] 58)).cell (p := ⟨W + 1, 0, none⟩) (by simpa using hl2)).trans q2
    have q3 := (((Ext.refl _).alloc (Obj.cells #[.int .i64 0, .int .i64 0] 58)).cell (p := ⟨W + 1, 1, none⟩) (by simpa using hl2)).trans q3
    refine bodyPost_ret (v := .tuple #[noRatio, noRatio, .int .i64 2]) (by simp [results, Tryd.results18, go_sem, noRatio, q0, q1, q2, q3]) rfl ?_
    exact ⟨rfl, ((((hx02.setOwn _ _ hWw).setOwn _ _ hWw).setOwn _ _ (show w.heap.size ≤ W + 1 by omega)).setOwn _ _ (show w.heap.size ≤ W + 1 by omega)).alloc _⟩
/-- The worth from both worths of tomorrow. -/
theorem valR_step {d l : Nat} (h : l < d) : valR (d + 1) (l + 1) = (valR d l + valR d (l + 1)) / (2 + (valR d l - valR d (l + 1))) := by
  rw [valR, if_neg (by omega)]
  have h1 := valR_ge d l
  have h2 := valR_le d (l + 1)
  have h3 : 2 + (valR d l - valR d (l + 1)) ≠ 0 := by grind
  generalize valR d l = g at *
  generalize valR d (l + 1) = k at *
  have a1 : (1 - k) / (2 + (g - k)) * (2 + (g - k)) = 1 - k := Rat.div_mul_cancel h3
  have a2 : (g + k) / (2 + (g - k)) * (2 + (g - k)) = g + k := Rat.div_mul_cancel h3
  generalize (1 - k) / (2 + (g - k)) = x at *
  generalize (g + k) / (2 + (g - k)) = y at *
  have a3 : (1 - 2 * x - y) * (2 + (g - k)) = 0 := by grind
  rcases Rat.mul_eq_zero.1 a3 with h | h
  · grind
  · exact absurd h h3
/-- The step grows with both. -/
theorem step_mono {g h g' h' : Rat} (hg : g ≤ g') (hh : h ≤ h') (h1 : h' ≤ 1) (g0 : 0 ≤ g) : (g + h) / (2 + (g - h)) ≤ (g' + h') / (2 + (g' - h')) := by
  have d1 : 0 < 2 + (g - h) := by grind
  have d2 : 0 < 2 + (g' - h') := by grind
  have a1 : (g + h) / (2 + (g - h)) * (2 + (g - h)) = g + h := Rat.div_mul_cancel (by grind)
  have a2 : (g' + h') / (2 + (g' - h')) * (2 + (g' - h')) = g' + h' := Rat.div_mul_cancel (by grind)
  have key : (g + h) * (2 + (g' - h')) ≤ (g' + h') * (2 + (g - h)) := by
    have b1 : 0 ≤ (g' - g) * (1 - h) := Rat.mul_nonneg (by grind) (by grind)
    have b2 : 0 ≤ (h' - h) * (1 + g) := Rat.mul_nonneg (by grind) (by grind)
    have b3 : (g' + h') * (2 + (g - h)) - (g + h) * (2 + (g' - h')) = 2 * ((g' - g) * (1 - h)) + 2 * ((h' - h) * (1 + g)) := by grind
    grind
  generalize (g + h) / (2 + (g - h)) = x at *
  generalize (g' + h') / (2 + (g' - h')) = y at *
  rw [← Rat.not_lt]
  intro hlt
  have c1 := Rat.mul_lt_mul_of_pos_right hlt (Rat.mul_pos d1 d2)
  have c2 : x * ((2 + (g - h)) * (2 + (g' - h'))) = (g + h) * (2 + (g' - h')) := by rw [← Rat.mul_assoc, a1]
  have c3 : y * ((2 + (g - h)) * (2 + (g' - h'))) = (g' + h') * (2 + (g - h)) := by rw [Rat.mul_comm (2 + (g - h)), ← Rat.mul_assoc, a2]
  grind
theorem valR_looks : ∀ d l, valR d (l + 1) ≤ valR d l
  | 0, l => by rw [valR, valR]; exact Rat.le_refl
  | d + 1, 0 => by
    have h := valR_le (d + 1) 1
    have e : valR (d + 1) 0 = 1 := by rw [valR]
    rw [e]; exact h
  | d + 1, l + 1 => by
    by_cases h : l + 1 < d
    · rw [valR_step h, valR_step (show l < d by omega)]
      exact step_mono (valR_looks d l) (valR_looks d (l + 1)) (valR_le _ _) (valR_ge _ _)
    · rw [valR_none (d := d + 1) (l := l + 1 + 1) (.inr (by omega))]
      exact valR_ge _ _
theorem valR_days : ∀ d l, valR d l ≤ valR (d + 1) l
  | d, 0 => by
    have e : valR (d + 1) 0 = 1 := by rw [valR]
    rw [e]; exact valR_le _ _
  | d, l + 1 => by
    by_cases h : l < d
    · rw [valR_step h]
      have h1 := valR_looks d l
      have h2 := valR_le d (l + 1)
      have h3 := valR_ge d l
      have d1 : 0 < 2 + (valR d l - valR d (l + 1)) := by grind
      generalize valR d l = g at *
      generalize valR d (l + 1) = k at *
      have key : 0 ≤ (g - k) * (1 - k) := Rat.mul_nonneg (by grind) (by grind)
      have a2 : (g + k) / (2 + (g - k)) * (2 + (g - k)) = g + k := Rat.div_mul_cancel (by grind)
      generalize (g + k) / (2 + (g - k)) = y at *
      rw [← Rat.not_lt]
      intro hlt
      have c1 := Rat.mul_lt_mul_of_pos_right hlt d1
      grind
    · rw [valR_none (d := d) (l := l + 1) (.inr (by omega))]
      exact valR_ge _ _
theorem lookR_looks (d l : Nat) : lookR d l ≤ lookR d (l + 1) := by
  have half : ∀ k, k < d → lookR d k = (1 - valR d k) / 2 := by
    intro k hk
    by_cases h0 : k = 0
    · subst h0
      obtain ⟨e, rfl⟩ : ∃ e, d = e + 1 := ⟨d - 1, by omega⟩
      rw [lookR, if_neg (by omega), if_pos rfl, valR]
      decide +kernel
    · have h := valR_look (d := d) (l := k) (by omega) hk
      rw [h]
      grind
  by_cases h : l + 1 < d
  · rw [half l (by omega), half (l + 1) h]
    have := valR_looks d l
    grind
  · have e : lookR d (l + 1) = 1 := by rw [lookR, if_pos (by omega)]
    rw [e]
    by_cases h2 : l < d
    · rw [half l h2]
      have := valR_ge d l
      grind
    · rw [lookR, if_pos (by omega)]; exact Rat.le_refl
end Go.Proofs.YtefmioppamdceaaDoor

/- Arguments of a law laid open (integers, lists of integers, Parts), and the frame of a law: arguments that are read again, the result true. -/
--@optional
namespace Go.Proofs.YtefmioppamdceaaDoor
open Go.ChangeShapes Go.WideShapes Go.ChangeAt Go.RowKit Go.Deep

theorem own_any : ownKnob Tryd.prog.godebug = none := by kernel_rfl
theorem laidOut_any : laidOutB Tryd.prog = true := by kernel_rfl

theorem cell_plain {w : World} {a : Addr} {v : Value} (h : w.cell? a = some v) : ∃ b off, a = ⟨b, off, none⟩ ∧ b < w.heap.size := by
  obtain ⟨b, off, sp⟩ := a
  unfold World.cell? at h
  split at h
  · rename_i c _ _ hh
    cases sp with
    | none => exact ⟨b, off, rfl, (Array.getElem?_eq_some_iff.1 hh).1⟩
    | some x => simp at h
  · simp at h
/-- What a law of this package answers: true, and nothing that was there has changed. -/
def TrueRes (w : World) (e : Ending) (w' : World) : Prop := e = .returned (.bool true) ∧ Ext w w'
section
variable {H : Type} {enc : TypeId × Value → H}
theorem trodAll_below {W W' : World} (hb : Below W.heap.size W W') : ∀ (ts : List TypeId) (vs : List Value) (ds : List (DataW H)) (ps : List MemPlace), (∀ t ∈ ts, Tryd.prog.readableRec t = true ∧ t < Tryd.prog.types.size) → (∀ x ∈ ps, x.block < W.heap.size) →
    DataW.TrodAll enc Tryd.prog W 0 (fun _ => true) true ts vs ds ps → DataW.TrodAll enc Tryd.prog W' 0 (fun b => decide (b < W.heap.size)) true ts vs ds ps := by
  intro ts
  induction ts with
  | nil =>
    intro vs ds ps _ _ h
    cases vs with
    | nil => cases ds with
      | nil => exact h
      | cons d ds => exact (h : False).elim
    | cons v vs => cases ds with
      | nil => exact (h : False).elim
      | cons d ds => exact (h : False).elim
  | cons t ts ih =>
    intro vs ds ps hr hlt h
    cases vs with
    | nil => cases ds with
      | nil => exact (h : False).elim
      | cons d ds => exact (h : False).elim
    | cons v vs => cases ds with
      | nil => exact (h : False).elim
      | cons d ds =>
        obtain ⟨p, q, h1, h2, rfl⟩ := h
        have ht := hr t (by simp)
        exact ⟨p, q, Below.trod laidOut_any ht.1 ht.2 h1 hb (fun x hx => hlt x (by simp [hx])), ih vs ds q (fun t ht => hr t (by simp [ht])) (fun x hx => hlt x (by simp [hx])) h2, rfl⟩
theorem post_true {f : Func} {s : ChangeSpec} {W W' : World} {args : Array Value} {ds gs : List (DataW H)} {before : List MemPlace} (hW : DataW.Whole enc Tryd.prog f.params.toList s.vars false W args.toList ds gs before) (hv : s.vars = []) (hres : f.resultTypes = #[4])
    (hfn : s.fn H (ds ++ []) = { results := [.lit (.bool true)], args := ds }) (hr : ∀ t ∈ f.params.toList, Tryd.prog.readableRec t = true ∧ t < Tryd.prog.types.size) (hb : Below W.heap.size W W') :
    s.post enc Tryd.prog f false true false false W args (.bool true) W' := by
  have hW' := hW
  obtain ⟨p, q, hA, hV, rfl, hfz, hnd⟩ := hW
  rw [hv] at hV
  obtain ⟨rfl, rfl⟩ := trodVars_none hV
  refine ⟨ds, [], p ++ [], [], p ++ [], [], hW', ?_, ?_, ?_, World.keptBut_mono (fun x hx => ⟨hx, .inr (.inl hx)⟩) (hb.frame _), fun h => by cases h⟩
  · rw [hfn, hres]
    exact trodAll_mk1 (shut_bool Tryd.underlying4 true)
  · rw [hfn]
    have hlt : ∀ x ∈ p ++ [], x.block < W.heap.size := fun x hx => by simpa using hW'.lt x hx
    have := trodAll_below hb _ _ _ _ hr (fun x hx => hlt x (by simpa using hx)) hA
    simpa using this
  · rw [hfn, hv]
    exact rfl
end
end Go.Proofs.YtefmioppamdceaaDoor

/- Inspect: what the condition on the listed variables gives: the three package fractions. -/
namespace Go.Proofs.YtefmioppamdceaaDoor
open Go.ChangeShapes Go.WideShapes Go.ChangeAt Go.RowKit Go.Deep

def laidI3 {H : Type} : List (String × DataW H) := [("cocket/inspect.none", Rows.laid_cocket_inspect_none), ("cocket/inspect.one", Rows.laid_cocket_inspect_one), ("cocket/inspect.two", Rows.laid_cocket_inspect_two)]
theorem gNone : Tryd.prog.globalNamed "cocket/inspect.none" = some 0 := by kernel_rfl
theorem gOne : Tryd.prog.globalNamed "cocket/inspect.one" = some 1 := by kernel_rfl
theorem gTwo : Tryd.prog.globalNamed "cocket/inspect.two" = some 2 := by kernel_rfl
theorem tNone : (Tryd.prog.globals[0]?).map (·.type) = some 23 := by kernel_rfl
theorem tOne : (Tryd.prog.globals[1]?).map (·.type) = some 23 := by kernel_rfl
theorem tTwo : (Tryd.prog.globals[2]?).map (·.type) = some 23 := by kernel_rfl
theorem u8_of {x : Int} (h : (Lit.int .u8 x).wf = true) : 0 ≤ x ∧ x ≤ 255 := by
  simp only [Lit.wf, Bool.and_eq_true, decide_eq_true_eq] at h
  have h1 : IntKind.u8.min = 0 := by decide
  have h2 : IntKind.u8.max = 255 := by decide
  omega
/-- The door's own heap meets the condition. -/
theorem door_met (os : Os) (args : Array Value) : laidMetH Tryd.prog laidI3 ((World.doorLaid Tryd.prog 400 os).forCall (fun _ _ => 0) ⟨#[], args, []⟩).memory :=
  laidMetH_of_parts3 (fuel := 8) (laidMet_of_run' 8 (by kernel_rfl) (by kernel_rfl)) (by kernel_rfl) (by kernel_rfl)
theorem two_cells2 {H : Type} {enc : TypeId × Value → H} {w : World} {base : Nat} {spare : Nat → Bool} {held : Bool} {P : Program} {t : TypeId} {fuel : Nat} {cs : List Value} {x : DataW H × List MemPlace} {f0 f1 : Field} (hs : P.underlying t = some (.struct #[f0, f1])) (hone : oneCellFields P #[f0, f1] = true) (hC : P.cellsOf t = 2)
    (h : DataW.trod enc P w base spare held fuel t cs = some x) :
    ∃ c0 c1 y0 y1 n, cs = [c0, c1] ∧ DataW.trod enc P w base spare held n f0.type [c0] = some y0 ∧ DataW.trod enc P w base spare held n f1.type [c1] = some y1 ∧ x.1 = .agg [y0.1, y1.1] := by
  obtain ⟨xs, n, _, hx, hcl, hlen, hg⟩ := DataW.trod_struct hs h
  have h5 : cs.length = 2 := hcl.trans hC
  match cs, h5 with
  | [c0, c1], _ =>
    have hxl : xs.length = 2 := hlen
    match xs, hxl with
    | [y0, y1], _ =>
      obtain ⟨o0, k0⟩ := hone_of hone 0 f0 rfl
      obtain ⟨o1, k1⟩ := hone_of hone 1 f1 rfl
      exact ⟨c0, c1, y0, y1, n, rfl, by simpa [o0, k0] using hg 0 f0 rfl, by simpa [o1, k1] using hg 1 f1 rfl, by rw [hx]; rfl⟩
theorem ratio_cells {H : Type} {enc : TypeId × Value → H} {W : World} {n : Nat} {cs : List Value} {x y : Int} {ps : List MemPlace} {held : Bool} {sp : Nat → Bool} {base : Nat}
    (h : DataW.trod enc Tryd.prog W base sp held n 23 cs = some (.agg [.lit (.int .i64 x), .lit (.int .i64 y)], ps)) : cs = [.int .i64 x, .int .i64 y] := by
  obtain ⟨c0, c1, y0, y1, n, hc, g0, g1, hx⟩ := two_cells2 Tryd.underlying23 (by kernel_rfl) (by kernel_rfl) h
  obtain ⟨k0, a0, b0, -⟩ := DataW.trod_int Tryd.underlying3 g0
  obtain ⟨k1, a1, b1, -⟩ := DataW.trod_int Tryd.underlying3 g1
  rw [b0, b1] at hx
  simp only [DataW.agg.injEq, List.cons.injEq, DataW.lit.injEq, Lit.int.injEq, true_and, and_true] at hx
  simp only [List.cons.injEq, and_true] at a0 a1
  rw [hc, a0, a1, hx.1, hx.2]
theorem glob_of_laid {W : World} (h : laidMetH Tryd.prog laidI3 W) : Glob W := by
  rw [MakeChecks.laidMetH_plain _ _ _ (by kernel_rfl)] at h
  obtain ⟨ps, ⟨g0, t0, cs0, f0, p0, q0, hg0, ht0, hv0, hd0, ⟨g1, t1, cs1, f1, p1, q1, hg1, ht1, hv1, hd1, ⟨g2, t2, cs2, f2, p2, q2, hg2, ht2, hv2, hd2, _, _⟩, _⟩, _⟩, _, _⟩ := h
  obtain rfl := Option.some.inj (gNone.symm.trans hg0)
  obtain rfl := Option.some.inj (gOne.symm.trans hg1)
  obtain rfl := Option.some.inj (gTwo.symm.trans hg2)
  obtain rfl := Option.some.inj (tNone.symm.trans ht0)
  obtain rfl := Option.some.inj (tOne.symm.trans ht1)
  obtain rfl := Option.some.inj (tTwo.symm.trans ht2)
  have e0 := ratio_cells hd0
  have e1 := ratio_cells hd1
  have e2 := ratio_cells hd2
  have k0 := fun k => World.var?_cell hg0 hv0 k
  have k1 := fun k => World.var?_cell hg1 hv1 k
  have k2 := fun k => World.var?_cell hg2 hv2 k
  have a : ∀ {W : World} {g k : Nat} {cs : Array Value} {x y : Int} (_ : ∀ k, W.cell? ⟨g, k, none⟩ = cs[k]?) (_ : cs.toList = [.int .i64 x, .int .i64 y]), W.cell? ⟨g, 0, none⟩ = some (.int .i64 x) ∧ W.cell? ⟨g, 1, none⟩ = some (.int .i64 y) := by
    intro W g k cs x y h1 h2
    obtain ⟨l⟩ := cs
    simp only at h2
    subst h2
    exact ⟨h1 0, h1 1⟩
  obtain ⟨u0, u1⟩ := a (k := 0) k0 e0
  obtain ⟨v0, v1⟩ := a (k := 0) k1 e1
  obtain ⟨x0, x1⟩ := a (k := 0) k2 e2
  obtain ⟨b, off, hb, hlt⟩ := cell_plain x0
  simp only [Addr.mk.injEq] at hb
  exact ⟨u0, u1, v0, v1, x0, x1, by omega⟩
end Go.Proofs.YtefmioppamdceaaDoor

/- The walk of InspectDresher: the worth is the quotient of binomials. -/
namespace Go.Proofs.YtefmioppamdceaaDoor
--@optional
open Go.RowKit Go.Shelf
theorem dresV_ok {d l : Nat} (hd : d ≤ 14) (hl : l ≤ 14) : dresV d l = .tuple #[.agg #[.int .i64 (valR d l).num, .int .i64 (valR d l).den], .int .i64 0] := by
  unfold dresV
  rw [if_pos (by unfold DayOk; omega), show ((d : Int)).toNat = d by omega, show ((l : Int)).toNat = l by omega]
  rfl
theorem RBd.fine {q : Rat} (h : RBd q 9223372036854775807) : Fine q := by
  have h1 := h.num
  have h2 := h.den
  have h3 := many_i64 (n := q.den) (by have := q.den_pos; omega)
  rw [Int.natAbs_natCast] at h3
  refine ⟨?_, by omega⟩
  have h4 := many_i64 (n := -(q.num.natAbs : Int)) (by omega)
  rw [Int.natAbs_neg, Int.natAbs_natCast] at h4
  omega
theorem RBd.mono {q : Rat} {A B : Int} (h : RBd q A) (hAB : A ≤ B) : RBd q B := ⟨by have := h.num; omega, by have := h.den; omega⟩
end Go.Proofs.YtefmioppamdceaaDoor
