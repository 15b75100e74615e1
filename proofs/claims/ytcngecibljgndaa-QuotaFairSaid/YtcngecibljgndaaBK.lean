/- part: a number of Parts as a fraction. -/
import Derived.Test.YtcngecibljgndaaBJ
import Derived.Test.YtcngecibljgndaaQRB
namespace Go.Proofs.Ytcngecibljgndaa
open Go.RowKit Go.Shelf

theorem fine_divInt {n d : Int} (hd : d ≠ 0) (hn : many n.natAbs ≤ 400) (hm : many d.natAbs ≤ 400) : Fine (Rat.divInt n d) := by
  have key : ∀ {x y c : Nat}, x ≤ y → many y ≤ c → many x ≤ c := fun hxy hy => many_le (Nat.lt_of_le_of_lt hxy (Nat.lt_of_lt_of_le (lt_many _) (Nat.pow_le_pow_right (by omega) hy)))
  refine ⟨key ?_ hn, key ?_ hm⟩
  · rw [Rat.num_divInt]
    refine Nat.le_trans (Int.natAbs_ediv_le_natAbs _ _) ?_
    rw [Int.natAbs_mul, Int.natAbs_sign]
    simp [hd]
  · rw [Rat.den_divInt, if_neg hd]
    exact Nat.div_le_self _ _
theorem fine_small {n d : Int} (hd : d ≠ 0) (hn : n.natAbs ≤ 1000000000000000000) (hm : d.natAbs ≤ 1000000000000000000) : Fine (Rat.divInt n d) := fine_divInt hd (Nat.le_trans (many_le (i := 5) (by omega)) (by omega)) (Nat.le_trans (many_le (i := 5) (by omega)) (by omega))
theorem p3 {w w' : World} {B lb lo : Nat} {u v x : Value} (h0 : w.cell? ⟨B, 0, none⟩ = some u) (h1 : w.cell? ⟨B, 1, none⟩ = some v) (h2 : w.cell? ⟨lb, lo, none⟩ = some x) (l0 : B < w.heap.size) (l1 : lb < w.heap.size) (hx : Ext w w') : (w'.cell? ⟨B, 0, none⟩ = some u) ∧ (w'.cell? ⟨B, 1, none⟩ = some v) ∧ (w'.cell? ⟨lb, lo, none⟩ = some x) :=
  ⟨(hx.cell (p := ⟨B, 0, none⟩) l0).trans h0, (hx.cell (p := ⟨B, 1, none⟩) l0).trans h1, (hx.cell (p := ⟨lb, lo, none⟩) l1).trans h2⟩
theorem p3far {w : World} {B lb lo R : Nat} {u v x p q r s : Value} (h : (w.cell? ⟨B, 0, none⟩ = some u) ∧ (w.cell? ⟨B, 1, none⟩ = some v) ∧ (w.cell? ⟨lb, lo, none⟩ = some x)) (hB : B ≠ R) (hl : lb ≠ R) :
    (((((w.setCell ⟨R, 0, none⟩ p).setCell ⟨R, 1, none⟩ q).setCell ⟨R, 2, none⟩ r).setCell ⟨R, 3, none⟩ s).cell? ⟨B, 0, none⟩ = some u) ∧ (((((w.setCell ⟨R, 0, none⟩ p).setCell ⟨R, 1, none⟩ q).setCell ⟨R, 2, none⟩ r).setCell ⟨R, 3, none⟩ s).cell? ⟨B, 1, none⟩ = some v) ∧ (((((w.setCell ⟨R, 0, none⟩ p).setCell ⟨R, 1, none⟩ q).setCell ⟨R, 2, none⟩ r).setCell ⟨R, 3, none⟩ s).cell? ⟨lb, lo, none⟩ = some x) := by
  rw [far4 _ _ _ _ _ _ _ _ hB, far4 _ _ _ _ _ _ _ _ hB, far4 _ _ _ _ _ _ _ _ hl]
  exact h
set_option maxRecDepth 100000 in
set_option maxHeartbeats 2000000 in
theorem part_calls (w : World) (lo : Option Addr) (lcap : Nat) (l : List Int) (d : Int) (i N : Nat) (hI : IntsIn w lo l) (hN : l.length = N) (hi : i < N) (hl : -1000000000000000000 ≤ ith l i ∧ ith l i ≤ 1000000000000000000) (hd : 0 < d ∧ d ≤ 1000000000000000000) :
    Calls Try.prog 29 #[.agg #[.slice lo N lcap, .int .i64 d], .int .i64 i] w (QR w (Rat.divInt (ith l i) d)) := by
  obtain ⟨b, off, rfl, hb, hc⟩ := hI i (by omega)
  have k1 : (0 : Int) ≤ (i : Int) := by omega
  have k2 : (i : Int) < (N : Int) := by omega
  clear hI hN
  go_enter Try.func29, Try.ntmps29
  go_wp2_with fail
  have hx1 : Ext w ((w.alloc (.cells #[.slice (some ⟨b, off, none⟩) N lcap, .int .i64 d] 26)).alloc (.cells #[.bool false, .slice none 0 0, .bool false, .slice none 0 0] 41)) := (by repeat (first | exact Ext.refl _ | assumption | refine Ext.alloc ?_ _ | refine Ext.drewN ?_ _ | refine Ext.drew ?_))
  have hb1 : PBox ((w.alloc (.cells #[.slice (some ⟨b, off, none⟩) N lcap, .int .i64 d] 26)).alloc (.cells #[.bool false, .slice none 0 0, .bool false, .slice none 0 0] 41)) w.heap.size (.slice (some ⟨b, off, none⟩) N lcap) d := ⟨by simp [go_sem], by simp [go_sem], by first | (simp; done) | (simp; omega)⟩
  have hs1 : Spot4 ((w.alloc (.cells #[.slice (some ⟨b, off, none⟩) N lcap, .int .i64 d] 26)).alloc (.cells #[.bool false, .slice none 0 0, .bool false, .slice none 0 0] 41)) (w.heap.size + 1) := ⟨by simp, by simp [go_sem], by simp [go_sem], by simp [go_sem], by simp [go_sem], by simp [go_sem], by simp [go_sem], by simp [go_sem], by simp [go_sem]⟩
  generalize ((w.alloc (.cells #[.slice (some ⟨b, off, none⟩) N lcap, .int .i64 d] 26)).alloc (.cells #[.bool false, .slice none 0 0, .bool false, .slice none 0 0] 41)) = w1 at *
  obtain ⟨R, hR⟩ : ∃ R, R = w.heap.size := ⟨_, rfl⟩
  rw [← hR] at hb1 hs1 hb ⊢
  have hRw : w.heap.size ≤ R := by omega
  have hc1 := (hx1.cell (p := ⟨b, off + i, none⟩) (by rw [← hR]; exact hb)).trans hc
  have hbl : b < w1.heap.size := by have := hx1.size; omega
  clear hR hc
  obtain ⟨q0, q1, q2⟩ := id hb1
  have hlt := hs1.lt
  go_region_held3 (fun w' => (w'.cell? ⟨R, 0, none⟩ = some (.slice (some ⟨b, off, none⟩) N lcap)) ∧ (w'.cell? ⟨R, 1, none⟩ = some (.int .i64 d)) ∧ (w'.cell? ⟨b, off + i, none⟩ = some (.int .i64 (ith l i))))
    (first | with_reducible exact p3 q0 q1 hc1 q2 hbl hxk5 | with_reducible exact p3 q0 q1 hc1 q2 hbl ((Ext.refl _).drew) | with_reducible exact p3far (p3 q0 q1 hc1 q2 hbl hxk5) (by omega) (by omega))
    ((first
      | (go_at_call 31; refine (frac_calls _ (ith l i) d (by omega) (by omega) (by omega)).mono ?_; rintro e v5 ⟨nr, oo, OA, oc, mr, po, PA, pc, rfl, hN, hbk, hbm, hx15⟩; have hxk5 : Ext w1 v5 := Ext.trans ((Ext.refl _).drew) hx15; obtain ⟨g0, hg0⟩ := Option.isSome_iff_exists.1 (hs1.ext hxk5).some0; obtain ⟨g1, hg1⟩ := Option.isSome_iff_exists.1 (hs1.ext hxk5).some1; obtain ⟨g2, hg2⟩ := Option.isSome_iff_exists.1 (hs1.ext hxk5).some2; obtain ⟨g3, hg3⟩ := Option.isSome_iff_exists.1 (hs1.ext hxk5).some3; have hh0 := (hs1.ext hxk5).free0; have hh1 := (hs1.ext hxk5).free1; have hh2 := (hs1.ext hxk5).free2; have hh3 := (hs1.ext hxk5).free3)))
  go_wp2_with fail
  obtain ⟨r0, r1, r2, r3⟩ := (hs1.ext hxk5).put (.bool nr) (.slice oo OA oc) (.bool mr) (.slice po PA pc)
  refine bodyPost_ret (v := .agg #[.bool nr, .slice oo OA oc, .bool mr, .slice po PA pc]) (by simp [results, Try.results29, go_sem, r0, r1, r2, r3]) rfl ?_
  exact q_done (hx1.trans hxk5) (by omega) hs1.lt hx1.size hN hbk hbm
end Go.Proofs.Ytcngecibljgndaa
