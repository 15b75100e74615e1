/- The specification's fractions: Frac, Mul, Div, Add, Sub, Cmp. -/
import Derived.Test.YtefmioppamdceaaDoorMYH
import Derived.Test.YtefmioppamdceaaDoorMKE
namespace Go.Proofs.YtefmioppamdceaaDoor
--@optional
open Go.RowKit Go.Shelf

/-- Fractions that are not too long. -/
structure Fine (q : Rat) : Prop where
  num : many q.num.natAbs ≤ 400
  den : many q.den ≤ 400
theorem QNum.fine {w : World} {q : Rat} {nb mb : Bool} {zo yo : Option Addr} {A B : Nat} (h : QNum w q nb zo A mb yo B) (hq : Fine q) : A ≤ 400 ∧ B ≤ 400 := by
  have h1 := h.num.digs.many
  have h2 := h.den.digs.many
  rw [Int.natAbs_natCast] at h2
  exact ⟨by rw [← h1]; exact hq.num, by rw [← h2]; exact hq.den⟩
structure QBox (w : World) (B : Nat) (u v x y : Value) : Prop where
  c0 : w.cell? ⟨B, 0, none⟩ = some u
  c1 : w.cell? ⟨B, 1, none⟩ = some v
  c2 : w.cell? ⟨B, 2, none⟩ = some x
  c3 : w.cell? ⟨B, 3, none⟩ = some y
  lt : B < w.heap.size
theorem QBox.ext {w w' : World} {B : Nat} {u v x y : Value} (h : QBox w B u v x y) (hx : Ext w w') : QBox w' B u v x y :=
  ⟨(hx.cell (p := ⟨B, 0, none⟩) h.lt).trans h.c0, (hx.cell (p := ⟨B, 1, none⟩) h.lt).trans h.c1, (hx.cell (p := ⟨B, 2, none⟩) h.lt).trans h.c2, (hx.cell (p := ⟨B, 3, none⟩) h.lt).trans h.c3, Nat.lt_of_lt_of_le h.lt hx.size⟩
theorem q8 {w w' : World} {B C : Nat} {u v x y u' v' x' y' : Value} (h : QBox w B u v x y) (k : QBox w C u' v' x' y') (hx : Ext w w') :
    (w'.cell? ⟨B, 0, none⟩ = some u) ∧ (w'.cell? ⟨B, 1, none⟩ = some v) ∧ (w'.cell? ⟨B, 2, none⟩ = some x) ∧ (w'.cell? ⟨B, 3, none⟩ = some y) ∧ (w'.cell? ⟨C, 0, none⟩ = some u') ∧ (w'.cell? ⟨C, 1, none⟩ = some v') ∧ (w'.cell? ⟨C, 2, none⟩ = some x') ∧ (w'.cell? ⟨C, 3, none⟩ = some y') :=
  ⟨(h.ext hx).c0, (h.ext hx).c1, (h.ext hx).c2, (h.ext hx).c3, (k.ext hx).c0, (k.ext hx).c1, (k.ext hx).c2, (k.ext hx).c3⟩
theorem q_done {w w3 w4 : World} {q : Rat} {nb mb : Bool} {zo yo : Option Addr} {A zc B yc R : Nat} {u v x y : Value} (hx : Ext w w4) (hR : w.heap.size ≤ R) (hR3 : R < w3.heap.size) (hw3 : w.heap.size ≤ w3.heap.size) (h : QNum w4 q nb zo A mb yo B) (hb : ∀ a, zo = some a → w3.heap.size ≤ a.block) (hb2 : ∀ a, yo = some a → w3.heap.size ≤ a.block) :
    QR w q (.returned (.agg #[.bool nb, .slice zo A zc, .bool mb, .slice yo B yc])) ((((w4.setCell ⟨R, 0, none⟩ u).setCell ⟨R, 1, none⟩ v).setCell ⟨R, 2, none⟩ x).setCell ⟨R, 3, none⟩ y) :=
  ⟨nb, zo, A, zc, mb, yo, B, yc, rfl, ⟨h.num.grown (grown_put4 _ _ _ _ _ _) (fun a ha e => by simp only [Option.some.injEq] at e; have := hb a ha; omega), h.den.grown (grown_put4 _ _ _ _ _ _) (fun a ha e => by simp only [Option.some.injEq] at e; have := hb2 a ha; omega)⟩,
    fun a ha => Nat.le_trans hw3 (hb a ha), fun a ha => Nat.le_trans hw3 (hb2 a ha), hx.onto (grown_put4 _ _ _ _ _ _) (fun q hq => by simp only [Option.some.injEq] at hq; omega)⟩
theorem mul_many {m n A B : Nat} (h : many m ≤ A) (k : many n ≤ B) : many (m * n) ≤ A + B := by
  refine many_le ?_
  rw [Nat.pow_add]
  exact Nat.mul_lt_mul'' (Nat.lt_of_lt_of_le (lt_many m) (Nat.pow_le_pow_right (by omega) h)) (Nat.lt_of_lt_of_le (lt_many n) (Nat.pow_le_pow_right (by omega) k))
theorem mul_size {z y : Int} {RA : Nat} (hr : many (z * y).natAbs = RA) (h : many z.natAbs ≤ 400) (k : many y.natAbs ≤ 400) : RA ≤ 800 := by
  rw [← hr, Int.natAbs_mul]; exact mul_many h k
end Go.Proofs.YtefmioppamdceaaDoor

/- The specification's fractions: Div, Add, Sub, Cmp, Frac. -/
namespace Go.Proofs.YtefmioppamdceaaDoor
--@optional
open Go.RowKit Go.Shelf
theorem Fine.den' {q : Rat} (h : Fine q) : many ((q.den : Int)).natAbs ≤ 400 := by rw [Int.natAbs_natCast]; exact h.den
/-- Comparison of fractions. -/
def cmpQ (a b : Rat) : Int := if a < b then -1 else if b < a then 1 else 0
theorem cmpQ_eq (a b : Rat) : cmpZ (a.num * (b.den : Int)) (b.num * (a.den : Int)) = cmpQ a b := by
  unfold cmpZ cmpQ
  simp only [Rat.lt_iff]
set_option maxRecDepth 100000 in
set_option maxHeartbeats 2000000 in
theorem cmp_calls (w : World) (nb mb kb lb : Bool) (zo yo xo vo : Option Addr) (A zc B yc C xc D vc : Nat) (a b : Rat) (hP : QNum w a nb zo A mb yo B) (hQ : QNum w b kb xo C lb vo D) (hF : Fine a) (hG : Fine b) :
    Calls Tryd.prog 13 #[.agg #[.bool nb, .slice zo A zc, .bool mb, .slice yo B yc], .agg #[.bool kb, .slice xo C xc, .bool lb, .slice vo D vc]] w fun e w' => e = .returned (.int .i64 (cmpQ a b)) ∧ Ext w w' := by
  obtain ⟨hA, hB⟩ := hP.fine hF
  obtain ⟨hC, hD⟩ := hQ.fine hG
  go_enter Tryd.func13, Tryd.ntmps13
  go_wp2_with fail
  have hx1 : Ext w ((w.alloc (.cells #[.bool nb, .slice zo A zc, .bool mb, .slice yo B yc] 34)).alloc (.cells #[.bool kb, .slice xo C xc, .bool lb, .slice vo D vc] 34)) := (by repeat (first | exact Ext.refl _ | assumption | refine Ext.alloc ?_ _ | refine Ext.drewN ?_ _ | refine Ext.drew ?_))
  have hb1 : QBox ((w.alloc (.cells #[.bool nb, .slice zo A zc, .bool mb, .slice yo B yc] 34)).alloc (.cells #[.bool kb, .slice xo C xc, .bool lb, .slice vo D vc] 34)) w.heap.size (.bool nb) (.slice zo A zc) (.bool mb) (.slice yo B yc) := ⟨by simp [go_sem], by simp [go_sem], by simp [go_sem], by simp [go_sem], by first | (simp; done) | (simp; omega)⟩
  have hb2 : QBox ((w.alloc (.cells #[.bool nb, .slice zo A zc, .bool mb, .slice yo B yc] 34)).alloc (.cells #[.bool kb, .slice xo C xc, .bool lb, .slice vo D vc] 34)) (w.heap.size + 1) (.bool kb) (.slice xo C xc) (.bool lb) (.slice vo D vc) := ⟨by simp [go_sem], by simp [go_sem], by simp [go_sem], by simp [go_sem], by first | (simp; done) | (simp; omega)⟩
  generalize ((w.alloc (.cells #[.bool nb, .slice zo A zc, .bool mb, .slice yo B yc] 34)).alloc (.cells #[.bool kb, .slice xo C xc, .bool lb, .slice vo D vc] 34)) = w1 at *
  obtain ⟨R, hR⟩ : ∃ R, R = w.heap.size := ⟨_, rfl⟩
  rw [← hR] at hb1 hb2 ⊢
  clear hR
  have hP1 := hP.ext hx1
  have hQ1 := hQ.ext hx1
  go_region_held3 (fun w' => (w'.cell? ⟨R, 0, none⟩ = some (.bool nb)) ∧ (w'.cell? ⟨R, 1, none⟩ = some (.slice zo A zc)) ∧ (w'.cell? ⟨R, 2, none⟩ = some (.bool mb)) ∧ (w'.cell? ⟨R, 3, none⟩ = some (.slice yo B yc)) ∧ (w'.cell? ⟨R + 1, 0, none⟩ = some (.bool kb)) ∧ (w'.cell? ⟨R + 1, 1, none⟩ = some (.slice xo C xc)) ∧ (w'.cell? ⟨R + 1, 2, none⟩ = some (.bool lb)) ∧ (w'.cell? ⟨R + 1, 3, none⟩ = some (.slice vo D vc)))
    (first | with_reducible exact q8 hb1 hb2 hxk5 | with_reducible exact q8 hb1 hb2 hxk4 | with_reducible exact q8 hb1 hb2 hxk3 | with_reducible exact q8 hb1 hb2 hxk2 | with_reducible exact q8 hb1 hb2 hxk1 | with_reducible exact q8 hb1 hb2 ((Ext.refl _).drew))
    ((first
      | (go_at_call 28; refine (compare_calls _ rb1 rb2 ro1 ro2 RA1 rc1 RA2 rc2 (a.num * (b.den : Int)) (b.num * (a.den : Int)) (hR1.ext hx12) hR2 (by have := mul_size hRl1 hF.num hG.den'; omega) (by have := mul_size hRl2 hG.num hF.den'; omega)).mono ?_; rintro e v3 ⟨rfl, hx13⟩; have hxk3 : Ext w1 v3 := hxk2.trans hx13)
      | (go_at_call 29; refine (times_calls _ kb mb xo yo C xc B yc (b.num) ((a.den : Int)) (hQ1.num.ext hxk1) (hP1.den.ext hxk1) (by omega) (by omega)).mono ?_; rintro e v2 ⟨rb2, ro2, RA2, rc2, rfl, hR2, hbk2, hx12⟩; have hxk2 : Ext w1 v2 := Ext.trans (hxk1) hx12; have hRl2 := hR2.digs.many)
      | (go_at_call 29; refine (times_calls _ nb lb zo vo A zc D vc (a.num) ((b.den : Int)) (hP1.num.ext (Ext.refl _).drew) (hQ1.den.ext (Ext.refl _).drew) (by omega) (by omega)).mono ?_; rintro e v1 ⟨rb1, ro1, RA1, rc1, rfl, hR1, hbk1, hx11⟩; have hxk1 : Ext w1 v1 := Ext.trans ((Ext.refl _).drew) hx11; have hRl1 := hR1.digs.many)))
  go_wp2_with fail
  go_ret
  exact ⟨ret_int (cmpQ_eq a b), hx1.trans hxk3⟩
theorem many_i64 {n : Int} (hn : -9223372036854775808 < n ∧ n ≤ 9223372036854775807) : many n.natAbs ≤ 5 := many_le (by omega)
set_option maxRecDepth 100000 in
set_option maxHeartbeats 2000000 in
theorem frac_calls (w : World) (n d : Int) (hn : -9223372036854775808 < n ∧ n ≤ 9223372036854775807) (hd : -9223372036854775808 < d ∧ d ≤ 9223372036854775807) (hd0 : d ≠ 0) :
    Calls Tryd.prog 15 #[.int .i64 n, .int .i64 d] w (QR w (Rat.divInt n d)) := by
  go_enter Tryd.func15, Tryd.ntmps15
  go_wp2_with fail
  have hx1 : Ext w (w.alloc (.cells #[.bool false, .slice none 0 0, .bool false, .slice none 0 0] 34)) := (by repeat (first | exact Ext.refl _ | assumption | refine Ext.alloc ?_ _ | refine Ext.drewN ?_ _ | refine Ext.drew ?_))
  have hs1 : Spot4 (w.alloc (.cells #[.bool false, .slice none 0 0, .bool false, .slice none 0 0] 34)) w.heap.size := ⟨by simp, by simp [go_sem], by simp [go_sem], by simp [go_sem], by simp [go_sem], by simp [go_sem], by simp [go_sem], by simp [go_sem], by simp [go_sem]⟩
  generalize (w.alloc (.cells #[.bool false, .slice none 0 0, .bool false, .slice none 0 0] 34)) = w1 at *
  obtain ⟨R, hR⟩ : ∃ R, R = w.heap.size := ⟨_, rfl⟩
  rw [← hR] at hs1 ⊢
  have hRw : w.heap.size ≤ R := by omega
  clear hR
  refine (of_calls w1 n hn).mono ?_
  intro e v1 hr1
  obtain ⟨rb1, ro1, RA1, rc1, rfl, hR1, hbk1, hx11⟩ := hr1.res
  go_wp2_with fail
  refine (of_calls v1 d hd).mono ?_
  intro e v2 hr2
  obtain ⟨rb2, ro2, RA2, rc2, rfl, hR2, hbk2, hx12⟩ := hr2.res
  go_wp2_with fail
  have hm1 := hR1.digs.many
  have hm2 := hR2.digs.many
  have hb1 := many_i64 hn
  have hb2 := many_i64 hd
  refine (qlow_calls v2 rb1 rb2 ro1 ro2 RA1 rc1 RA2 rc2 n d (hR1.ext hx12) hR2 (by omega) (by omega) hd0).mono ?_
  rintro e v5 ⟨nr, oo, OA, oc, mr, po, PA, pc, rfl, hN, hbk, hbm, hx15⟩
  have hxk2 := hx11.trans hx12
  have hxk5 := hxk2.trans hx15
  obtain ⟨g0, hg0⟩ := Option.isSome_iff_exists.1 (hs1.ext hxk5).some0
  obtain ⟨g1, hg1⟩ := Option.isSome_iff_exists.1 (hs1.ext hxk5).some1
  obtain ⟨g2, hg2⟩ := Option.isSome_iff_exists.1 (hs1.ext hxk5).some2
  obtain ⟨g3, hg3⟩ := Option.isSome_iff_exists.1 (hs1.ext hxk5).some3
  have hh0 := (hs1.ext hxk5).free0
  have hh1 := (hs1.ext hxk5).free1
  have hh2 := (hs1.ext hxk5).free2
  have hh3 := (hs1.ext hxk5).free3
  go_wp2_with fail
  obtain ⟨r0, r1, r2, r3⟩ := (hs1.ext hxk5).put (.bool nr) (.slice oo OA oc) (.bool mr) (.slice po PA pc)
  refine bodyPost_ret (v := .agg #[.bool nr, .slice oo OA oc, .bool mr, .slice po PA pc]) (by simp [results, Tryd.results15, go_sem, r0, r1, r2, r3]) rfl ?_
  exact q_done (hx1.trans hxk5) (by omega) (Nat.lt_of_lt_of_le hs1.lt hxk2.size) (Nat.le_trans hx1.size hxk2.size) hN hbk hbm
end Go.Proofs.YtefmioppamdceaaDoor

/- Inspect: the law's choose, the specification's FromRatio. -/
namespace Go.Proofs.YtefmioppamdceaaDoor
--@optional
open Go.RowKit Go.Shelf
set_option maxRecDepth 100000 in
theorem fromRatio_calls (w : World) (n d : Int) (hn : -9223372036854775808 < n ∧ n ≤ 9223372036854775807) (hd : -9223372036854775808 < d ∧ d ≤ 9223372036854775807) (hd0 : d ≠ 0) :
    Calls Tryd.prog 14 #[.agg #[.int .i64 n, .int .i64 d]] w (QR w (Rat.divInt n d)) := by
  go_enter Tryd.func14, Tryd.ntmps14
  go_wp2_with fail
  have hx1 : Ext w ((w.alloc (.cells #[.int .i64 n, .int .i64 d] 23)).alloc (.cells #[.bool false, .slice none 0 0, .bool false, .slice none 0 0] 34)) := (by repeat (first | exact Ext.refl _ | assumption | refine Ext.alloc ?_ _ | refine Ext.drewN ?_ _ | refine Ext.drew ?_))
  have hs1 : Spot4 ((w.alloc (.cells #[.int .i64 n, .int .i64 d] 23)).alloc (.cells #[.bool false, .slice none 0 0, .bool false, .slice none 0 0] 34)) (w.heap.size + 1) := ⟨by simp, by simp [go_sem], by simp [go_sem], by simp [go_sem], by simp [go_sem], by simp [go_sem], by simp [go_sem], by simp [go_sem], by simp [go_sem]⟩
  generalize ((w.alloc (.cells #[.int .i64 n, .int .i64 d] 23)).alloc (.cells #[.bool false, .slice none 0 0, .bool false, .slice none 0 0] 34)) = w1 at *
  obtain ⟨R, hR⟩ : ∃ R, R = w.heap.size + 1 := ⟨_, rfl⟩
  rw [← hR] at hs1 ⊢
  have hRw : w.heap.size ≤ R := by omega
  clear hR
  refine (frac_calls w1 n d hn hd hd0).mono ?_
  rintro e v5 ⟨nr, oo, OA, oc, mr, po, PA, pc, rfl, hN, hbk, hbm, hxk5⟩
  obtain ⟨g0, hg0⟩ := Option.isSome_iff_exists.1 (hs1.ext hxk5).some0
  obtain ⟨g1, hg1⟩ := Option.isSome_iff_exists.1 (hs1.ext hxk5).some1
  obtain ⟨g2, hg2⟩ := Option.isSome_iff_exists.1 (hs1.ext hxk5).some2
  obtain ⟨g3, hg3⟩ := Option.isSome_iff_exists.1 (hs1.ext hxk5).some3
  have hh0 := (hs1.ext hxk5).free0
  have hh1 := (hs1.ext hxk5).free1
  have hh2 := (hs1.ext hxk5).free2
  have hh3 := (hs1.ext hxk5).free3
  have hxkr := Ext.refl w1
  go_wp2_with fail
  obtain ⟨r0, r1, r2, r3⟩ := (hs1.ext hxk5).put (.bool nr) (.slice oo OA oc) (.bool mr) (.slice po PA pc)
  refine bodyPost_ret (v := .agg #[.bool nr, .slice oo OA oc, .bool mr, .slice po PA pc]) (by simp [results, Tryd.results14, go_sem, r0, r1, r2, r3]) rfl ?_
  exact q_done (hx1.trans hxk5) (by omega) (Nat.lt_of_lt_of_le hs1.lt hxkr.size) (Nat.le_trans hx1.size hxkr.size) hN hbk hbm
end Go.Proofs.YtefmioppamdceaaDoor
