/- The specification's fractions: Div, Add, Sub, Cmp, Frac. -/
import Derived.Test.YtcngecibljgndaaMBI
namespace Go.Proofs.Ytcngecibljgndaa
open Go.RowKit Go.Shelf

theorem rat_div {a b : Rat} (_ : b.num ≠ 0) : a / b = Rat.divInt (a.num * (b.den : Int)) ((a.den : Int) * b.num) := by
  rw [Rat.div_def, Rat.inv_def, ← Rat.divInt_mul_divInt, Rat.num_divInt_den]
theorem rat_add (a b : Rat) : a + b = Rat.divInt (a.num * (b.den : Int) + b.num * (a.den : Int)) ((a.den : Int) * (b.den : Int)) := by
  rw [← Rat.divInt_add_divInt _ _ (by have := a.den_pos; omega) (by have := b.den_pos; omega), Rat.num_divInt_den, Rat.num_divInt_den]
theorem rat_sub (a b : Rat) : a - b = Rat.divInt (a.num * (b.den : Int) - b.num * (a.den : Int)) ((a.den : Int) * (b.den : Int)) := by
  rw [Rat.sub_eq_add_neg, rat_add, Rat.neg_num, Rat.neg_den, Int.neg_mul, ← Int.sub_eq_add_neg]
theorem add_size {x y z : Int} {RA : Nat} (hr : many z.natAbs = RA) (hz : z.natAbs ≤ x.natAbs + y.natAbs) (h : many x.natAbs ≤ 800) (k : many y.natAbs ≤ 800) : RA ≤ 801 := by
  rw [← hr]
  have key : ∀ c, many x.natAbs ≤ c → many y.natAbs ≤ c → many z.natAbs ≤ c + 1 := fun c h k => by
    refine many_le ?_
    have h1 := Nat.lt_of_lt_of_le (lt_many x.natAbs) (Nat.pow_le_pow_right (by omega) h)
    have h2 := Nat.lt_of_lt_of_le (lt_many y.natAbs) (Nat.pow_le_pow_right (by omega) k)
    rw [Nat.pow_succ]
    omega
  exact key 800 h k
theorem mul_size' {z y : Int} (h : many z.natAbs ≤ 400) (k : many y.natAbs ≤ 400) : many (z * y).natAbs ≤ 800 := mul_size rfl h k
theorem Fine.den' {q : Rat} (h : Fine q) : many ((q.den : Int)).natAbs ≤ 400 := by rw [Int.natAbs_natCast]; exact h.den
/-- Comparison of fractions. -/
def cmpQ (a b : Rat) : Int := if a < b then -1 else if b < a then 1 else 0
theorem cmpQ_eq (a b : Rat) : cmpZ (a.num * (b.den : Int)) (b.num * (a.den : Int)) = cmpQ a b := by
  unfold cmpZ cmpQ
  simp only [Rat.lt_iff]
set_option maxRecDepth 100000 in
set_option maxHeartbeats 2000000 in
theorem div_calls (w : World) (nb mb kb lb : Bool) (zo yo xo vo : Option Addr) (A zc B yc C xc D vc : Nat) (a b : Rat) (hP : QNum w a nb zo A mb yo B) (hQ : QNum w b kb xo C lb vo D) (hF : Fine a) (hG : Fine b) (hb0 : b.num ≠ 0) :
    Calls Try.prog 93 #[.agg #[.bool nb, .slice zo A zc, .bool mb, .slice yo B yc], .agg #[.bool kb, .slice xo C xc, .bool lb, .slice vo D vc]] w (QR w (a / b)) := by
  obtain ⟨hA, hB⟩ := hP.fine hF
  obtain ⟨hC, hD⟩ := hQ.fine hG
  go_enter Try.func93, Try.ntmps93
  go_wp2_with fail
  have hx1 : Ext w (((w.alloc (.cells #[.bool nb, .slice zo A zc, .bool mb, .slice yo B yc] 41)).alloc (.cells #[.bool kb, .slice xo C xc, .bool lb, .slice vo D vc] 41)).alloc (.cells #[.bool false, .slice none 0 0, .bool false, .slice none 0 0] 41)) := (by repeat (first | exact Ext.refl _ | assumption | refine Ext.alloc ?_ _ | refine Ext.drewN ?_ _ | refine Ext.drew ?_))
  have hb1 : QBox (((w.alloc (.cells #[.bool nb, .slice zo A zc, .bool mb, .slice yo B yc] 41)).alloc (.cells #[.bool kb, .slice xo C xc, .bool lb, .slice vo D vc] 41)).alloc (.cells #[.bool false, .slice none 0 0, .bool false, .slice none 0 0] 41)) w.heap.size (.bool nb) (.slice zo A zc) (.bool mb) (.slice yo B yc) := ⟨by simp [go_sem], by simp [go_sem], by simp [go_sem], by simp [go_sem], by first | (simp; done) | (simp; omega)⟩
  have hb2 : QBox (((w.alloc (.cells #[.bool nb, .slice zo A zc, .bool mb, .slice yo B yc] 41)).alloc (.cells #[.bool kb, .slice xo C xc, .bool lb, .slice vo D vc] 41)).alloc (.cells #[.bool false, .slice none 0 0, .bool false, .slice none 0 0] 41)) (w.heap.size + 1) (.bool kb) (.slice xo C xc) (.bool lb) (.slice vo D vc) := ⟨by simp [go_sem], by simp [go_sem], by simp [go_sem], by simp [go_sem], by first | (simp; done) | (simp; omega)⟩
  have hs1 : Spot4 (((w.alloc (.cells #[.bool nb, .slice zo A zc, .bool mb, .slice yo B yc] 41)).alloc (.cells #[.bool kb, .slice xo C xc, .bool lb, .slice vo D vc] 41)).alloc (.cells #[.bool false, .slice none 0 0, .bool false, .slice none 0 0] 41)) (w.heap.size + 1 + 1) := ⟨by simp, by simp [go_sem], by simp [go_sem], by simp [go_sem], by simp [go_sem], by simp [go_sem], by simp [go_sem], by simp [go_sem], by simp [go_sem]⟩
  generalize (((w.alloc (.cells #[.bool nb, .slice zo A zc, .bool mb, .slice yo B yc] 41)).alloc (.cells #[.bool kb, .slice xo C xc, .bool lb, .slice vo D vc] 41)).alloc (.cells #[.bool false, .slice none 0 0, .bool false, .slice none 0 0] 41)) = w1 at *
  obtain ⟨R, hR⟩ : ∃ R, R = w.heap.size := ⟨_, rfl⟩
  rw [← hR] at hb1 hb2 hs1 ⊢
  have hRw : w.heap.size ≤ R := by omega
  clear hR
  have hP1 := hP.ext hx1
  have hQ1 := hQ.ext hx1
  have hlt := hs1.lt
  go_region_held3 (fun w' => (w'.cell? ⟨R, 0, none⟩ = some (.bool nb)) ∧ (w'.cell? ⟨R, 1, none⟩ = some (.slice zo A zc)) ∧ (w'.cell? ⟨R, 2, none⟩ = some (.bool mb)) ∧ (w'.cell? ⟨R, 3, none⟩ = some (.slice yo B yc)) ∧ (w'.cell? ⟨R + 1, 0, none⟩ = some (.bool kb)) ∧ (w'.cell? ⟨R + 1, 1, none⟩ = some (.slice xo C xc)) ∧ (w'.cell? ⟨R + 1, 2, none⟩ = some (.bool lb)) ∧ (w'.cell? ⟨R + 1, 3, none⟩ = some (.slice vo D vc)))
    (first | with_reducible exact q8 hb1 hb2 hxk5 | with_reducible exact q8 hb1 hb2 hxk4 | with_reducible exact q8 hb1 hb2 hxk3 | with_reducible exact q8 hb1 hb2 hxk2 | with_reducible exact q8 hb1 hb2 hxk1 | with_reducible exact q8 hb1 hb2 ((Ext.refl _).drew) | with_reducible exact q8far (q8 hb1 hb2 hxk5) (by omega) (by omega))
    ((first
      | (go_at_call 71; refine (qlow_calls _ rb1 rb2 ro1 ro2 RA1 rc1 RA2 rc2 (a.num * (b.den : Int)) ((a.den : Int) * b.num) (hR1.ext hx12) hR2 (by have := mul_size hRl1 hF.num hG.den'; omega) (by have := mul_size hRl2 hF.den' hG.num; omega) (Int.mul_ne_zero (by have := a.den_pos; omega) hb0)).mono ?_; rintro e v5 ⟨nr, oo, OA, oc, mr, po, PA, pc, rfl, hN, hbk, hbm, hx15⟩; have hxk5 : Ext w1 v5 := hxk2.trans hx15; obtain ⟨g0, hg0⟩ := Option.isSome_iff_exists.1 (hs1.ext hxk5).some0; obtain ⟨g1, hg1⟩ := Option.isSome_iff_exists.1 (hs1.ext hxk5).some1; obtain ⟨g2, hg2⟩ := Option.isSome_iff_exists.1 (hs1.ext hxk5).some2; obtain ⟨g3, hg3⟩ := Option.isSome_iff_exists.1 (hs1.ext hxk5).some3; have hh0 := (hs1.ext hxk5).free0; have hh1 := (hs1.ext hxk5).free1; have hh2 := (hs1.ext hxk5).free2; have hh3 := (hs1.ext hxk5).free3; rw [← rat_div hb0] at hN)
      | (go_at_call 70; refine (times_calls _ mb kb yo xo B yc C xc ((a.den : Int)) (b.num) (hP1.den.ext hxk1) (hQ1.num.ext hxk1) (by omega) (by omega)).mono ?_; rintro e v2 ⟨rb2, ro2, RA2, rc2, rfl, hR2, hbk2, hx12⟩; have hxk2 : Ext w1 v2 := Ext.trans (hxk1) hx12; have hRl2 := hR2.digs.many)
      | (go_at_call 70; refine (times_calls _ nb lb zo vo A zc D vc (a.num) ((b.den : Int)) (hP1.num.ext (Ext.refl _).drew) (hQ1.den.ext (Ext.refl _).drew) (by omega) (by omega)).mono ?_; rintro e v1 ⟨rb1, ro1, RA1, rc1, rfl, hR1, hbk1, hx11⟩; have hxk1 : Ext w1 v1 := Ext.trans ((Ext.refl _).drew) hx11; have hRl1 := hR1.digs.many)))
  go_wp2_with fail
  obtain ⟨r0, r1, r2, r3⟩ := (hs1.ext hxk5).put (.bool nr) (.slice oo OA oc) (.bool mr) (.slice po PA pc)
  refine bodyPost_ret (v := .agg #[.bool nr, .slice oo OA oc, .bool mr, .slice po PA pc]) (by simp [results, Try.results93, go_sem, r0, r1, r2, r3]) rfl ?_
  exact q_done (hx1.trans hxk5) (by omega) (Nat.lt_of_lt_of_le hs1.lt hxk2.size) (Nat.le_trans hx1.size hxk2.size) hN hbk hbm
set_option maxRecDepth 100000 in
set_option maxHeartbeats 2000000 in
theorem add_calls (w : World) (nb mb kb lb : Bool) (zo yo xo vo : Option Addr) (A zc B yc C xc D vc : Nat) (a b : Rat) (hP : QNum w a nb zo A mb yo B) (hQ : QNum w b kb xo C lb vo D) (hF : Fine a) (hG : Fine b) :
    Calls Try.prog 30 #[.agg #[.bool nb, .slice zo A zc, .bool mb, .slice yo B yc], .agg #[.bool kb, .slice xo C xc, .bool lb, .slice vo D vc]] w (QR w (a + b)) := by
  obtain ⟨hA, hB⟩ := hP.fine hF
  obtain ⟨hC, hD⟩ := hQ.fine hG
  go_enter Try.func30, Try.ntmps30
  go_wp2_with fail
  have hx1 : Ext w (((w.alloc (.cells #[.bool nb, .slice zo A zc, .bool mb, .slice yo B yc] 41)).alloc (.cells #[.bool kb, .slice xo C xc, .bool lb, .slice vo D vc] 41)).alloc (.cells #[.bool false, .slice none 0 0, .bool false, .slice none 0 0] 41)) := (by repeat (first | exact Ext.refl _ | assumption | refine Ext.alloc ?_ _ | refine Ext.drewN ?_ _ | refine Ext.drew ?_))
  have hb1 : QBox (((w.alloc (.cells #[.bool nb, .slice zo A zc, .bool mb, .slice yo B yc] 41)).alloc (.cells #[.bool kb, .slice xo C xc, .bool lb, .slice vo D vc] 41)).alloc (.cells #[.bool false, .slice none 0 0, .bool false, .slice none 0 0] 41)) w.heap.size (.bool nb) (.slice zo A zc) (.bool mb) (.slice yo B yc) := ⟨by simp [go_sem], by simp [go_sem], by simp [go_sem], by simp [go_sem], by first | (simp; done) | (simp; omega)⟩
  have hb2 : QBox (((w.alloc (.cells #[.bool nb, .slice zo A zc, .bool mb, .slice yo B yc] 41)).alloc (.cells #[.bool kb, .slice xo C xc, .bool lb, .slice vo D vc] 41)).alloc (.cells #[.bool false, .slice none 0 0, .bool false, .slice none 0 0] 41)) (w.heap.size + 1) (.bool kb) (.slice xo C xc) (.bool lb) (.slice vo D vc) := ⟨by simp [go_sem], by simp [go_sem], by simp [go_sem], by simp [go_sem], by first | (simp; done) | (simp; omega)⟩
  have hs1 : Spot4 (((w.alloc (.cells #[.bool nb, .slice zo A zc, .bool mb, .slice yo B yc] 41)).alloc (.cells #[.bool kb, .slice xo C xc, .bool lb, .slice vo D vc] 41)).alloc (.cells #[.bool false, .slice none 0 0, .bool false, .slice none 0 0] 41)) (w.heap.size + 1 + 1) := ⟨by simp, by simp [go_sem], by simp [go_sem], by simp [go_sem], by simp [go_sem], by simp [go_sem], by simp [go_sem], by simp [go_sem], by simp [go_sem]⟩
  generalize (((w.alloc (.cells #[.bool nb, .slice zo A zc, .bool mb, .slice yo B yc] 41)).alloc (.cells #[.bool kb, .slice xo C xc, .bool lb, .slice vo D vc] 41)).alloc (.cells #[.bool false, .slice none 0 0, .bool false, .slice none 0 0] 41)) = w1 at *
  obtain ⟨R, hR⟩ : ∃ R, R = w.heap.size := ⟨_, rfl⟩
  rw [← hR] at hb1 hb2 hs1 ⊢
  have hRw : w.heap.size ≤ R := by omega
  clear hR
  have hP1 := hP.ext hx1
  have hQ1 := hQ.ext hx1
  have hlt := hs1.lt
  go_region_held3 (fun w' => (w'.cell? ⟨R, 0, none⟩ = some (.bool nb)) ∧ (w'.cell? ⟨R, 1, none⟩ = some (.slice zo A zc)) ∧ (w'.cell? ⟨R, 2, none⟩ = some (.bool mb)) ∧ (w'.cell? ⟨R, 3, none⟩ = some (.slice yo B yc)) ∧ (w'.cell? ⟨R + 1, 0, none⟩ = some (.bool kb)) ∧ (w'.cell? ⟨R + 1, 1, none⟩ = some (.slice xo C xc)) ∧ (w'.cell? ⟨R + 1, 2, none⟩ = some (.bool lb)) ∧ (w'.cell? ⟨R + 1, 3, none⟩ = some (.slice vo D vc)))
    (first | with_reducible exact q8 hb1 hb2 hxk5 | with_reducible exact q8 hb1 hb2 hxk4 | with_reducible exact q8 hb1 hb2 hxk3 | with_reducible exact q8 hb1 hb2 hxk2 | with_reducible exact q8 hb1 hb2 hxk1 | with_reducible exact q8 hb1 hb2 ((Ext.refl _).drew) | with_reducible exact q8far (q8 hb1 hb2 hxk5) (by omega) (by omega))
    ((first
      | (go_at_call 71; refine (qlow_calls _ rb3 rb4 ro3 ro4 RA3 rc3 RA4 rc4 (a.num * (b.den : Int) + b.num * (a.den : Int)) ((a.den : Int) * (b.den : Int)) (hR3.ext hx14) hR4 (by have := add_size (x := a.num * (b.den : Int)) (y := b.num * (a.den : Int)) hRl3 (by omega) (mul_size' hF.num hG.den') (mul_size' hG.num hF.den'); omega) (by have := mul_size hRl4 hF.den' hG.den'; omega) (rat_den_ne a b)).mono ?_; rintro e v5 ⟨nr, oo, OA, oc, mr, po, PA, pc, rfl, hN, hbk, hbm, hx15⟩; have hxk5 : Ext w1 v5 := hxk4.trans hx15; obtain ⟨g0, hg0⟩ := Option.isSome_iff_exists.1 (hs1.ext hxk5).some0; obtain ⟨g1, hg1⟩ := Option.isSome_iff_exists.1 (hs1.ext hxk5).some1; obtain ⟨g2, hg2⟩ := Option.isSome_iff_exists.1 (hs1.ext hxk5).some2; obtain ⟨g3, hg3⟩ := Option.isSome_iff_exists.1 (hs1.ext hxk5).some3; have hh0 := (hs1.ext hxk5).free0; have hh1 := (hs1.ext hxk5).free1; have hh2 := (hs1.ext hxk5).free2; have hh3 := (hs1.ext hxk5).free3; rw [← rat_add a b] at hN)
      | (go_at_call 70; refine (times_calls _ mb lb yo vo B yc D vc ((a.den : Int)) ((b.den : Int)) (hP1.den.ext hxk3) (hQ1.den.ext hxk3) (by omega) (by omega)).mono ?_; rintro e v4 ⟨rb4, ro4, RA4, rc4, rfl, hR4, hbk4, hx14⟩; have hxk4 : Ext w1 v4 := Ext.trans (hxk3) hx14; have hRl4 := hR4.digs.many)
      | (go_at_call 72; refine (plus_calls _ rb1 rb2 ro1 ro2 RA1 rc1 RA2 rc2 (a.num * (b.den : Int)) (b.num * (a.den : Int)) (hR1.ext hx12) hR2 (by have := mul_size hRl1 hF.num hG.den'; omega) (by have := mul_size hRl2 hG.num hF.den'; omega)).mono ?_; rintro e v3 ⟨rb3, ro3, RA3, rc3, rfl, hR3, hbk3, hx13⟩; have hxk3 : Ext w1 v3 := Ext.trans (hxk2) hx13; have hRl3 := hR3.digs.many)
      | (go_at_call 70; refine (times_calls _ kb mb xo yo C xc B yc (b.num) ((a.den : Int)) (hQ1.num.ext hxk1) (hP1.den.ext hxk1) (by omega) (by omega)).mono ?_; rintro e v2 ⟨rb2, ro2, RA2, rc2, rfl, hR2, hbk2, hx12⟩; have hxk2 : Ext w1 v2 := Ext.trans (hxk1) hx12; have hRl2 := hR2.digs.many)
      | (go_at_call 70; refine (times_calls _ nb lb zo vo A zc D vc (a.num) ((b.den : Int)) (hP1.num.ext (Ext.refl _).drew) (hQ1.den.ext (Ext.refl _).drew) (by omega) (by omega)).mono ?_; rintro e v1 ⟨rb1, ro1, RA1, rc1, rfl, hR1, hbk1, hx11⟩; have hxk1 : Ext w1 v1 := Ext.trans ((Ext.refl _).drew) hx11; have hRl1 := hR1.digs.many)))
  go_wp2_with fail
  obtain ⟨r0, r1, r2, r3⟩ := (hs1.ext hxk5).put (.bool nr) (.slice oo OA oc) (.bool mr) (.slice po PA pc)
  refine bodyPost_ret (v := .agg #[.bool nr, .slice oo OA oc, .bool mr, .slice po PA pc]) (by simp [results, Try.results30, go_sem, r0, r1, r2, r3]) rfl ?_
  exact q_done (hx1.trans hxk5) (by omega) (Nat.lt_of_lt_of_le hs1.lt hxk4.size) (Nat.le_trans hx1.size hxk4.size) hN hbk hbm
set_option maxRecDepth 100000 in
set_option maxHeartbeats 2000000 in
theorem sub_calls (w : World) (nb mb kb lb : Bool) (zo yo xo vo : Option Addr) (A zc B yc C xc D vc : Nat) (a b : Rat) (hP : QNum w a nb zo A mb yo B) (hQ : QNum w b kb xo C lb vo D) (hF : Fine a) (hG : Fine b) :
    Calls Try.prog 89 #[.agg #[.bool nb, .slice zo A zc, .bool mb, .slice yo B yc], .agg #[.bool kb, .slice xo C xc, .bool lb, .slice vo D vc]] w (QR w (a - b)) := by
  obtain ⟨hA, hB⟩ := hP.fine hF
  obtain ⟨hC, hD⟩ := hQ.fine hG
  go_enter Try.func89, Try.ntmps89
  go_wp2_with fail
  have hx1 : Ext w (((w.alloc (.cells #[.bool nb, .slice zo A zc, .bool mb, .slice yo B yc] 41)).alloc (.cells #[.bool kb, .slice xo C xc, .bool lb, .slice vo D vc] 41)).alloc (.cells #[.bool false, .slice none 0 0, .bool false, .slice none 0 0] 41)) := (by repeat (first | exact Ext.refl _ | assumption | refine Ext.alloc ?_ _ | refine Ext.drewN ?_ _ | refine Ext.drew ?_))
  have hb1 : QBox (((w.alloc (.cells #[.bool nb, .slice zo A zc, .bool mb, .slice yo B yc] 41)).alloc (.cells #[.bool kb, .slice xo C xc, .bool lb, .slice vo D vc] 41)).alloc (.cells #[.bool false, .slice none 0 0, .bool false, .slice none 0 0] 41)) w.heap.size (.bool nb) (.slice zo A zc) (.bool mb) (.slice yo B yc) := ⟨by simp [go_sem], by simp [go_sem], by simp [go_sem], by simp [go_sem], by first | (simp; done) | (simp; omega)⟩
  have hb2 : QBox (((w.alloc (.cells #[.bool nb, .slice zo A zc, .bool mb, .slice yo B yc] 41)).alloc (.cells #[.bool kb, .slice xo C xc, .bool lb, .slice vo D vc] 41)).alloc (.cells #[.bool false, .slice none 0 0, .bool false, .slice none 0 0] 41)) (w.heap.size + 1) (.bool kb) (.slice xo C xc) (.bool lb) (.slice vo D vc) := ⟨by simp [go_sem], by simp [go_sem], by simp [go_sem], by simp [go_sem], by first | (simp; done) | (simp; omega)⟩
  have hs1 : Spot4 (((w.alloc (.cells #[.bool nb, .slice zo A zc, .bool mb, .slice yo B yc] 41)).alloc (.cells #[.bool kb, .slice xo C xc, .bool lb, .slice vo D vc] 41)).alloc (.cells #[.bool false, .slice none 0 0, .bool false, .slice none 0 0] 41)) (w.heap.size + 1 + 1) := ⟨by simp, by simp [go_sem], by simp [go_sem], by simp [go_sem], by simp [go_sem], by simp [go_sem], by simp [go_sem], by simp [go_sem], by simp [go_sem]⟩
  generalize (((w.alloc (.cells #[.bool nb, .slice zo A zc, .bool mb, .slice yo B yc] 41)).alloc (.cells #[.bool kb, .slice xo C xc, .bool lb, .slice vo D vc] 41)).alloc (.cells #[.bool false, .slice none 0 0, .bool false, .slice none 0 0] 41)) = w1 at *
  obtain ⟨R, hR⟩ : ∃ R, R = w.heap.size := ⟨_, rfl⟩
  rw [← hR] at hb1 hb2 hs1 ⊢
  have hRw : w.heap.size ≤ R := by omega
  clear hR
  have hP1 := hP.ext hx1
  have hQ1 := hQ.ext hx1
  have hlt := hs1.lt
  go_region_held3 (fun w' => (w'.cell? ⟨R, 0, none⟩ = some (.bool nb)) ∧ (w'.cell? ⟨R, 1, none⟩ = some (.slice zo A zc)) ∧ (w'.cell? ⟨R, 2, none⟩ = some (.bool mb)) ∧ (w'.cell? ⟨R, 3, none⟩ = some (.slice yo B yc)) ∧ (w'.cell? ⟨R + 1, 0, none⟩ = some (.bool kb)) ∧ (w'.cell? ⟨R + 1, 1, none⟩ = some (.slice xo C xc)) ∧ (w'.cell? ⟨R + 1, 2, none⟩ = some (.bool lb)) ∧ (w'.cell? ⟨R + 1, 3, none⟩ = some (.slice vo D vc)))
    (first | with_reducible exact q8 hb1 hb2 hxk5 | with_reducible exact q8 hb1 hb2 hxk4 | with_reducible exact q8 hb1 hb2 hxk3 | with_reducible exact q8 hb1 hb2 hxk2 | with_reducible exact q8 hb1 hb2 hxk1 | with_reducible exact q8 hb1 hb2 ((Ext.refl _).drew) | with_reducible exact q8far (q8 hb1 hb2 hxk5) (by omega) (by omega))
    ((first
      | (go_at_call 71; refine (qlow_calls _ rb3 rb4 ro3 ro4 RA3 rc3 RA4 rc4 (a.num * (b.den : Int) - b.num * (a.den : Int)) ((a.den : Int) * (b.den : Int)) (hR3.ext hx14) hR4 (by have := add_size (x := a.num * (b.den : Int)) (y := b.num * (a.den : Int)) hRl3 (by omega) (mul_size' hF.num hG.den') (mul_size' hG.num hF.den'); omega) (by have := mul_size hRl4 hF.den' hG.den'; omega) (rat_den_ne a b)).mono ?_; rintro e v5 ⟨nr, oo, OA, oc, mr, po, PA, pc, rfl, hN, hbk, hbm, hx15⟩; have hxk5 : Ext w1 v5 := hxk4.trans hx15; obtain ⟨g0, hg0⟩ := Option.isSome_iff_exists.1 (hs1.ext hxk5).some0; obtain ⟨g1, hg1⟩ := Option.isSome_iff_exists.1 (hs1.ext hxk5).some1; obtain ⟨g2, hg2⟩ := Option.isSome_iff_exists.1 (hs1.ext hxk5).some2; obtain ⟨g3, hg3⟩ := Option.isSome_iff_exists.1 (hs1.ext hxk5).some3; have hh0 := (hs1.ext hxk5).free0; have hh1 := (hs1.ext hxk5).free1; have hh2 := (hs1.ext hxk5).free2; have hh3 := (hs1.ext hxk5).free3; rw [← rat_sub a b] at hN)
      | (go_at_call 70; refine (times_calls _ mb lb yo vo B yc D vc ((a.den : Int)) ((b.den : Int)) (hP1.den.ext hxk3) (hQ1.den.ext hxk3) (by omega) (by omega)).mono ?_; rintro e v4 ⟨rb4, ro4, RA4, rc4, rfl, hR4, hbk4, hx14⟩; have hxk4 : Ext w1 v4 := Ext.trans (hxk3) hx14; have hRl4 := hR4.digs.many)
      | (go_at_call 120; refine (minus_calls _ rb1 rb2 ro1 ro2 RA1 rc1 RA2 rc2 (a.num * (b.den : Int)) (b.num * (a.den : Int)) (hR1.ext hx12) hR2 (by have := mul_size hRl1 hF.num hG.den'; omega) (by have := mul_size hRl2 hG.num hF.den'; omega)).mono ?_; rintro e v3 ⟨rb3, ro3, RA3, rc3, rfl, hR3, hbk3, hx13⟩; have hxk3 : Ext w1 v3 := Ext.trans (hxk2) hx13; have hRl3 := hR3.digs.many)
      | (go_at_call 70; refine (times_calls _ kb mb xo yo C xc B yc (b.num) ((a.den : Int)) (hQ1.num.ext hxk1) (hP1.den.ext hxk1) (by omega) (by omega)).mono ?_; rintro e v2 ⟨rb2, ro2, RA2, rc2, rfl, hR2, hbk2, hx12⟩; have hxk2 : Ext w1 v2 := Ext.trans (hxk1) hx12; have hRl2 := hR2.digs.many)
      | (go_at_call 70; refine (times_calls _ nb lb zo vo A zc D vc (a.num) ((b.den : Int)) (hP1.num.ext (Ext.refl _).drew) (hQ1.den.ext (Ext.refl _).drew) (by omega) (by omega)).mono ?_; rintro e v1 ⟨rb1, ro1, RA1, rc1, rfl, hR1, hbk1, hx11⟩; have hxk1 : Ext w1 v1 := Ext.trans ((Ext.refl _).drew) hx11; have hRl1 := hR1.digs.many)))
  go_wp2_with fail
  obtain ⟨r0, r1, r2, r3⟩ := (hs1.ext hxk5).put (.bool nr) (.slice oo OA oc) (.bool mr) (.slice po PA pc)
  refine bodyPost_ret (v := .agg #[.bool nr, .slice oo OA oc, .bool mr, .slice po PA pc]) (by simp [results, Try.results89, go_sem, r0, r1, r2, r3]) rfl ?_
  exact q_done (hx1.trans hxk5) (by omega) (Nat.lt_of_lt_of_le hs1.lt hxk4.size) (Nat.le_trans hx1.size hxk4.size) hN hbk hbm
set_option maxRecDepth 100000 in
set_option maxHeartbeats 2000000 in
theorem cmp_calls (w : World) (nb mb kb lb : Bool) (zo yo xo vo : Option Addr) (A zc B yc C xc D vc : Nat) (a b : Rat) (hP : QNum w a nb zo A mb yo B) (hQ : QNum w b kb xo C lb vo D) (hF : Fine a) (hG : Fine b) :
    Calls Try.prog 28 #[.agg #[.bool nb, .slice zo A zc, .bool mb, .slice yo B yc], .agg #[.bool kb, .slice xo C xc, .bool lb, .slice vo D vc]] w fun e w' => e = .returned (.int .i64 (cmpQ a b)) ∧ Ext w w' := by
  obtain ⟨hA, hB⟩ := hP.fine hF
  obtain ⟨hC, hD⟩ := hQ.fine hG
  go_enter Try.func28, Try.ntmps28
  go_wp2_with fail
  have hx1 : Ext w ((w.alloc (.cells #[.bool nb, .slice zo A zc, .bool mb, .slice yo B yc] 41)).alloc (.cells #[.bool kb, .slice xo C xc, .bool lb, .slice vo D vc] 41)) := (by repeat (first | exact Ext.refl _ | assumption | refine Ext.alloc ?_ _ | refine Ext.drewN ?_ _ | refine Ext.drew ?_))
  have hb1 : QBox ((w.alloc (.cells #[.bool nb, .slice zo A zc, .bool mb, .slice yo B yc] 41)).alloc (.cells #[.bool kb, .slice xo C xc, .bool lb, .slice vo D vc] 41)) w.heap.size (.bool nb) (.slice zo A zc) (.bool mb) (.slice yo B yc) := ⟨by simp [go_sem], by simp [go_sem], by simp [go_sem], by simp [go_sem], by first | (simp; done) | (simp; omega)⟩
  have hb2 : QBox ((w.alloc (.cells #[.bool nb, .slice zo A zc, .bool mb, .slice yo B yc] 41)).alloc (.cells #[.bool kb, .slice xo C xc, .bool lb, .slice vo D vc] 41)) (w.heap.size + 1) (.bool kb) (.slice xo C xc) (.bool lb) (.slice vo D vc) := ⟨by simp [go_sem], by simp [go_sem], by simp [go_sem], by simp [go_sem], by first | (simp; done) | (simp; omega)⟩
  generalize ((w.alloc (.cells #[.bool nb, .slice zo A zc, .bool mb, .slice yo B yc] 41)).alloc (.cells #[.bool kb, .slice xo C xc, .bool lb, .slice vo D vc] 41)) = w1 at *
  obtain ⟨R, hR⟩ : ∃ R, R = w.heap.size := ⟨_, rfl⟩
  rw [← hR] at hb1 hb2 ⊢
  clear hR
  have hP1 := hP.ext hx1
  have hQ1 := hQ.ext hx1
  go_region_held3 (fun w' => (w'.cell? ⟨R, 0, none⟩ = some (.bool nb)) ∧ (w'.cell? ⟨R, 1, none⟩ = some (.slice zo A zc)) ∧ (w'.cell? ⟨R, 2, none⟩ = some (.bool mb)) ∧ (w'.cell? ⟨R, 3, none⟩ = some (.slice yo B yc)) ∧ (w'.cell? ⟨R + 1, 0, none⟩ = some (.bool kb)) ∧ (w'.cell? ⟨R + 1, 1, none⟩ = some (.slice xo C xc)) ∧ (w'.cell? ⟨R + 1, 2, none⟩ = some (.bool lb)) ∧ (w'.cell? ⟨R + 1, 3, none⟩ = some (.slice vo D vc)))
    (first | with_reducible exact q8 hb1 hb2 hxk5 | with_reducible exact q8 hb1 hb2 hxk4 | with_reducible exact q8 hb1 hb2 hxk3 | with_reducible exact q8 hb1 hb2 hxk2 | with_reducible exact q8 hb1 hb2 hxk1 | with_reducible exact q8 hb1 hb2 ((Ext.refl _).drew))
    ((first
      | (go_at_call 69; refine (compare_calls _ rb1 rb2 ro1 ro2 RA1 rc1 RA2 rc2 (a.num * (b.den : Int)) (b.num * (a.den : Int)) (hR1.ext hx12) hR2 (by have := mul_size hRl1 hF.num hG.den'; omega) (by have := mul_size hRl2 hG.num hF.den'; omega)).mono ?_; rintro e v3 ⟨rfl, hx13⟩; have hxk3 : Ext w1 v3 := hxk2.trans hx13)
      | (go_at_call 70; refine (times_calls _ kb mb xo yo C xc B yc (b.num) ((a.den : Int)) (hQ1.num.ext hxk1) (hP1.den.ext hxk1) (by omega) (by omega)).mono ?_; rintro e v2 ⟨rb2, ro2, RA2, rc2, rfl, hR2, hbk2, hx12⟩; have hxk2 : Ext w1 v2 := Ext.trans (hxk1) hx12; have hRl2 := hR2.digs.many)
      | (go_at_call 70; refine (times_calls _ nb lb zo vo A zc D vc (a.num) ((b.den : Int)) (hP1.num.ext (Ext.refl _).drew) (hQ1.den.ext (Ext.refl _).drew) (by omega) (by omega)).mono ?_; rintro e v1 ⟨rb1, ro1, RA1, rc1, rfl, hR1, hbk1, hx11⟩; have hxk1 : Ext w1 v1 := Ext.trans ((Ext.refl _).drew) hx11; have hRl1 := hR1.digs.many)))
  go_wp2_with fail
  go_ret
  exact ⟨ret_int (cmpQ_eq a b), hx1.trans hxk3⟩
theorem many_i64 {n : Int} (hn : -9223372036854775808 < n ∧ n ≤ 9223372036854775807) : many n.natAbs ≤ 5 := many_le (by omega)
set_option maxRecDepth 100000 in
set_option maxHeartbeats 2000000 in
theorem frac_calls (w : World) (n d : Int) (hn : -9223372036854775808 < n ∧ n ≤ 9223372036854775807) (hd : -9223372036854775808 < d ∧ d ≤ 9223372036854775807) (hd0 : d ≠ 0) :
    Calls Try.prog 31 #[.int .i64 n, .int .i64 d] w (QR w (Rat.divInt n d)) := by
  go_enter Try.func31, Try.ntmps31
  go_wp2_with fail
  have hx1 : Ext w (w.alloc (.cells #[.bool false, .slice none 0 0, .bool false, .slice none 0 0] 41)) := (by repeat (first | exact Ext.refl _ | assumption | refine Ext.alloc ?_ _ | refine Ext.drewN ?_ _ | refine Ext.drew ?_))
  have hs1 : Spot4 (w.alloc (.cells #[.bool false, .slice none 0 0, .bool false, .slice none 0 0] 41)) w.heap.size := ⟨by simp, by simp [go_sem], by simp [go_sem], by simp [go_sem], by simp [go_sem], by simp [go_sem], by simp [go_sem], by simp [go_sem], by simp [go_sem]⟩
  generalize (w.alloc (.cells #[.bool false, .slice none 0 0, .bool false, .slice none 0 0] 41)) = w1 at *
  obtain ⟨R, hR⟩ : ∃ R, R = w.heap.size := ⟨_, rfl⟩
  rw [← hR] at hs1 ⊢
  have hRw : w.heap.size ≤ R := by omega
  clear hR
  refine (of_calls w1 n hn).mono ?_
  intro e v1 hr1
  obtain ⟨rb1, ro1, RA1, rc1, rfl, hR1, hbk1, hx11⟩ := hr1.res
  go_wp2_with fail
  refine (of_calls v1 d hd).mono ?_
  intro e v2 hr2
  obtain ⟨rb2, ro2, RA2, rc2, rfl, hR2, hbk2, hx12⟩ := hr2.res
  go_wp2_with fail
  have hm1 := hR1.digs.many
  have hm2 := hR2.digs.many
  have hb1 := many_i64 hn
  have hb2 := many_i64 hd
  refine (qlow_calls v2 rb1 rb2 ro1 ro2 RA1 rc1 RA2 rc2 n d (hR1.ext hx12) hR2 (by omega) (by omega) hd0).mono ?_
  rintro e v5 ⟨nr, oo, OA, oc, mr, po, PA, pc, rfl, hN, hbk, hbm, hx15⟩
  have hxk2 := hx11.trans hx12
  have hxk5 := hxk2.trans hx15
  obtain ⟨g0, hg0⟩ := Option.isSome_iff_exists.1 (hs1.ext hxk5).some0
  obtain ⟨g1, hg1⟩ := Option.isSome_iff_exists.1 (hs1.ext hxk5).some1
  obtain ⟨g2, hg2⟩ := Option.isSome_iff_exists.1 (hs1.ext hxk5).some2
  obtain ⟨g3, hg3⟩ := Option.isSome_iff_exists.1 (hs1.ext hxk5).some3
  have hh0 := (hs1.ext hxk5).free0
  have hh1 := (hs1.ext hxk5).free1
  have hh2 := (hs1.ext hxk5).free2
  have hh3 := (hs1.ext hxk5).free3
  go_wp2_with fail
  obtain ⟨r0, r1, r2, r3⟩ := (hs1.ext hxk5).put (.bool nr) (.slice oo OA oc) (.bool mr) (.slice po PA pc)
  refine bodyPost_ret (v := .agg #[.bool nr, .slice oo OA oc, .bool mr, .slice po PA pc]) (by simp [results, Try.results31, go_sem, r0, r1, r2, r3]) rfl ?_
  exact q_done (hx1.trans hxk5) (by omega) (Nat.lt_of_lt_of_le hs1.lt hxk2.size) (Nat.le_trans hx1.size hxk2.size) hN hbk hbm
end Go.Proofs.Ytcngecibljgndaa
