/- The specification's fractions: Frac, Mul, Div, Add, Sub, Cmp. -/
import Derived.Test.YtefmioppamdceaaDoorMYH
import Derived.Test.YtefmioppamdceaaDoorMKE
import Derived.Test.YtefmioppamdceaaDoorMKit
import Derived.Test.YtefmioppamdceaaDoorRows
import Derived.ProofKit
import Derived.Deep.Slices
import Derived.Deep.Fields
import Derived.Below
import Derived.Carry
import Derived.Test.YtefmioppamdceaaDoorMJD
import Derived.LaidMore
import Derived.OpenShut
import Derived.Stop.Joined
namespace Go.Proofs.YtefmioppamdceaaDoor
--@optional
open Go.RowKit Go.Shelf

/-- Fractions that are not too long. -/
structure Fine (q : Rat) : Prop where
  num : many q.num.natAbs ≤ 400
  den : many q.den ≤ 400
theorem QNum.fine {w : World} {q : Rat} {nb mb : Bool} {zo yo : Option Addr} {A B : Nat} (h : QNum w q nb zo A mb yo B) (hq : Fine q) : A ≤ 400 ∧ B ≤ 400 := by
  have h1 := h.num.digs.many
  have h2 := h.den.digs.many
  rw [Int.natAbs_natCast] at h2
  exact ⟨by rw [← h1]; exact hq.num, by rw [← h2]; exact hq.den⟩
structure QBox (w : World) (B : Nat) (u v x y : Value) : Prop where
  c0 : w.cell? ⟨B, 0, none⟩ = some u
  c1 : w.cell? ⟨B, 1, none⟩ = some v
  c2 : w.cell? ⟨B, 2, none⟩ = some x
  c3 : w.cell? ⟨B, 3, none⟩ = some y
  lt : B < w.heap.size
theorem QBox.ext {w w' : World} {B : Nat} {u v x y : Value} (h : QBox w B u v x y) (hx : Ext w w') : QBox w' B u v x y :=
  ⟨(hx.cell (p := ⟨B, 0, none⟩) h.lt).trans h.c0, (hx.cell (p := ⟨B, 1, none⟩) h.lt).trans h.c1, (hx.cell (p := ⟨B, 2, none⟩) h.lt).trans h.c2, (hx.cell (p := ⟨B, 3, none⟩) h.lt).trans h.c3, Nat.lt_of_lt_of_le h.lt hx.size⟩
theorem q8 {w w' : World} {B C : Nat} {u v x y u' v' x' y' : Value} (h : QBox w B u v x y) (k : QBox w C u' v' x' y') (hx : Ext w w') :
    (w'.cell? ⟨B, 0, none⟩ = some u) ∧ (w'.cell? ⟨B, 1, none⟩ = some v) ∧ (w'.cell? ⟨B, 2, none⟩ = some x) ∧ (w'.cell? ⟨B, 3, none⟩ = some y) ∧ (w'.cell? ⟨C, 0, none⟩ = some u') ∧ (w'.cell? ⟨C, 1, none⟩ = some v') ∧ (w'.cell? ⟨C, 2, none⟩ = some x') ∧ (w'.cell? ⟨C, 3, none⟩ = some y') :=
  ⟨(h.ext hx).c0, (h.ext hx).c1, (h.ext hx).c2, (h.ext hx).c3, (k.ext hx).c0, (k.ext hx).c1, (k.ext hx).c2, (k.ext hx).c3⟩
theorem q_done {w w3 w4 : World} {q : Rat} {nb mb : Bool} {zo yo : Option Addr} {A zc B yc R : Nat} {u v x y : Value} (hx : Ext w w4) (hR : w.heap.size ≤ R) (hR3 : R < w3.heap.size) (hw3 : w.heap.size ≤ w3.heap.size) (h : QNum w4 q nb zo A mb yo B) (hb : ∀ a, zo = some a → w3.heap.size ≤ a.block) (hb2 : ∀ a, yo = some a → w3.heap.size ≤ a.block) :
    QR w q (.returned (.agg #[.bool nb, .slice zo A zc, .bool mb, .slice yo B yc])) ((((w4.setCell ⟨R, 0, none⟩ u).setCell ⟨R, 1, none⟩ v).setCell ⟨R, 2, none⟩ x).setCell ⟨R, 3, none⟩ y) :=
  ⟨nb, zo, A, zc, mb, yo, B, yc, rfl, ⟨h.num.grown (grown_put4 _ _ _ _ _ _) (fun a ha e => by simp only [Option.some.injEq] at e; have := hb a ha; omega), h.den.grown (grown_put4 _ _ _ _ _ _) (fun a ha e => by simp only [Option.some.injEq] at e; have := hb2 a ha; omega)⟩,
    fun a ha => Nat.le_trans hw3 (hb a ha), fun a ha => Nat.le_trans hw3 (hb2 a ha), hx.onto (grown_put4 _ _ _ _ _ _) (fun q hq => by simp only [Option.some.injEq] at hq; omega)⟩
theorem mul_many {m n A B : Nat} (h : many m ≤ A) (k : many n ≤ B) : many (m * n) ≤ A + B := by
  refine many_le ?_
  rw [Nat.pow_add]
  exact Nat.mul_lt_mul'' (Nat.lt_of_lt_of_le (lt_many m) (Nat.pow_le_pow_right (by omega) h)) (Nat.lt_of_lt_of_le (lt_many n) (Nat.pow_le_pow_right (by omega) k))
theorem mul_size {z y : Int} {RA : Nat} (hr : many (z * y).natAbs = RA) (h : many z.natAbs ≤ 400) (k : many y.natAbs ≤ 400) : RA ≤ 800 := by
  rw [← hr, Int.natAbs_mul]; exact mul_many h k
end Go.Proofs.YtefmioppamdceaaDoor

/- The specification's fractions: Div, Add, Sub, Cmp, Frac. -/
namespace Go.Proofs.YtefmioppamdceaaDoor
--@optional
open Go.RowKit Go.Shelf
theorem Fine.den' {q : Rat} (h : Fine q) : many ((q.den : Int)).natAbs ≤ 400 := by rw [Int.natAbs_natCast]; exact h.den
/-- Comparison of fractions. -/
def cmpQ (a b : Rat) : Int := if a < b then -1 else if b < a then 1 else 0
theorem cmpQ_eq (a b : Rat) : cmpZ (a.num * (b.den : Int)) (b.num * (a.den : Int)) = cmpQ a b := by
  unfold cmpZ cmpQ
  simp only [Rat.lt_iff]
set_option maxRecDepth 100000 in
set_option maxHeartbeats 2000000 in
theorem cmp_calls (w : World) (nb mb kb lb : Bool) (zo yo xo vo : Option Addr) (A zc B yc C xc D vc : Nat) (a b : Rat) (hP : QNum w a nb zo A mb yo B) (hQ : QNum w b kb xo C lb vo D) (hF : Fine a) (hG : Fine b) :
    Calls Tryd.prog 13 #[.agg #[.bool nb, .slice zo A zc, .bool mb, .slice yo B yc], .agg #[.bool kb, .slice xo C xc, .bool lb, .slice vo D vc]] w fun e w' => e = .returned (.int .i64 (cmpQ a b)) ∧ Ext w w' := by
  obtain ⟨hA, hB⟩ := hP.fine hF
  obtain ⟨hC, hD⟩ := hQ.fine hG
  go_enter Tryd.func13, Tryd.ntmps13
  go_wp2_with fail
  have hx1 : Ext w ((w.alloc (.cells #[.bool nb, .slice zo A zc, .bool mb, .slice yo B yc] 34)).alloc (.cells #[.bool kb, .slice xo C xc, .bool lb, .slice vo D vc] 34)) := (by repeat (first | exact Ext.refl _ | assumption | refine Ext.alloc ?_ _ | refine Ext.drewN ?_ _ | refine Ext.drew ?_))
  have hb1 : QBox ((w.alloc (.cells #[.bool nb, .slice zo A zc, .bool mb, .slice yo B yc] 34)).alloc (.cells #[.bool kb, .slice xo C xc, .bool lb, .slice vo D vc] 34)) w.heap.size (.bool nb) (.slice zo A zc) (.bool mb) (.slice yo B yc) := ⟨by simp [go_sem], by simp [go_sem], by simp [go_sem], by simp [go_sem], by first | (simp; done) | (simp; omega)⟩
  have hb2 : QBox ((w.alloc (.cells #[.bool nb, .slice zo A zc, .bool mb, .slice yo B yc] 34)).alloc (.cells #[.bool kb, .slice xo C xc, .bool lb, .slice vo D vc] 34)) (w.heap.size + 1) (.bool kb) (.slice xo C xc) (.bool lb) (.slice vo D vc) := ⟨by simp [go_sem], by simp [go_sem], by simp [go_sem], by simp [go_sem], by first | (simp; done) | (simp; omega)⟩
  generalize ((w.alloc (.cells #[.bool nb, .slice zo A zc, .bool mb, .slice yo B yc] 34)).alloc (.cells #[.bool kb, .slice xo C xc, .bool lb, .slice vo D vc] 34)) = w1 at *
  obtain ⟨R, hR⟩ : ∃ R, R = w.heap.size := ⟨_, rfl⟩
  rw [← hR] at hb1 hb2 ⊢
  clear hR
  have hP1 := hP.ext hx1
  have hQ1 := hQ.ext hx1
  go_region_held3 (fun w' => (w'.cell? ⟨R, 0, none⟩ = some (.bool nb)) ∧ (w'.cell? ⟨R, 1, none⟩ = some (.slice zo A zc)) ∧ (w'.cell? ⟨R, 2, none⟩ = some (.bool mb)) ∧ (w'.cell? ⟨R, 3, none⟩ = some (.slice yo B yc)) ∧ (w'.cell? ⟨R + 1, 0, none⟩ = some (.bool kb)) ∧ (w'.cell? ⟨R + 1, 1, none⟩ = some (.slice xo C xc)) ∧ (w'.cell? ⟨R + 1, 2, none⟩ = some (.bool lb)) ∧ (w'.cell? ⟨R + 1, 3, none⟩ = some (.slice vo D vc)))
    (first | with_reducible exact q8 hb1 hb2 hxk5 | with_reducible exact q8 hb1 hb2 hxk4 | with_reducible exact q8 hb1 hb2 hxk3 | with_reducible exact q8 hb1 hb2 hxk2 | with_reducible exact q8 hb1 hb2 hxk1 | with_reducible exact q8 hb1 hb2 ((Ext.refl _).drew))
    ((first
      | (go_at_call 28; refine (compare_calls _ rb1 rb2 ro1 ro2 RA1 rc1 RA2 rc2 (a.num * (b.den : Int)) (b.num * (a.den : Int)) (hR1.ext hx12) hR2 (by have := mul_size hRl1 hF.num hG.den'; omega) (by have := mul_size hRl2 hG.num hF.den'; omega)).mono ?_; rintro e v3 ⟨rfl, hx13⟩; have hxk3 : Ext w1 v3 := hxk2.trans hx13)
      | (go_at_call 29; refine (times_calls _ kb mb xo yo C xc B yc (b.num) ((a.den : Int)) (hQ1.num.ext hxk1) (hP1.den.ext hxk1) (by omega) (by omega)).mono ?_; rintro e v2 ⟨rb2, ro2, RA2, rc2, rfl, hR2, hbk2, hx12⟩; have hxk2 : Ext w1 v2 := Ext.trans (hxk1) hx12; have hRl2 := hR2.digs.many)
      | (go_at_call 29; refine (times_calls _ nb lb zo vo A zc D vc (a.num) ((b.den : Int)) (hP1.num.ext (Ext.refl _).drew) (hQ1.den.ext (Ext.refl _).drew) (by omega) (by omega)).mono ?_; rintro e v1 ⟨rb1, ro1, RA1, rc1, rfl, hR1, hbk1, hx11⟩; have hxk1 : Ext w1 v1 := Ext.trans ((Ext.refl _).drew) hx11; have hRl1 := hR1.digs.many)))
  go_wp2_with fail
  go_ret
  exact ⟨ret_int (cmpQ_eq a b), hx1.trans hxk3⟩
theorem many_i64 {n : Int} (hn : -9223372036854775808 < n ∧ n ≤ 9223372036854775807) : many n.natAbs ≤ 5 := many_le (by omega)
set_option maxRecDepth 100000 in
set_option maxHeartbeats 2000000 in
theorem frac_calls (w : World) (n d : Int) (hn : -9223372036854775808 < n ∧ n ≤ 9223372036854775807) (hd : -9223372036854775808 < d ∧ d ≤ 9223372036854775807) (hd0 : d ≠ 0) :
    Calls Tryd.prog 15 #[.int .i64 n, .int .i64 d] w (QR w (Rat.divInt n d)) := by
  go_enter Tryd.func15, Tryd.ntmps15
  go_wp2_with fail
  have hx1 : Ext w (w.alloc (.cells #[.bool false, .slice none 0 0, .bool false, .slice none 0 0] 34)) := (by repeat (first | exact Ext.refl _ | assumption | refine Ext.alloc ?_ _ | refine Ext.drewN ?_ _ | refine Ext.drew ?_))
  have hs1 : Spot4 (w.alloc (.cells #[.bool false, .slice none 0 0, .bool false, .slice none 0 0] 34)) w.heap.size := ⟨by simp, by simp [go_sem], by simp [go_sem], by simp [go_sem], by simp [go_sem], by simp [go_sem], by simp [go_sem], by simp [go_sem], by simp [go_sem]⟩
  generalize (w.alloc (.cells #[.bool false, .slice none 0 0, .bool false, .slice none 0 0] 34)) = w1 at *
  obtain ⟨R, hR⟩ : ∃ R, R = w.heap.size := ⟨_, rfl⟩
  rw [← hR] at hs1 ⊢
  have hRw : w.heap.size ≤ R := by omega
  clear hR
  refine (of_calls w1 n hn).mono ?_
  intro e v1 hr1
  obtain ⟨rb1, ro1, RA1, rc1, rfl, hR1, hbk1, hx11⟩ := hr1.res
  go_wp2_with fail
  refine (of_calls v1 d hd).mono ?_
  intro e v2 hr2
  obtain ⟨rb2, ro2, RA2, rc2, rfl, hR2, hbk2, hx12⟩ := hr2.res
  go_wp2_with fail
  have hm1 := hR1.digs.many
  have hm2 := hR2.digs.many
  have hb1 := many_i64 hn
  have hb2 := many_i64 hd
  refine (qlow_calls v2 rb1 rb2 ro1 ro2 RA1 rc1 RA2 rc2 n d (hR1.ext hx12) hR2 (by omega) (by omega) hd0).mono ?_
  rintro e v5 ⟨nr, oo, OA, oc, mr, po, PA, pc, rfl, hN, hbk, hbm, hx15⟩
  have hxk2 := hx11.trans hx12
  have hxk5 := hxk2.trans hx15
  obtain ⟨g0, hg0⟩ := Option.isSome_iff_exists.1 (hs1.ext hxk5).some0
  obtain ⟨g1, hg1⟩ := Option.isSome_iff_exists.1 (hs1.ext hxk5).some1
  obtain ⟨g2, hg2⟩ := Option.isSome_iff_exists.1 (hs1.ext hxk5).some2
  obtain ⟨g3, hg3⟩ := Option.isSome_iff_exists.1 (hs1.ext hxk5).some3
  have hh0 := (hs1.ext hxk5).free0
  have hh1 := (hs1.ext hxk5).free1
  have hh2 := (hs1.ext hxk5).free2
  have hh3 := (hs1.ext hxk5).free3
  go_wp2_with fail
  obtain ⟨r0, r1, r2, r3⟩ := (hs1.ext hxk5).put (.bool nr) (.slice oo OA oc) (.bool mr) (.slice po PA pc)
  refine bodyPost_ret (v := .agg #[.bool nr, .slice oo OA oc, .bool mr, .slice po PA pc]) (by simp [results, Tryd.results15, go_sem, r0, r1, r2, r3]) rfl ?_
  exact q_done (hx1.trans hxk5) (by omega) (Nat.lt_of_lt_of_le hs1.lt hxk2.size) (Nat.le_trans hx1.size hxk2.size) hN hbk hbm
end Go.Proofs.YtefmioppamdceaaDoor

/- Inspect: the law's choose, the specification's FromRatio. -/
namespace Go.Proofs.YtefmioppamdceaaDoor
--@optional
open Go.RowKit Go.Shelf
set_option maxRecDepth 100000 in
theorem fromRatio_calls (w : World) (n d : Int) (hn : -9223372036854775808 < n ∧ n ≤ 9223372036854775807) (hd : -9223372036854775808 < d ∧ d ≤ 9223372036854775807) (hd0 : d ≠ 0) :
    Calls Tryd.prog 14 #[.agg #[.int .i64 n, .int .i64 d]] w (QR w (Rat.divInt n d)) := by
  go_enter Tryd.func14, Tryd.ntmps14
  go_wp2_with fail
  have hx1 : Ext w ((w.alloc (.cells #[.int .i64 n, .int .i64 d] 23)).alloc (.cells #[.bool false, .slice none 0 0, .bool false, .slice none 0 0] 34)) := (by repeat (first | exact Ext.refl _ | assumption | refine Ext.alloc ?_ _ | refine Ext.drewN ?_ _ | refine Ext.drew ?_))
  have hs1 : Spot4 ((w.alloc (.cells #[.int .i64 n, .int .i64 d] 23)).alloc (.cells #[.bool false, .slice none 0 0, .bool false, .slice none 0 0] 34)) (w.heap.size + 1) := ⟨by simp, by simp [go_sem], by simp [go_sem], by simp [go_sem], by simp [go_sem], by simp [go_sem], by simp [go_sem], by simp [go_sem], by simp [go_sem]⟩
  generalize ((w.alloc (.cells #[.int .i64 n, .int .i64 d] 23)).alloc (.cells #[.bool false, .slice none 0 0, .bool false, .slice none 0 0] 34)) = w1 at *
  obtain ⟨R, hR⟩ : ∃ R, R = w.heap.size + 1 := ⟨_, rfl⟩
  rw [← hR] at hs1 ⊢
  have hRw : w.heap.size ≤ R := by omega
  clear hR
  refine (frac_calls w1 n d hn hd hd0).mono ?_
  rintro e v5 ⟨nr, oo, OA, oc, mr, po, PA, pc, rfl, hN, hbk, hbm, hxk5⟩
  obtain ⟨g0, hg0⟩ := Option.isSome_iff_exists.1 (hs1.ext hxk5).some0
  obtain ⟨g1, hg1⟩ := Option.isSome_iff_exists.1 (hs1.ext hxk5).some1
  obtain ⟨g2, hg2⟩ := Option.isSome_iff_exists.1 (hs1.ext hxk5).some2
  obtain ⟨g3, hg3⟩ := Option.isSome_iff_exists.1 (hs1.ext hxk5).some3
  have hh0 := (hs1.ext hxk5).free0
  have hh1 := (hs1.ext hxk5).free1
  have hh2 := (hs1.ext hxk5).free2
  have hh3 := (hs1.ext hxk5).free3
  have hxkr := Ext.refl w1
  go_wp2_with fail
  obtain ⟨r0, r1, r2, r3⟩ := (hs1.ext hxk5).put (.bool nr) (.slice oo OA oc) (.bool mr) (.slice po PA pc)
  refine bodyPost_ret (v := .agg #[.bool nr, .slice oo OA oc, .bool mr, .slice po PA pc]) (by simp [results, Tryd.results14, go_sem, r0, r1, r2, r3]) rfl ?_
  exact q_done (hx1.trans hxk5) (by omega) (Nat.lt_of_lt_of_le hs1.lt hxkr.size) (Nat.le_trans hx1.size hxkr.size) hN hbk hbm
theorem choR_mul : ∀ (n k : Nat), (k + 1) * choR (n + 1) (k + 1) = (n + 1) * choR n k
  | 0, 0 => by decide
  | 0, k + 1 => by rw [choR_over 1 (k + 1 + 1) (by omega), choR_over 0 (k + 1) (by omega)]; simp
  | n + 1, 0 => by
    have h := choR_mul n 0
    have e : choR (n + 1 + 1) (0 + 1) = choR (n + 1) 0 + choR (n + 1) (0 + 1) := rfl
    rw [e, choR_zero]
    rw [choR_zero] at h
    omega
  | n + 1, k + 1 => by
    have h1 := choR_mul n k
    have h2 := choR_mul n (k + 1)
    have e1 : choR (n + 1 + 1) (k + 1 + 1) = choR (n + 1) (k + 1) + choR (n + 1) (k + 1 + 1) := rfl
    have e2 : choR (n + 1) (k + 1) = choR n k + choR n (k + 1) := rfl
    rw [e1]
    have h3 : (n + 1) * choR (n + 1) (k + 1) = (n + 1) * choR n k + (n + 1) * choR n (k + 1) := by rw [e2, Nat.mul_add]
    have a1 : (k + 1 + 1) * (choR (n + 1) (k + 1) + choR (n + 1) (k + 1 + 1)) = (k + 1) * choR (n + 1) (k + 1) + choR (n + 1) (k + 1) + (k + 1 + 1) * choR (n + 1) (k + 1 + 1) := by
      rw [Nat.mul_add, Nat.succ_mul (k + 1)]
    have a2 : (n + 1 + 1) * choR (n + 1) (k + 1) = (n + 1) * choR (n + 1) (k + 1) + choR (n + 1) (k + 1) := Nat.succ_mul _ _
    omega
theorem choR_bd (n k : Nat) (hn : n ≤ 14) : choR n k ≤ 16384 := by
  have h3 : 2 ^ n ≤ 2 ^ 14 := Nat.pow_le_pow_right (by decide) hn
  have h5 : (2 : Nat) ^ 14 = 16384 := rfl
  cases k with
  | zero => rw [choR_zero]; omega
  | succ k => have := choR_le n k; have := sumR_le n (k + 1); omega
set_option maxRecDepth 100000 in
theorem choose_calls (w : World) (n k : Nat) (hkn : k ≤ n) (hn : n ≤ 14) :
    Calls Tryd.prog 12 #[.int .i64 n, .int .i64 k] w fun e w' => e = .returned (.int .i64 (choR n k : Nat)) ∧ Ext w w' := by
  go_enter Tryd.func12, Tryd.ntmps12
  go_wp2_with fail
  go_loopw [5, 6] (fun ov i wr => ∃ j : Nat, j ≤ k ∧ i = .int .i64 (j + 1) ∧ ov = .int .i64 (choR (n - k + j) j : Nat) ∧ wr = w) (fun _ i _ => k + 1 - (intOf i).toNat)
  case atStart => exact ⟨0, by omega, rfl, by rw [choR_zero]; rfl, rfl⟩
  case round =>
    obtain ⟨j, hj, rfl, rfl, rfl⟩ := hrel
    by_cases hlt : j < k
    · have hm := choR_mul (n - k + j) j
      have hb := choR_bd (n - k + j) j (by omega)
      have hb2 := choR_bd (n - k + j + 1) (j + 1) (by omega)
      obtain ⟨a, ha⟩ : ∃ a, a = choR (n - k + j) j := ⟨_, rfl⟩
      obtain ⟨b, hbb⟩ : ∃ b, b = choR (n - k + j + 1) (j + 1) := ⟨_, rfl⟩
      rw [← ha, ← hbb] at hm
      rw [← ha] at hb ⊢
      rw [← hbb] at hb2
      have HB := Lib.hid hbb
      clear ha hbb
      have hs : (n : Int) - (k : Int) + ((j : Int) + 1) = ((n - k + j + 1 : Nat) : Int) := by omega
      have hp : (a : Int) * ((n : Int) - (k : Int) + ((j : Int) + 1)) = ((j : Int) + 1) * (b : Int) := by
        rw [hs, Int.mul_comm]
        exact_mod_cast hm.symm
      obtain ⟨p, hpd⟩ : ∃ p, p = (a : Int) * ((n : Int) - (k : Int) + ((j : Int) + 1)) := ⟨_, rfl⟩
      have hq : p.tdiv ((j : Int) + 1) = (b : Int) := by rw [hpd, hp]; exact Int.mul_tdiv_cancel_left _ (by omega)
      have hpb : 0 ≤ p ∧ p ≤ 15 * 16384 := by
        rw [hpd, hp]
        exact ⟨Int.mul_nonneg (by omega) (by omega), Int.mul_le_mul (by omega) (by omega) (by omega) (by omega)⟩
      have hw1 : IntKind.i64.wrap p = p := by rw [IntKind.wrap_i64]; omega
      replace hpd := hpd.symm
      have hjz : ¬ (j : Int) + 1 = 0 := by omega
      have hjz2 : (((j : Int) + 1) == 0) = false := by simpa using hjz
      clear hp hs hm
      go_wp2_with fail
      exact ⟨⟨j + 1, by omega, by go_num, by rw [HB.out, show n - k + (j + 1) = n - k + j + 1 by omega], by trivial⟩, by simp only [intOf]; omega⟩
    · obtain rfl : j = k := by omega
      rw [show n - j + j = n by omega]
      go_wp2_with fail
      go_ret
      exact ⟨rfl, Ext.refl _⟩
end Go.Proofs.YtefmioppamdceaaDoor

/- Arguments of a law laid open (integers, lists of integers, Parts), and the frame of a law: arguments that are read again, the result true. -/
--@optional
namespace Go.Proofs.YtefmioppamdceaaDoor
open Go.ChangeShapes Go.WideShapes Go.ChangeAt Go.RowKit Go.Deep

theorem own_any : ownKnob Tryd.prog.godebug = none := by kernel_rfl
theorem laidOut_any : laidOutB Tryd.prog = true := by kernel_rfl

theorem cell_plain {w : World} {a : Addr} {v : Value} (h : w.cell? a = some v) : ∃ b off, a = ⟨b, off, none⟩ ∧ b < w.heap.size := by
  obtain ⟨b, off, sp⟩ := a
  unfold World.cell? at h
  split at h
  · rename_i c _ _ hh
    cases sp with
    | none => exact ⟨b, off, rfl, (Array.getElem?_eq_some_iff.1 hh).1⟩
    | some x => simp at h
  · simp at h
/-- What a law of this package answers: true, and nothing that was there has changed. -/
def TrueRes (w : World) (e : Ending) (w' : World) : Prop := e = .returned (.bool true) ∧ Ext w w'
section
variable {H : Type} {enc : TypeId × Value → H}
theorem trodAll_below {W W' : World} (hb : Below W.heap.size W W') : ∀ (ts : List TypeId) (vs : List Value) (ds : List (DataW H)) (ps : List MemPlace), (∀ t ∈ ts, Tryd.prog.readableRec t = true ∧ t < Tryd.prog.types.size) → (∀ x ∈ ps, x.block < W.heap.size) →
    DataW.TrodAll enc Tryd.prog W 0 (fun _ => true) true ts vs ds ps → DataW.TrodAll enc Tryd.prog W' 0 (fun b => decide (b < W.heap.size)) true ts vs ds ps := by
  intro ts
  induction ts with
  | nil =>
    intro vs ds ps _ _ h
    cases vs with
    | nil => cases ds with
      | nil => exact h
      | cons d ds => exact (h : False).elim
    | cons v vs => cases ds with
      | nil => exact (h : False).elim
      | cons d ds => exact (h : False).elim
  | cons t ts ih =>
    intro vs ds ps hr hlt h
    cases vs with
    | nil => cases ds with
      | nil => exact (h : False).elim
      | cons d ds => exact (h : False).elim
    | cons v vs => cases ds with
      | nil => exact (h : False).elim
      | cons d ds =>
        obtain ⟨p, q, h1, h2, rfl⟩ := h
        have ht := hr t (by simp)
        exact ⟨p, q, Below.trod laidOut_any ht.1 ht.2 h1 hb (fun x hx => hlt x (by simp [hx])), ih vs ds q (fun t ht => hr t (by simp [ht])) (fun x hx => hlt x (by simp [hx])) h2, rfl⟩
theorem post_true {f : Func} {s : ChangeSpec} {W W' : World} {args : Array Value} {ds gs : List (DataW H)} {before : List MemPlace} (hW : DataW.Whole enc Tryd.prog f.params.toList s.vars false W args.toList ds gs before) (hv : s.vars = []) (hres : f.resultTypes = #[4])
    (hfn : s.fn H (ds ++ []) = { results := [.lit (.bool true)], args := ds }) (hr : ∀ t ∈ f.params.toList, Tryd.prog.readableRec t = true ∧ t < Tryd.prog.types.size) (hb : Below W.heap.size W W') :
    s.post enc Tryd.prog f false true false false W args (.bool true) W' := by
  have hW' := hW
  obtain ⟨p, q, hA, hV, rfl, hfz, hnd⟩ := hW
  rw [hv] at hV
  obtain ⟨rfl, rfl⟩ := trodVars_none hV
  refine ⟨ds, [], p ++ [], [], p ++ [], [], hW', ?_, ?_, ?_, World.keptBut_mono (fun x hx => ⟨hx, .inr (.inl hx)⟩) (hb.frame _), fun h => by cases h⟩
  · rw [hfn, hres]
    exact trodAll_mk1 (shut_bool Tryd.underlying4 true)
  · rw [hfn]
    have hlt : ∀ x ∈ p ++ [], x.block < W.heap.size := fun x hx => by simpa using hW'.lt x hx
    have := trodAll_below hb _ _ _ _ hr (fun x hx => hlt x (by simpa using hx)) hA
    simpa using this
  · rw [hfn, hv]
    exact rfl
end
end Go.Proofs.YtefmioppamdceaaDoor

/- Inspect: what the condition on the listed variables gives: the three package fractions. -/
namespace Go.Proofs.YtefmioppamdceaaDoor
open Go.ChangeShapes Go.WideShapes Go.ChangeAt Go.RowKit Go.Deep

def laidI3 {H : Type} : List (String × DataW H) := [("cocket/inspect.none", Rows.laid_cocket_inspect_none), ("cocket/inspect.one", Rows.laid_cocket_inspect_one), ("cocket/inspect.two", Rows.laid_cocket_inspect_two)]
theorem gNone : Tryd.prog.globalNamed "cocket/inspect.none" = some 0 := by kernel_rfl
theorem gOne : Tryd.prog.globalNamed "cocket/inspect.one" = some 1 := by kernel_rfl
theorem gTwo : Tryd.prog.globalNamed "cocket/inspect.two" = some 2 := by kernel_rfl
theorem tNone : (Tryd.prog.globals[0]?).map (·.type) = some 23 := by kernel_rfl
theorem tOne : (Tryd.prog.globals[1]?).map (·.type) = some 23 := by kernel_rfl
theorem tTwo : (Tryd.prog.globals[2]?).map (·.type) = some 23 := by kernel_rfl
theorem u8_of {x : Int} (h : (Lit.int .u8 x).wf = true) : 0 ≤ x ∧ x ≤ 255 := by
  simp only [Lit.wf, Bool.and_eq_true, decide_eq_true_eq] at h
  have h1 : IntKind.u8.min = 0 := by decide
  have h2 : IntKind.u8.max = 255 := by decide
  omega
/-- The door's own heap meets the condition. -/
theorem door_met (os : Os) (args : Array Value) : laidMetH Tryd.prog laidI3 ((World.doorLaid Tryd.prog 400 os).forCall (fun _ _ => 0) ⟨#[], args, []⟩).memory :=
  laidMetH_of_parts3 (fuel := 8) (laidMet_of_run' 8 (by kernel_rfl) (by kernel_rfl)) (by kernel_rfl) (by kernel_rfl)
theorem two_cells2 {H : Type} {enc : TypeId × Value → H} {w : World} {base : Nat} {spare : Nat → Bool} {held : Bool} {P : Program} {t : TypeId} {fuel : Nat} {cs : List Value} {x : DataW H × List MemPlace} {f0 f1 : Field} (hs : P.underlying t = some (.struct #[f0, f1])) (hone : oneCellFields P #[f0, f1] = true) (hC : P.cellsOf t = 2)
    (h : DataW.trod enc P w base spare held fuel t cs = some x) :
    ∃ c0 c1 y0 y1 n, cs = [c0, c1] ∧ DataW.trod enc P w base spare held n f0.type [c0] = some y0 ∧ DataW.trod enc P w base spare held n f1.type [c1] = some y1 ∧ x.1 = .agg [y0.1, y1.1] := by
  obtain ⟨xs, n, _, hx, hcl, hlen, hg⟩ := DataW.trod_struct hs h
  have h5 : cs.length = 2 := hcl.trans hC
  match cs, h5 with
  | [c0, c1], _ =>
    have hxl : xs.length = 2 := hlen
    match xs, hxl with
    | [y0, y1], _ =>
      obtain ⟨o0, k0⟩ := hone_of hone 0 f0 rfl
      obtain ⟨o1, k1⟩ := hone_of hone 1 f1 rfl
      exact ⟨c0, c1, y0, y1, n, rfl, by simpa [o0, k0] using hg 0 f0 rfl, by simpa [o1, k1] using hg 1 f1 rfl, by rw [hx]; rfl⟩
theorem ratio_cells {H : Type} {enc : TypeId × Value → H} {W : World} {n : Nat} {cs : List Value} {x y : Int} {ps : List MemPlace} {held : Bool} {sp : Nat → Bool} {base : Nat}
    (h : DataW.trod enc Tryd.prog W base sp held n 23 cs = some (.agg [.lit (.int .i64 x), .lit (.int .i64 y)], ps)) : cs = [.int .i64 x, .int .i64 y] := by
  obtain ⟨c0, c1, y0, y1, n, hc, g0, g1, hx⟩ := two_cells2 Tryd.underlying23 (by kernel_rfl) (by kernel_rfl) h
  obtain ⟨k0, a0, b0, -⟩ := DataW.trod_int Tryd.underlying3 g0
  obtain ⟨k1, a1, b1, -⟩ := DataW.trod_int Tryd.underlying3 g1
  rw [b0, b1] at hx
  simp only [DataW.agg.injEq, List.cons.injEq, DataW.lit.injEq, Lit.int.injEq, true_and, and_true] at hx
  simp only [List.cons.injEq, and_true] at a0 a1
  rw [hc, a0, a1, hx.1, hx.2]
theorem glob_of_laid {W : World} (h : laidMetH Tryd.prog laidI3 W) : Glob W := by
  rw [MakeChecks.laidMetH_plain _ _ _ (by kernel_rfl)] at h
  obtain ⟨ps, ⟨g0, t0, cs0, f0, p0, q0, hg0, ht0, hv0, hd0, ⟨g1, t1, cs1, f1, p1, q1, hg1, ht1, hv1, hd1, ⟨g2, t2, cs2, f2, p2, q2, hg2, ht2, hv2, hd2, _, _⟩, _⟩, _⟩, _, _⟩ := h
  obtain rfl := Option.some.inj (gNone.symm.trans hg0)
  obtain rfl := Option.some.inj (gOne.symm.trans hg1)
  obtain rfl := Option.some.inj (gTwo.symm.trans hg2)
  obtain rfl := Option.some.inj (tNone.symm.trans ht0)
  obtain rfl := Option.some.inj (tOne.symm.trans ht1)
  obtain rfl := Option.some.inj (tTwo.symm.trans ht2)
  have e0 := ratio_cells hd0
  have e1 := ratio_cells hd1
  have e2 := ratio_cells hd2
  have k0 := fun k => World.var?_cell hg0 hv0 k
  have k1 := fun k => World.var?_cell hg1 hv1 k
  have k2 := fun k => World.var?_cell hg2 hv2 k
  have a : ∀ {W : World} {g k : Nat} {cs : Array Value} {x y : Int} (_ : ∀ k, W.cell? ⟨g, k, none⟩ = cs[k]?) (_ : cs.toList = [.int .i64 x, .int .i64 y]), W.cell? ⟨g, 0, none⟩ = some (.int .i64 x) ∧ W.cell? ⟨g, 1, none⟩ = some (.int .i64 y) := by
    intro W g k cs x y h1 h2
    obtain ⟨l⟩ := cs
    simp only at h2
    subst h2
    exact ⟨h1 0, h1 1⟩
  obtain ⟨u0, u1⟩ := a (k := 0) k0 e0
  obtain ⟨v0, v1⟩ := a (k := 0) k1 e1
  obtain ⟨x0, x1⟩ := a (k := 0) k2 e2
  obtain ⟨b, off, hb, hlt⟩ := cell_plain x0
  simp only [Addr.mk.injEq] at hb
  exact ⟨u0, u1, v0, v1, x0, x1, by omega⟩
end Go.Proofs.YtefmioppamdceaaDoor

/- The walk of InspectDresher: the worth is the quotient of binomials. -/
namespace Go.Proofs.YtefmioppamdceaaDoor
--@optional
open Go.RowKit Go.Shelf

def psum (d : Nat) : Nat → Nat
  | 0 => 0
  | i + 1 => psum d i + choR d i
theorem psum_eq (d : Nat) : ∀ l, psum d (l + 1) = sumR d l
  | 0 => by simp [psum, sumR, choR_zero]
  | l + 1 => by rw [psum, psum_eq d l, sumR]
theorem psum_bd (d : Nat) (hd : d ≤ 14) : ∀ i, psum d i ≤ 16384 * i
  | 0 => by simp [psum]
  | i + 1 => by rw [psum]; have := choR_bd d i hd; have := psum_bd d hd i; omega
theorem valR_div {d l : Nat} (hd : 0 < d) : valR d l = Rat.divInt (choR (d - 1) l : Int) (sumR d l : Int) := by
  obtain ⟨e, rfl⟩ : ∃ e, d = e + 1 := ⟨d - 1, by omega⟩
  rw [valR_eq, Rat.divInt_eq_div]; rfl
theorem cmpQ_self (a : Rat) : cmpQ a a = 0 := by
  unfold cmpQ
  rw [if_neg Rat.lt_irrefl, if_neg Rat.lt_irrefl]
theorem dresV_ok {d l : Nat} (hd : d ≤ 14) (hl : l ≤ 14) : dresV d l = .tuple #[.agg #[.int .i64 (valR d l).num, .int .i64 (valR d l).den], .int .i64 0] := by
  unfold dresV
  rw [if_pos (by unfold DayOk; omega), show ((d : Int)).toNat = d by omega, show ((l : Int)).toNat = l by omega]
  rfl
theorem RBd.fine {q : Rat} (h : RBd q 9223372036854775807) : Fine q := by
  have h1 := h.num
  have h2 := h.den
  have h3 := many_i64 (n := q.den) (by have := q.den_pos; omega)
  rw [Int.natAbs_natCast] at h3
  refine ⟨?_, by omega⟩
  have h4 := many_i64 (n := -(q.num.natAbs : Int)) (by omega)
  rw [Int.natAbs_neg, Int.natAbs_natCast] at h4
  omega
theorem RBd.mono {q : Rat} {A B : Int} (h : RBd q A) (hAB : A ≤ B) : RBd q B := ⟨by have := h.num; omega, by have := h.den; omega⟩
set_option maxRecDepth 100000 in
set_option maxHeartbeats 2000000 in
theorem inspectDresher_law (W : World) (hG : Glob W) (a b : Int) (ha : 0 ≤ a ∧ a ≤ 255) (hb : 0 ≤ b ∧ b ≤ 255) :
    Calls Tryd.prog 3 #[.int .u8 a, .int .u8 b] W (TrueRes W) := by
  obtain ⟨D, hD⟩ : ∃ D : Nat, a % 15 = (D : Int) := ⟨(a % 15).toNat, by omega⟩
  obtain ⟨L, hL⟩ : ∃ L : Nat, b % 15 = (L : Int) := ⟨(b % 15).toNat, by omega⟩
  have hD14 : D ≤ 14 := by omega
  have hL14 : L ≤ 14 := by omega
  have hdc := fun W2 (h : Glob W2) => dresher_calls W2 D L h (by omega) (by omega)
  rw [dresV_ok hD14 hL14] at hdc
  have hvb := valR_bd D L hD14
  have hden : 0 < ((valR D L).den : Int) := by have := (valR D L).den_pos; omega
  have HQ : Hid (D ≤ L → valR D L = 0) := Lib.hid (fun h => valR_none (.inr h))
  obtain ⟨vn, hvn⟩ : ∃ t, t = (valR D L).num := ⟨_, rfl⟩
  obtain ⟨vd, hvd⟩ : ∃ t : Int, t = ((valR D L).den : Int) := ⟨_, rfl⟩
  rw [← hvn, ← hvd] at hdc
  rw [← hvd] at hden
  have HV := Lib.hid (And.intro hvn hvd)
  have HB := Lib.hid hvb
  clear hvn hvd hvb
  have hac := fun W2 (h : Glob W2) => alive_calls W2 h
  have hq0 := eq_ratio 0 1
  have HGl := Lib.hid hG
  clear hG
  go_enter Tryd.func3, Tryd.ntmps3
  go_wp2_with fail
  refine (hdc W HGl.out).mono ?_
  rintro e w2 ⟨rfl, hx2⟩
  have hdz : ¬ vd < 1 := by omega
  clear hdc
  by_cases hLD : D ≤ L
  · have hLDz : (D : Int) ≤ (L : Int) := by omega
    have e0 := HQ.out hLD
    have e1 : vn = 0 := by rw [HV.out.1, e0]; rfl
    have e2 : vd = 1 := by rw [HV.out.2, e0]; rfl
    subst e1
    subst e2
    go_wp2_with fail
    refine (hac _ ((HGl.out.ext hx2).ext (by repeat (first | exact Ext.refl _ | assumption | refine Ext.alloc ?_ _ | refine Ext.drewN ?_ _ | refine Ext.drew ?_)))).mono ?_
    rintro e w3 ⟨rfl, hx3⟩
    go_wp2_with fail
    go_ret
    exact ⟨rfl, (hx2.alloc _).trans hx3⟩
  · have hLDz : ¬ (D : Int) ≤ (L : Int) := by omega
    have hsb : sumR D L ≤ 16384 := by
      have h := sumR_le D L
      have h3 : 2 ^ D ≤ 2 ^ 14 := Nat.pow_le_pow_right (by decide) hD14
      have h5 : (2 : Nat) ^ 14 = 16384 := rfl
      omega
    go_wp2_with fail
    obtain ⟨w3, hw3⟩ : ∃ w3, w3 = w2.alloc (Obj.cells #[.int .i64 vn, .int .i64 vd] 23) := ⟨_, rfl⟩
    obtain ⟨A, hA⟩ : ∃ A, A = w2.heap.size := ⟨_, rfl⟩
    have hx23 : Ext w2 w3 := by rw [hw3]; exact (by repeat (first | exact Ext.refl _ | assumption | refine Ext.alloc ?_ _ | refine Ext.drewN ?_ _ | refine Ext.drew ?_))
    have a0 : w3.cell? ⟨A, 0, none⟩ = some (.int .i64 vn) := by rw [hw3, hA]; simp [go_sem]
    have a1 : w3.cell? ⟨A, 1, none⟩ = some (.int .i64 vd) := by rw [hw3, hA]; simp [go_sem]
    have hAl : A < w3.heap.size := by rw [hw3, hA]; simp
    rw [← hw3, ← hA]
    have hx03 := hx2.trans hx23
    clear hw3 hA hx2 hx23
    go_loopw [9, 10] (fun sv iv wr => ∃ i : Nat, i ≤ L + 1 ∧ iv = .int .i64 i ∧ sv = .int .i64 (psum D i : Nat) ∧ Ext w3 wr) (fun _ iv _ => L + 2 - (intOf iv).toNat)
    case atStart => exact ⟨0, by omega, rfl, rfl, Ext.refl _⟩
    case round =>
      obtain ⟨i, hi, rfl, rfl, hx⟩ := hrel
      by_cases hlt : i ≤ L
      · have hcc := fun W2 => choose_calls W2 D i (by omega) hD14
        have hb1 := choR_bd D i hD14
        have hps := psum_bd D hD14 i
        have hw1 : IntKind.i64.wrap (((psum D i : Nat) : Int) + ((choR D i : Nat) : Int)) = ((psum D i : Nat) : Int) + ((choR D i : Nat) : Int) := by rw [IntKind.wrap_i64]; omega
        have hlz : (i : Int) ≤ (L : Int) := by omega
        go_wp2_with fail
        refine (hcc _).mono ?_
        rintro e w4 ⟨rfl, hx4⟩
        clear hcc
        go_wp2_with fail
        exact ⟨⟨i + 1, by omega, by go_num, by rw [psum]; go_num, hx.trans hx4⟩, by simp only [intOf]; omega⟩
      · obtain rfl : i = L + 1 := by omega
        rw [psum_eq]
        have hlz : ¬ ((L : Int) + 1) ≤ (L : Int) := by omega
        have a0 := (hx.cell (p := ⟨A, 0, none⟩) hAl).trans a0
        have a1 := (hx.cell (p := ⟨A, 1, none⟩) hAl).trans a1
        have hAl := Nat.lt_of_lt_of_le hAl hx.size
        have hsp := sumR_pos D L
        have hvb := HB.out.num
        have hvd := HB.out.den
        rw [← HV.out.1] at hvb
        rw [← HV.out.2] at hvd
        have hfr := fun W2 => fromRatio_calls W2 vn vd (by omega) (by omega) (by omega)
        have hq1 : Rat.divInt vn vd = valR D L := by rw [HV.out.1, HV.out.2, Rat.num_divInt_den]
        rw [hq1] at hfr
        have hcc := fun W2 => choose_calls W2 (D - 1) L (by omega) (by omega)
        rw [show ((D - 1 : Nat) : Int) = (D : Int) - 1 by omega] at hcc
        have hcb := choR_bd (D - 1) L (by omega)
        have hfc := fun W2 => frac_calls W2 (choR (D - 1) L : Nat) (sumR D L : Nat) (by omega) (by omega) (by omega)
        rw [← valR_div (d := D) (l := L) (by omega)] at hfc
        have hfine : Fine (valR D L) := (HB.out.mono (by omega)).fine
        have hx0r := hx03.trans hx
        clear hq1
        go_wp2_with fail
        refine (hfr _).mono ?_
        rintro e w4 ⟨nb, zo, za, zc, mb, yo, ya, yc, rfl, hN, hbk, hbm, hx4⟩
        clear hfr
        go_wp2_with fail
        refine (hcc _).mono ?_
        rintro e w5 ⟨rfl, hx5⟩
        clear hcc
        go_wp2_with fail
        refine (hfc _).mono ?_
        rintro e w6 ⟨nb2, zo2, za2, zc2, mb2, yo2, ya2, yc2, rfl, hN2, hbk2, hbm2, hx6⟩
        clear hfc
        go_wp2_with fail
        refine (cmp_calls w6 nb mb nb2 mb2 zo yo zo2 yo2 za zc ya yc za2 zc2 ya2 yc2 _ _ (hN.ext (hx5.trans hx6)) hN2 hfine hfine).mono ?_
        rintro e w7 ⟨rfl, hx7⟩
        rw [cmpQ_self]
        have hx07 := hx0r.trans (((hx4.trans hx5).trans hx6).trans hx7)
        go_wp2_with fail
        refine (hac _ (HGl.out.ext hx07)).mono ?_
        rintro e w8 ⟨rfl, hx8⟩
        go_wp2_with fail
        go_ret
        exact ⟨rfl, hx07.trans hx8⟩
end Go.Proofs.YtefmioppamdceaaDoor
