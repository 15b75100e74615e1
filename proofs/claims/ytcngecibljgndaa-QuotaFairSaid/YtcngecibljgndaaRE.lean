/- The specification's Contest. -/
import Derived.Test.YtcngecibljgndaaRC
import Derived.Test.YtcngecibljgndaaRD
namespace Go.Proofs.Ytcngecibljgndaa
open Go.RowKit Go.Shelf

set_option maxRecDepth 100000 in
set_option maxHeartbeats 4000000 in
theorem refContest_calls (w : World) (E a b : Int) (hE : -9223372036854775808 ≤ E ∧ E ≤ 9223372036854775807) :
    Calls Try.prog 37 #[.int .i64 E, .int .i64 a, .int .i64 b] w (Parted w (contestP E a b)) := by
  go_enter Try.func37, Try.ntmps37
  go_wp2_with fail
  obtain ⟨R, hR⟩ : ∃ R, R = w.heap.size := ⟨_, rfl⟩
  have hs1 := Spot.new w 26 (.slice none 0 0) (.int .i64 0)
  have hx1 : Ext w (w.alloc (.cells #[.slice none 0 0, .int .i64 0] 26)) := (by repeat (first | exact Ext.refl _ | assumption | refine Ext.alloc ?_ _ | refine Ext.drewN ?_ _ | refine Ext.drew ?_))
  have hw1 : (w.alloc (.cells #[.slice none 0 0, .int .i64 0] 26)).heap.size = w.heap.size + 1 := by simp
  generalize (w.alloc (.cells #[.slice none 0 0, .int .i64 0] 26)) = w1 at *
  rw [← hR] at hs1 hw1 ⊢
  have hRw : w.heap.size ≤ R := by omega
  clear hR
  obtain ⟨hx2, hI2⟩ := two_ints w1 a b 3
  rw [hw1] at hI2
  clear hw1
  generalize (w1.alloc (.cells #[.int .i64 a, .int .i64 b] 3)) = w2 at *
  refine (refProblem_calls w2 E _ 2 [a, b] hI2).mono ?_
  rintro e w3 ⟨rfl, hx3⟩
  have hx03 := (hx1.trans hx2).trans hx3
  have hs3 := (hs1.ext hx2).ext hx3
  cases hp : probB E [a, b] with
  | false =>
    have HN := Lib.hid (show contestP E a b = none by simp [contestP, hp])
    clear hp
    have hsb := hs3
    obtain ⟨c0, hc0⟩ := Option.isSome_iff_exists.1 hsb.some0
    obtain ⟨c1, hc1⟩ := Option.isSome_iff_exists.1 hsb.some1
    have hf0 := hsb.free0
    have hf1 := hsb.free1
    go_wp2_with fail
    obtain ⟨q0, q1⟩ := hsb.put (.slice none 0 0) (.int .i64 0)
    refine bodyPost_ret (v := .tuple #[.agg #[.slice none 0 0, .int .i64 0], .int .i64 2]) (by simp [results, Try.results37, go_sem, q0, q1]) rfl ?_
    exact .inl ⟨HN.out, rfl, (hx03.setOwn _ _ hRw).setOwn _ _ hRw⟩
  | true =>
    obtain ⟨p1, p2, p3, p4, p5, p6, p7⟩ := prob_two ((probB_true E [a, b]).1 hp)
    have HS := Lib.hid (show contestP E a b = some (lowP ([contP E a b, 2 * E - contP E a b], 2)) by simp [contestP, hp])
    clear hp
    go_wp2_with fail
    refine (frac_calls w3 E 1 (by omega) (by omega) (by omega)).mono ?_
    rintro e w4 ⟨nb1, zo1, A1, zc1, mb1, yo1, B1, yc1, rfl, hR1, hbk1, hbm1, hx4⟩
    go_wp2_with fail
    refine (frac_calls w4 a 1 (by omega) (by omega) (by omega)).mono ?_
    rintro e w5 ⟨nb2, zo2, A2, zc2, mb2, yo2, B2, yc2, rfl, hR2, hbk2, hbm2, hx5⟩
    go_wp2_with fail
    refine (frac_calls w5 b 1 (by omega) (by omega) (by omega)).mono ?_
    rintro e w6 ⟨nb3, zo3, A3, zc3, mb3, yo3, B3, yc3, rfl, hR3, hbk3, hbm3, hx6⟩
    go_wp2_with fail
    have hin := contP_in p1 p3 p5 p7
    refine (garment_calls w6 nb1 mb1 nb2 mb2 nb3 mb3 zo1 yo1 zo2 yo2 zo3 yo3 A1 zc1 B1 yc1 A2 zc2 B2 yc2 A3 zc3 B3 yc3 E a b 1 ((hR1.ext hx5).ext hx6) (hR2.ext hx6) hR3 (by omega) (by omega) (by omega) (by omega)).mono ?_
    rintro e w7 ⟨nb4, zo4, A4, zc4, mb4, yo4, B4, yc4, nb5, zo5, A5, zc5, mb5, yo5, B5, yc5, rfl, hR4, hR5, -, -, -, -, hx7⟩
    rw [Int.mul_one] at hR4 hR5
    generalize contP E a b = n at *
    have hx37 := ((hx4.trans hx5).trans hx6).trans hx7
    have hx07 := hx03.trans hx37
    have hs7 := hs3.ext hx37
    clear hR1 hR2 hR3 hbk1 hbm1 hbk2 hbm2 hbk3 hbm3 hx4 hx5 hx6 hx7 hx37
    go_wp2_with fail
    have hx8 : Ext w7 (((w7.alloc (Obj.cells #[.bool nb4, .slice zo4 A4 zc4, .bool mb4, .slice yo4 B4 yc4] 41)).alloc (Obj.cells #[.bool nb5, .slice zo5 A5 zc5, .bool mb5, .slice yo5 B5 yc5] 41)).alloc (Obj.cells #[.bool nb4, .slice zo4 A4 zc4, .bool mb4, .slice yo4 B4 yc4, .bool nb5, .slice zo5 A5 zc5, .bool mb5, .slice yo5 B5 yc5] 41)) := (by repeat (first | exact Ext.refl _ | assumption | refine Ext.alloc ?_ _ | refine Ext.drewN ?_ _ | refine Ext.drew ?_))
    have hQ : QsIn (((w7.alloc (Obj.cells #[.bool nb4, .slice zo4 A4 zc4, .bool mb4, .slice yo4 B4 yc4] 41)).alloc (Obj.cells #[.bool nb5, .slice zo5 A5 zc5, .bool mb5, .slice yo5 B5 yc5] 41)).alloc (Obj.cells #[.bool nb4, .slice zo4 A4 zc4, .bool mb4, .slice yo4 B4 yc4, .bool nb5, .slice zo5 A5 zc5, .bool mb5, .slice yo5 B5 yc5] 41)) (some ⟨w7.heap.size + 1 + 1, 0, none⟩) ([n, 2 * E - n].map fun x => Rat.divInt x 2) := by
      intro k hk
      match k, hk with
      | 0, _ => exact ⟨_, 0, nb4, zo4, A4, zc4, mb4, yo4, B4, yc4, rfl, by simp, ⟨by simp [go_sem], by simp [go_sem], by simp [go_sem], by simp [go_sem]⟩, hR4.ext hx8⟩
      | 1, _ => exact ⟨_, 0, nb5, zo5, A5, zc5, mb5, yo5, B5, yc5, rfl, by simp, ⟨by simp [go_sem], by simp [go_sem], by simp [go_sem], by simp [go_sem]⟩, hR5.ext hx8⟩
      | k + 2, hk => exact absurd hk (by simp)
    generalize (((w7.alloc (Obj.cells #[.bool nb4, .slice zo4 A4 zc4, .bool mb4, .slice yo4 B4 yc4] 41)).alloc (Obj.cells #[.bool nb5, .slice zo5 A5 zc5, .bool mb5, .slice yo5 B5 yc5] 41)).alloc (Obj.cells #[.bool nb4, .slice zo4 A4 zc4, .bool mb4, .slice yo4 B4 yc4, .bool nb5, .slice zo5 A5 zc5, .bool mb5, .slice yo5 B5 yc5] 41)) = w8 at *
    generalize w7.heap.size + 1 + 1 = B at *
    refine (qparts_calls w8 _ 2 [n, 2 * E - n] 2 hQ (by simp) (by omega) (fun k hk => ?_)).mono ?_
    · match k, hk with
      | 0, _ => simp [ith]; omega
      | 1, _ => simp [ith]; omega
      | k + 2, hk => exact absurd hk (by simp)
    rintro e w9 ⟨v, rfl, ho, hx9⟩
    have hx09 := (hx07.trans hx8).trans hx9
    have hsb := (hs7.ext hx8).ext hx9
    obtain ⟨vo, vn, vc, rfl, -⟩ := ho.shapeCap
    obtain ⟨c0, hc0⟩ := Option.isSome_iff_exists.1 hsb.some0
    obtain ⟨c1, hc1⟩ := Option.isSome_iff_exists.1 hsb.some1
    have hf0 := hsb.free0
    have hf1 := hsb.free1
    have hR8 := (hs7.ext hx8).lt
    obtain ⟨L, hL⟩ : ∃ L, L = ([n, 2 * E - n].map (· / (gcdL 2 [n, 2 * E - n] : Int))) := ⟨_, rfl⟩
    obtain ⟨D, hD⟩ : ∃ D : Int, D = 2 / gcdL 2 [n, 2 * E - n] := ⟨_, rfl⟩
    rw [← hL] at ho
    rw [← hD]
    have HLD : Hid (lowP ([n, 2 * E - n], 2) = (L, D)) := Lib.hid (by rw [hL, hD]; rfl)
    clear hL hD
    go_wp2_with fail
    obtain ⟨q0, q1⟩ := hsb.put (.slice vo vn vc) (.int .i64 D)
    refine bodyPost_ret (v := .tuple #[.agg #[.slice vo vn vc, .int .i64 D], .int .i64 0]) (by simp [results, Try.results37, go_sem, q0, q1]) rfl ?_
    have ho2 := (ho.keep (grownBy_setCell _ ⟨R, 0, none⟩ (.slice vo vn vc)) (by right; intro e; have := (ho.lt R e).1; omega)).keep (grownBy_setCell _ ⟨R, 1, none⟩ (.int .i64 D)) (by right; intro e; have := (ho.lt R e).1; omega)
    exact .inr ⟨(L, D), .slice vo vn vc, by rw [HS.out, HLD.out], rfl, ho2.rebase (hx07.trans hx8).size, (hx09.setOwn _ _ hRw).setOwn _ _ hRw⟩
end Go.Proofs.Ytcngecibljgndaa
