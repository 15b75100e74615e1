/- The specification's Over, where nothing is left over; lowest terms; fractions. -/
import Derived.Test.YtcngecibljgndaaMBF
namespace Go.Proofs.Ytcngecibljgndaa
open Go.RowKit Go.Shelf

/-- Two whole numbers are handed back. -/
def OvR (w : World) (z : Int) (e : Ending) (w' : World) : Prop := ∃ nb zo A zc mb mo M mc, e = .returned (.tuple #[.agg #[.bool nb, .slice zo A zc], .agg #[.bool mb, .slice mo M mc]]) ∧ Num w' z nb zo A ∧ (∀ a, zo = some a → w.heap.size ≤ a.block) ∧ Ext w w'
theorem Spot.put2 {w : World} {b c : Nat} (h : Spot w b) (k : Spot w c) (hbc : b ≠ c) (u v x y : Value) :
    ((((w.setCell ⟨b, 0, none⟩ u).setCell ⟨b, 1, none⟩ v).setCell ⟨c, 0, none⟩ x).setCell ⟨c, 1, none⟩ y).cell? ⟨b, 0, none⟩ = some u ∧ ((((w.setCell ⟨b, 0, none⟩ u).setCell ⟨b, 1, none⟩ v).setCell ⟨c, 0, none⟩ x).setCell ⟨c, 1, none⟩ y).cell? ⟨b, 1, none⟩ = some v ∧
    ((((w.setCell ⟨b, 0, none⟩ u).setCell ⟨b, 1, none⟩ v).setCell ⟨c, 0, none⟩ x).setCell ⟨c, 1, none⟩ y).cell? ⟨c, 0, none⟩ = some x ∧ ((((w.setCell ⟨b, 0, none⟩ u).setCell ⟨b, 1, none⟩ v).setCell ⟨c, 0, none⟩ x).setCell ⟨c, 1, none⟩ y).cell? ⟨c, 1, none⟩ = some y := by
  have h1 := h.put u v
  have k' : Spot ((w.setCell ⟨b, 0, none⟩ u).setCell ⟨b, 1, none⟩ v) c := ⟨by simpa [World.setCell] using k.lt, by rw [cell_far _ _ _ _ _ _ hbc.symm]; exact k.some0, by rw [cell_far _ _ _ _ _ _ hbc.symm]; exact k.some1, by rw [World.frozen?_setCell, World.frozen?_setCell]; exact k.free0, by rw [World.frozen?_setCell, World.frozen?_setCell]; exact k.free1⟩
  have k1 := k'.put x y
  exact ⟨by rw [cell_far _ _ _ _ _ _ hbc]; exact h1.1, by rw [cell_far _ _ _ _ _ _ hbc]; exact h1.2, k1.1, k1.2⟩
set_option maxRecDepth 100000 in
set_option maxHeartbeats 2000000 in
theorem over_calls (w : World) (nb mb : Bool) (zo yo : Option Addr) (A zc B yc : Nat) (z y : Int) (hZ : Num w z nb zo A) (hY : Num w y mb yo B) (hA : A ≤ 5000) (hB : B ≤ 5000) (hy : 0 < y) (hd : y ∣ z) :
    Calls Try.prog 114 #[.agg #[.bool nb, .slice zo A zc], .agg #[.bool mb, .slice yo B yc]] w (OvR w (z / y)) := by
  have hn := hZ.neg
  have hqm : z.natAbs % y.natAbs = 0 := Nat.mod_eq_zero_of_dvd (Int.natAbs_dvd_natAbs.2 hd)
  have hdiv := fun W (h : Ext w W) => divD_calls W zo yo zc yc A B z.natAbs y.natAbs (hZ.digs.ext h) (hY.digs.ext h) hA hB (by omega)
  rw [hqm] at hdiv
  have hQ : Hid (z / y = if nb = true then -((z.natAbs / y.natAbs : Nat) : Int) else ((z.natAbs / y.natAbs : Nat) : Int)) := Lib.hid (by
    rw [hn]
    obtain ⟨c, rfl⟩ := hd
    rw [Int.mul_ediv_cancel_left _ (by omega), Int.natAbs_mul, Nat.mul_div_cancel_left _ (by omega)]
    by_cases h1 : y * c < 0
    · have hc : c < 0 := by
        rcases Int.lt_or_le c 0 with h | h
        · exact h
        · have := Int.mul_nonneg (Int.le_of_lt hy) h; omega
      simp [h1]; omega
    · have hc : 0 ≤ c := by
        rcases Int.lt_or_le c 0 with h | h
        · have := Int.mul_neg_of_pos_of_neg hy h; omega
        · exact h
      simp [h1]; omega)
  have hql : many (z.natAbs / y.natAbs) ≤ A := by
    rw [← hZ.digs.many]
    exact many_le (Nat.lt_of_le_of_lt (Nat.div_le_self _ _) (lt_many _))
  clear hn hqm hd hy
  cases nb with
  | false =>
    go_enter Try.func114, Try.ntmps114
    go_wp2_with fail
    have hx1 : Ext w ((((w.alloc (.cells #[.bool false, .slice zo A zc] 39)).alloc (.cells #[.bool mb, .slice yo B yc] 39)).alloc (.cells #[.bool false, .slice none 0 0] 39)).alloc (.cells #[.bool false, .slice none 0 0] 39)) := (by repeat (first | exact Ext.refl _ | assumption | refine Ext.alloc ?_ _ | refine Ext.drewN ?_ _ | refine Ext.drew ?_))
    have hb1 : NBox ((((w.alloc (.cells #[.bool false, .slice zo A zc] 39)).alloc (.cells #[.bool mb, .slice yo B yc] 39)).alloc (.cells #[.bool false, .slice none 0 0] 39)).alloc (.cells #[.bool false, .slice none 0 0] 39)) w.heap.size (.bool false) (.slice zo A zc) := ⟨by simp [go_sem], by simp [go_sem], by first | (simp; done) | (simp; omega)⟩
    have hb2 : NBox ((((w.alloc (.cells #[.bool false, .slice zo A zc] 39)).alloc (.cells #[.bool mb, .slice yo B yc] 39)).alloc (.cells #[.bool false, .slice none 0 0] 39)).alloc (.cells #[.bool false, .slice none 0 0] 39)) (w.heap.size + 1) (.bool mb) (.slice yo B yc) := ⟨by simp [go_sem], by simp [go_sem], by first | (simp; done) | (simp; omega)⟩
    have hs1 : Spot ((((w.alloc (.cells #[.bool false, .slice zo A zc] 39)).alloc (.cells #[.bool mb, .slice yo B yc] 39)).alloc (.cells #[.bool false, .slice none 0 0] 39)).alloc (.cells #[.bool false, .slice none 0 0] 39)) (w.heap.size + 1 + 1) := ⟨by simp, by simp [go_sem], by simp [go_sem], by simp [go_sem], by simp [go_sem]⟩
    have hs2 : Spot ((((w.alloc (.cells #[.bool false, .slice zo A zc] 39)).alloc (.cells #[.bool mb, .slice yo B yc] 39)).alloc (.cells #[.bool false, .slice none 0 0] 39)).alloc (.cells #[.bool false, .slice none 0 0] 39)) (w.heap.size + 1 + 1 + 1) := ⟨by simp, by simp [go_sem], by simp [go_sem], by simp [go_sem], by simp [go_sem]⟩
    generalize ((((w.alloc (.cells #[.bool false, .slice zo A zc] 39)).alloc (.cells #[.bool mb, .slice yo B yc] 39)).alloc (.cells #[.bool false, .slice none 0 0] 39)).alloc (.cells #[.bool false, .slice none 0 0] 39)) = w1 at *
    obtain ⟨R, hR⟩ : ∃ R, R = w.heap.size := ⟨_, rfl⟩
    rw [← hR] at hb1 hb2 hs1 hs2 ⊢
    have hRw : w.heap.size ≤ R := by omega
    clear hR
    refine (hdiv w1 hx1).mono ?_
    rintro e w2 ⟨v, u, rfl, hov, hou, hx2⟩
    obtain ⟨qo, qc, rfl, hQI, -⟩ := hov.intsShape
    obtain ⟨ro, rc, rfl, hRI, -⟩ := hou.intsShape
    obtain ⟨e0, e1, e2⟩ := hb1.ext hx2
    have hx02 := hx1.trans hx2
    have hw1 := fun W (h : Ext w2 W) => whole_digs W false qo qc (z.natAbs / y.natAbs) _ (z / y) ⟨rfl, hQI.ext h⟩ (by rw [digs_length]; omega) hQ.out
    have hw2 := fun W (h : Ext w2 W) => whole_digs W false ro rc 0 _ 0 ⟨rfl, hRI.ext h⟩ (by rw [digs_length, many_zero]; omega) (by simp)
    clear hdiv hov hou
    obtain ⟨QA, hQA⟩ : ∃ QA, (digs (z.natAbs / y.natAbs)).length = QA := ⟨_, rfl⟩
    obtain ⟨RA, hRA⟩ : ∃ RA, (digs 0).length = RA := ⟨_, rfl⟩
    rw [hQA] at hw1 ⊢
    rw [hRA] at hw2 ⊢
    clear hQA hRA
    go_wp2_with fail
    refine (hw1 _ (Ext.refl _)).mono ?_
    rintro e w3 ⟨nr, oo, OA, oc, rfl, hN, hbk, hx3⟩
    go_wp2_with fail
    refine (hw2 _ hx3).mono ?_
    rintro e w4 ⟨mr, po, PA, pc, rfl, hM, hbm, hx4⟩
    have hx34 := hx3.trans hx4
    have hx24 := hx2.trans hx34
    obtain ⟨c0, hc0⟩ := Option.isSome_iff_exists.1 (hs1.ext hx24).some0
    obtain ⟨c1, hc1⟩ := Option.isSome_iff_exists.1 (hs1.ext hx24).some1
    have hf0 := (hs1.ext hx24).free0
    have hf1 := (hs1.ext hx24).free1
    obtain ⟨c2, hc2⟩ := Option.isSome_iff_exists.1 (hs2.ext hx24).some0
    obtain ⟨c3, hc3⟩ := Option.isSome_iff_exists.1 (hs2.ext hx24).some1
    have hf2 := (hs2.ext hx24).free0
    have hf3 := (hs2.ext hx24).free1
    go_wp2_with fail
    obtain ⟨r0, r1, r2, r3⟩ := (hs1.ext hx24).put2 (hs2.ext hx24) (by omega) (.bool nr) (.slice oo OA oc) (.bool mr) (.slice po PA pc)
    refine bodyPost_ret (v := .tuple #[.agg #[.bool nr, .slice oo OA oc], .agg #[.bool mr, .slice po PA pc]]) (by simp [results, Try.results114, go_sem, r0, r1, r2, r3]) rfl ?_
    have hsz := hx2.size
    have hsz1 := hx1.size
    have hlt := hs2.lt
    refine ⟨nr, oo, OA, oc, _, _, _, _, rfl, ((hN.ext hx4).put (fun a ha e => ?_)).put (fun a ha e => ?_), fun a ha => ?_, ?_⟩
    · have := hbk a ha; omega
    · have := hbk a ha; omega
    · have := hbk a ha; omega
    · exact ((((hx1.trans hx24).setOwn _ _ (by simp; omega)).setOwn _ _ (by simp; omega)).setOwn _ _ (by simp; omega)).setOwn _ _ (by simp; omega)
  | true =>
    go_enter Try.func114, Try.ntmps114
    go_wp2_with fail
    have hx1 : Ext w ((((w.alloc (.cells #[.bool true, .slice zo A zc] 39)).alloc (.cells #[.bool mb, .slice yo B yc] 39)).alloc (.cells #[.bool false, .slice none 0 0] 39)).alloc (.cells #[.bool false, .slice none 0 0] 39)) := (by repeat (first | exact Ext.refl _ | assumption | refine Ext.alloc ?_ _ | refine Ext.drewN ?_ _ | refine Ext.drew ?_))
    have hb1 : NBox ((((w.alloc (.cells #[.bool true, .slice zo A zc] 39)).alloc (.cells #[.bool mb, .slice yo B yc] 39)).alloc (.cells #[.bool false, .slice none 0 0] 39)).alloc (.cells #[.bool false, .slice none 0 0] 39)) w.heap.size (.bool true) (.slice zo A zc) := ⟨by simp [go_sem], by simp [go_sem], by first | (simp; done) | (simp; omega)⟩
    have hb2 : NBox ((((w.alloc (.cells #[.bool true, .slice zo A zc] 39)).alloc (.cells #[.bool mb, .slice yo B yc] 39)).alloc (.cells #[.bool false, .slice none 0 0] 39)).alloc (.cells #[.bool false, .slice none 0 0] 39)) (w.heap.size + 1) (.bool mb) (.slice yo B yc) := ⟨by simp [go_sem], by simp [go_sem], by first | (simp; done) | (simp; omega)⟩
    have hs1 : Spot ((((w.alloc (.cells #[.bool true, .slice zo A zc] 39)).alloc (.cells #[.bool mb, .slice yo B yc] 39)).alloc (.cells #[.bool false, .slice none 0 0] 39)).alloc (.cells #[.bool false, .slice none 0 0] 39)) (w.heap.size + 1 + 1) := ⟨by simp, by simp [go_sem], by simp [go_sem], by simp [go_sem], by simp [go_sem]⟩
    have hs2 : Spot ((((w.alloc (.cells #[.bool true, .slice zo A zc] 39)).alloc (.cells #[.bool mb, .slice yo B yc] 39)).alloc (.cells #[.bool false, .slice none 0 0] 39)).alloc (.cells #[.bool false, .slice none 0 0] 39)) (w.heap.size + 1 + 1 + 1) := ⟨by simp, by simp [go_sem], by simp [go_sem], by simp [go_sem], by simp [go_sem]⟩
    generalize ((((w.alloc (.cells #[.bool true, .slice zo A zc] 39)).alloc (.cells #[.bool mb, .slice yo B yc] 39)).alloc (.cells #[.bool false, .slice none 0 0] 39)).alloc (.cells #[.bool false, .slice none 0 0] 39)) = w1 at *
    obtain ⟨R, hR⟩ : ∃ R, R = w.heap.size := ⟨_, rfl⟩
    rw [← hR] at hb1 hb2 hs1 hs2 ⊢
    have hRw : w.heap.size ≤ R := by omega
    clear hR
    refine (hdiv w1 hx1).mono ?_
    rintro e w2 ⟨v, u, rfl, hov, hou, hx2⟩
    obtain ⟨qo, qc, rfl, hQI, -⟩ := hov.intsShape
    obtain ⟨ro, rc, rfl, hRI, -⟩ := hou.intsShape
    obtain ⟨e0, e1, e2⟩ := hb1.ext hx2
    have hx02 := hx1.trans hx2
    have hw1 := fun W (h : Ext w2 W) => whole_digs W true qo qc (z.natAbs / y.natAbs) _ (z / y) ⟨rfl, hQI.ext h⟩ (by rw [digs_length]; omega) hQ.out
    clear hdiv hov hou
    obtain ⟨QA, hQA⟩ : ∃ QA, (digs (z.natAbs / y.natAbs)).length = QA := ⟨_, rfl⟩
    rw [hQA] at hw1 ⊢
    have hz0 : (digs 0).length = 0 := by rw [digs_length, many_zero]
    rw [hz0]
    clear hQA hz0
    go_wp2_with fail
    refine (hw1 _ (Ext.refl _)).mono ?_
    rintro e w4 ⟨nr, oo, OA, oc, rfl, hN, hbk, hx4⟩
    have hx24 := hx2.trans hx4
    obtain ⟨c0, hc0⟩ := Option.isSome_iff_exists.1 (hs1.ext hx24).some0
    obtain ⟨c1, hc1⟩ := Option.isSome_iff_exists.1 (hs1.ext hx24).some1
    have hf0 := (hs1.ext hx24).free0
    have hf1 := (hs1.ext hx24).free1
    obtain ⟨c2, hc2⟩ := Option.isSome_iff_exists.1 (hs2.ext hx24).some0
    obtain ⟨c3, hc3⟩ := Option.isSome_iff_exists.1 (hs2.ext hx24).some1
    have hf2 := (hs2.ext hx24).free0
    have hf3 := (hs2.ext hx24).free1
    go_wp2_with fail
    obtain ⟨r0, r1, r2, r3⟩ := (hs1.ext hx24).put2 (hs2.ext hx24) (by omega) (.bool nr) (.slice oo OA oc) (.bool false) (.slice none 0 0)
    refine bodyPost_ret (v := .tuple #[.agg #[.bool nr, .slice oo OA oc], .agg #[.bool false, .slice none 0 0]]) (by simp [results, Try.results114, go_sem, r0, r1, r2, r3]) rfl ?_
    have hsz := hx2.size
    have hsz1 := hx1.size
    have hlt := hs2.lt
    refine ⟨nr, oo, OA, oc, _, _, _, _, rfl, (hN.put (fun a ha e => ?_)).put (fun a ha e => ?_), fun a ha => ?_, ?_⟩
    · have := hbk a ha; omega
    · have := hbk a ha; omega
    · have := hbk a ha; omega
    · exact ((((hx1.trans hx24).setOwn _ _ (by simp; omega)).setOwn _ _ (by simp; omega)).setOwn _ _ (by simp; omega)).setOwn _ _ (by simp; omega)
end Go.Proofs.Ytcngecibljgndaa
