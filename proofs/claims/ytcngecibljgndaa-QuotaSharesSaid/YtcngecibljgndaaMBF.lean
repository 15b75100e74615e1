/- The specification's whole numbers of any size: Times, Plus, Minus. -/
import Derived.Test.YtcngecibljgndaaMBD
import Derived.Deep.RegionHeld3
namespace Go.Proofs.Ytcngecibljgndaa
open Go.RowKit Go.Shelf

theorem cell_far (w : World) (R b o : Nat) (u v : Value) {o' o'' : Nat} (h : b ≠ R) : ((w.setCell ⟨R, o', none⟩ u).setCell ⟨R, o'', none⟩ v).cell? ⟨b, o, none⟩ = w.cell? ⟨b, o, none⟩ := by
  rw [World.cell?_setCell_other _ _ _ _ (fun e => h (by simp only [Addr.mk.injEq] at e; exact e.1.symm)), World.cell?_setCell_other _ _ _ _ (fun e => h (by simp only [Addr.mk.injEq] at e; exact e.1.symm))]
theorem mul_lt {w : World} {zo yo : Option Addr} {A B m n : Nat} (h : DigsIn w zo m A) (k : DigsIn w yo n B) : m * n < 10000 ^ (A + B) := by
  have h1 := lt_many m
  have h2 := lt_many n
  rw [h.many] at h1
  rw [k.many] at h2
  rw [Nat.pow_add]
  exact Nat.mul_lt_mul'' h1 h2
theorem sub_many {w : World} {zo : Option Addr} {A m n : Nat} (h : DigsIn w zo m A) : many (m - n) ≤ A := by
  refine many_le ?_
  have h1 := lt_many m
  rw [h.many] at h1
  omega
theorem sign_mul {z y : Int} {nb mb : Bool} (h : nb = decide (z < 0)) (k : mb = decide (y < 0)) : z * y = if (nb != mb) = true then -(worth (digs (z.natAbs * y.natAbs))) else worth (digs (z.natAbs * y.natAbs)) := by
  rw [worth_digs, h, k, Int.natCast_mul]
  by_cases h1 : z < 0
  · have e1 : (z.natAbs : Int) = -z := by omega
    by_cases h2 : y < 0
    · have e2 : (y.natAbs : Int) = -y := by omega
      simp [h1, h2, e1, e2, Int.neg_mul_neg]
    · have e2 : (y.natAbs : Int) = y := by omega
      simp [h1, h2, e1, e2, Int.neg_mul]
  · have e1 : (z.natAbs : Int) = z := by omega
    by_cases h2 : y < 0
    · have e2 : (y.natAbs : Int) = -y := by omega
      simp [h1, h2, e1, e2, Int.mul_neg]
    · have e2 : (y.natAbs : Int) = y := by omega
      simp [h1, h2, e1, e2]
set_option maxRecDepth 100000 in
set_option maxHeartbeats 2000000 in
theorem times_calls (w : World) (nb mb : Bool) (zo yo : Option Addr) (A zc B yc : Nat) (z y : Int) (hZ : Num w z nb zo A) (hY : Num w y mb yo B) (hA : A ≤ 10000) (hB : B ≤ 10000) :
    Calls Try.prog 70 #[.agg #[.bool nb, .slice zo A zc], .agg #[.bool mb, .slice yo B yc]] w (BgR w (z * y)) := by
  go_enter Try.func70, Try.ntmps70
  go_wp2_with fail
  have hx1 : Ext w (((w.alloc (.cells #[.bool nb, .slice zo A zc] 39)).alloc (.cells #[.bool mb, .slice yo B yc] 39)).alloc (.cells #[.bool false, .slice none 0 0] 39)) := (by repeat (first | exact Ext.refl _ | assumption | refine Ext.alloc ?_ _ | refine Ext.drewN ?_ _ | refine Ext.drew ?_))
  have hb1 : NBox (((w.alloc (.cells #[.bool nb, .slice zo A zc] 39)).alloc (.cells #[.bool mb, .slice yo B yc] 39)).alloc (.cells #[.bool false, .slice none 0 0] 39)) w.heap.size (.bool nb) (.slice zo A zc) := ⟨by simp [go_sem], by simp [go_sem], by simp; omega⟩
  have hb2 : NBox (((w.alloc (.cells #[.bool nb, .slice zo A zc] 39)).alloc (.cells #[.bool mb, .slice yo B yc] 39)).alloc (.cells #[.bool false, .slice none 0 0] 39)) (w.heap.size + 1) (.bool mb) (.slice yo B yc) := ⟨by simp [go_sem], by simp [go_sem], by simp⟩
  have hs1 : Spot (((w.alloc (.cells #[.bool nb, .slice zo A zc] 39)).alloc (.cells #[.bool mb, .slice yo B yc] 39)).alloc (.cells #[.bool false, .slice none 0 0] 39)) (w.heap.size + 1 + 1) := ⟨by simp, by simp [go_sem], by simp [go_sem], by simp [go_sem], by simp [go_sem]⟩
  generalize (((w.alloc (.cells #[.bool nb, .slice zo A zc] 39)).alloc (.cells #[.bool mb, .slice yo B yc] 39)).alloc (.cells #[.bool false, .slice none 0 0] 39)) = w1 at *
  obtain ⟨R, hR⟩ : ∃ R, R = w.heap.size := ⟨_, rfl⟩
  rw [← hR] at hb1 hb2 hs1 ⊢
  have hRw : w.heap.size ≤ R := by omega
  clear hR
  have hZ1 := hZ.ext hx1
  have hY1 := hY.ext hx1
  obtain ⟨e0, e1, e2⟩ := id hb1
  obtain ⟨d0, d1, d2⟩ := id hb2
  have hsb := hs1
  obtain ⟨c0, hc0⟩ := Option.isSome_iff_exists.1 hsb.some0
  obtain ⟨c1, hc1⟩ := Option.isSome_iff_exists.1 hsb.some1
  have hf0 := hsb.free0
  have hf1 := hsb.free1
  have hlt := hsb.lt
  go_region_held3 (fun w' => (w'.cell? ⟨R, 0, none⟩ = some (.bool nb)) ∧ (w'.cell? ⟨R, 1, none⟩ = some (.slice zo A zc)) ∧ (w'.cell? ⟨R + 1, 0, none⟩ = some (.bool mb)) ∧ (w'.cell? ⟨R + 1, 1, none⟩ = some (.slice yo B yc)))
    (first | exact ⟨q0, q1, q2, q3⟩ | exact ⟨(cell_far _ _ _ _ _ _ (by omega)).trans q0, (cell_far _ _ _ _ _ _ (by omega)).trans q1, (cell_far _ _ _ _ _ _ (by omega)).trans q2, (cell_far _ _ _ _ _ _ (by omega)).trans q3⟩ | (refine ⟨?_, ?_, ?_, ?_⟩ <;> go_keep) | exact ⟨(hxk2.cell (p := ⟨R, 0, none⟩) e2).trans e0, (hxk2.cell (p := ⟨R, 1, none⟩) e2).trans e1, (hxk2.cell (p := ⟨R + 1, 0, none⟩) d2).trans d0, (hxk2.cell (p := ⟨R + 1, 1, none⟩) d2).trans d1⟩ | exact ⟨(hxk.cell (p := ⟨R, 0, none⟩) e2).trans e0, (hxk.cell (p := ⟨R, 1, none⟩) e2).trans e1, (hxk.cell (p := ⟨R + 1, 0, none⟩) d2).trans d0, (hxk.cell (p := ⟨R + 1, 1, none⟩) d2).trans d1⟩)
    ((first
      | (go_at_call 111; refine (mulD_calls _ zo yo zc yc A B z.natAbs y.natAbs (hZ1.digs.ext (Ext.refl _).drew) (hY1.digs.ext (Ext.refl _).drew) hA hB).mono ?_; rintro e w4 ⟨v, rfl, ho4, hx4⟩; obtain ⟨po, pc, rfl, hPI, -⟩ := ho4.intsShape; have hxk : Ext w1 w4 := Ext.trans (by repeat (first | exact Ext.refl _ | assumption | refine Ext.alloc ?_ _ | refine Ext.drewN ?_ _ | refine Ext.drew ?_)) hx4)
      | (go_at_call 110; refine (whole_num _ (nb != mb) po pc (digs (z.natAbs * y.natAbs)) _ (z * y) hPI (digits_digs _) rfl (by rw [digs_length]; exact Nat.le_trans (many_le (mul_lt hZ.digs hY.digs)) (by omega)) (sign_mul hZ.neg hY.neg)).mono ?_; rintro e w5 ⟨nr, oo, OA, oc, rfl, hN, hbk, hx5⟩; have hxk2 : Ext w1 w5 := hxk.trans (Ext.trans (by repeat (first | exact Ext.refl _ | assumption | refine Ext.alloc ?_ _ | refine Ext.drewN ?_ _ | refine Ext.drew ?_)) hx5); obtain ⟨g0, hg0⟩ := Option.isSome_iff_exists.1 (hs1.ext hxk2).some0; obtain ⟨g1, hg1⟩ := Option.isSome_iff_exists.1 (hs1.ext hxk2).some1; have hg2 := (hs1.ext hxk2).free0; have hg3 := (hs1.ext hxk2).free1; have q0 := (hb1.ext hxk2).c0; have q1 := (hb1.ext hxk2).c1; have q2 := (hb2.ext hxk2).c0; have q3 := (hb2.ext hxk2).c1)))
  go_wp2_with fail
  obtain ⟨r0, r1⟩ := (hs1.ext hxk2).put (.bool nr) (.slice oo OA oc)
  refine bodyPost_ret (v := .agg #[.bool nr, .slice oo OA oc]) (by simp [results, Try.results70, go_sem, r0, r1]) rfl ?_
  exact num_done (hx1.trans hxk2) (by omega) (Nat.lt_of_lt_of_le hs1.lt hxk.size) (Nat.le_trans hx1.size hxk.size) hN hbk
set_option maxRecDepth 100000 in
set_option maxHeartbeats 2000000 in
theorem plus_calls (w : World) (nb mb : Bool) (zo yo : Option Addr) (A zc B yc : Nat) (z y : Int) (hZ : Num w z nb zo A) (hY : Num w y mb yo B) (hA : A ≤ 10000) (hB : B ≤ 10000) :
    Calls Try.prog 72 #[.agg #[.bool nb, .slice zo A zc], .agg #[.bool mb, .slice yo B yc]] w (BgR w (z + y)) := by
  have hn := hZ.neg
  have hm := hY.neg
  cases hnm : (nb == mb) with
  | true =>
    have HSG : Hid (∀ l : List Int, worth l = ((z.natAbs + y.natAbs : Nat) : Int) → z + y = if nb = true then -(worth l) else worth l) := Lib.hid (fun l hl => by
      have e : nb = mb := by simpa using hnm
      rw [hl, hn]
      rw [hn, hm] at e
      by_cases h1 : z < 0
      · have : y < 0 := by simpa [h1] using e
        simp [h1]; omega
      · have : ¬ y < 0 := by simpa [h1] using e
        simp [h1]; omega)
    clear hn hm
    go_enter Try.func72, Try.ntmps72
    go_wp2_with fail
    have hx1 : Ext w (((w.alloc (.cells #[.bool nb, .slice zo A zc] 39)).alloc (.cells #[.bool mb, .slice yo B yc] 39)).alloc (.cells #[.bool false, .slice none 0 0] 39)) := (by repeat (first | exact Ext.refl _ | assumption | refine Ext.alloc ?_ _ | refine Ext.drewN ?_ _ | refine Ext.drew ?_))
    have hb1 : NBox (((w.alloc (.cells #[.bool nb, .slice zo A zc] 39)).alloc (.cells #[.bool mb, .slice yo B yc] 39)).alloc (.cells #[.bool false, .slice none 0 0] 39)) w.heap.size (.bool nb) (.slice zo A zc) := ⟨by simp [go_sem], by simp [go_sem], by simp; omega⟩
    have hb2 : NBox (((w.alloc (.cells #[.bool nb, .slice zo A zc] 39)).alloc (.cells #[.bool mb, .slice yo B yc] 39)).alloc (.cells #[.bool false, .slice none 0 0] 39)) (w.heap.size + 1) (.bool mb) (.slice yo B yc) := ⟨by simp [go_sem], by simp [go_sem], by simp⟩
    have hs1 : Spot (((w.alloc (.cells #[.bool nb, .slice zo A zc] 39)).alloc (.cells #[.bool mb, .slice yo B yc] 39)).alloc (.cells #[.bool false, .slice none 0 0] 39)) (w.heap.size + 1 + 1) := ⟨by simp, by simp [go_sem], by simp [go_sem], by simp [go_sem], by simp [go_sem]⟩
    generalize (((w.alloc (.cells #[.bool nb, .slice zo A zc] 39)).alloc (.cells #[.bool mb, .slice yo B yc] 39)).alloc (.cells #[.bool false, .slice none 0 0] 39)) = w1 at *
    obtain ⟨R, hR⟩ : ∃ R, R = w.heap.size := ⟨_, rfl⟩
    rw [← hR] at hb1 hb2 hs1 ⊢
    have hRw : w.heap.size ≤ R := by omega
    clear hR
    have hZ1 := hZ.ext hx1
    have hY1 := hY.ext hx1
    obtain ⟨e0, e1, e2⟩ := id hb1
    obtain ⟨d0, d1, d2⟩ := id hb2
    have hsb := hs1
    obtain ⟨c0, hc0⟩ := Option.isSome_iff_exists.1 hsb.some0
    obtain ⟨c1, hc1⟩ := Option.isSome_iff_exists.1 hsb.some1
    have hf0 := hsb.free0
    have hf1 := hsb.free1
    have hlt := hsb.lt
    go_region_held3 (fun w' => (w'.cell? ⟨R, 0, none⟩ = some (.bool nb)) ∧ (w'.cell? ⟨R, 1, none⟩ = some (.slice zo A zc)) ∧ (w'.cell? ⟨R + 1, 0, none⟩ = some (.bool mb)) ∧ (w'.cell? ⟨R + 1, 1, none⟩ = some (.slice yo B yc)))
      (first | exact ⟨q0, q1, q2, q3⟩ | exact ⟨(cell_far _ _ _ _ _ _ (by omega)).trans q0, (cell_far _ _ _ _ _ _ (by omega)).trans q1, (cell_far _ _ _ _ _ _ (by omega)).trans q2, (cell_far _ _ _ _ _ _ (by omega)).trans q3⟩ | (refine ⟨?_, ?_, ?_, ?_⟩ <;> go_keep) | exact ⟨(hxk2.cell (p := ⟨R, 0, none⟩) e2).trans e0, (hxk2.cell (p := ⟨R, 1, none⟩) e2).trans e1, (hxk2.cell (p := ⟨R + 1, 0, none⟩) d2).trans d0, (hxk2.cell (p := ⟨R + 1, 1, none⟩) d2).trans d1⟩ | exact ⟨(hxk.cell (p := ⟨R, 0, none⟩) e2).trans e0, (hxk.cell (p := ⟨R, 1, none⟩) e2).trans e1, (hxk.cell (p := ⟨R + 1, 0, none⟩) d2).trans d0, (hxk.cell (p := ⟨R + 1, 1, none⟩) d2).trans d1⟩)
      ((first
        | (go_at_call 115; refine (addD_calls _ zo yo zc yc A B z.natAbs y.natAbs (hZ1.digs.ext (Ext.refl _).drew) (hY1.digs.ext (Ext.refl _).drew) hA hB).mono ?_; rintro e w4 ⟨v, l5, rfl, ho4, hdg, hwo, hlen, hx4⟩; obtain ⟨po, pc, rfl, hPI, -⟩ := ho4.intsShape; have hxk : Ext w1 w4 := Ext.trans (by repeat (first | exact Ext.refl _ | assumption | refine Ext.alloc ?_ _ | refine Ext.drewN ?_ _ | refine Ext.drew ?_)) hx4)
        | (go_at_call 110; refine (whole_num _ nb po pc l5 _ (z + y) hPI hdg rfl (by omega) (HSG.out l5 hwo)).mono ?_; rintro e w5 ⟨nr, oo, OA, oc, rfl, hN, hbk, hx5⟩; have hxk2 : Ext w1 w5 := hxk.trans (Ext.trans (by repeat (first | exact Ext.refl _ | assumption | refine Ext.alloc ?_ _ | refine Ext.drewN ?_ _ | refine Ext.drew ?_)) hx5); obtain ⟨g0, hg0⟩ := Option.isSome_iff_exists.1 (hs1.ext hxk2).some0; obtain ⟨g1, hg1⟩ := Option.isSome_iff_exists.1 (hs1.ext hxk2).some1; have hg2 := (hs1.ext hxk2).free0; have hg3 := (hs1.ext hxk2).free1; have q0 := (hb1.ext hxk2).c0; have q1 := (hb1.ext hxk2).c1; have q2 := (hb2.ext hxk2).c0; have q3 := (hb2.ext hxk2).c1)))
    go_wp2_with fail
    obtain ⟨r0, r1⟩ := (hs1.ext hxk2).put (.bool nr) (.slice oo OA oc)
    refine bodyPost_ret (v := .agg #[.bool nr, .slice oo OA oc]) (by simp [results, Try.results72, go_sem, r0, r1]) rfl ?_
    exact num_done (hx1.trans hxk2) (by omega) (Nat.lt_of_lt_of_le hs1.lt hxk.size) (Nat.le_trans hx1.size hxk.size) hN hbk
  | false =>
    have hcmp := fun W (h : Ext w W) => cmpD_digs W zo yo zc yc A B z.natAbs y.natAbs (hZ.digs.ext h) (hY.digs.ext h) (by omega) (by omega)
    have e : mb = !nb := by
      cases nb <;> cases mb <;> simp at hnm ⊢
    by_cases hle : y.natAbs ≤ z.natAbs
    · have HSG : Hid (z + y = if nb = true then -(worth (digs (z.natAbs - y.natAbs))) else worth (digs (z.natAbs - y.natAbs))) := Lib.hid (by
        rw [worth_digs, hn]
        rw [hn, hm] at e
        by_cases h1 : z < 0
        · have : ¬ y < 0 := by simpa [h1] using e
          simp [h1]; omega
        · have : y < 0 := by simpa [h1] using e
          simp [h1]; omega)
      obtain ⟨c, hcc, hcb⟩ : ∃ c, cmpZ (z.natAbs : Int) (y.natAbs : Int) = c ∧ 0 ≤ c := ⟨_, rfl, by unfold cmpZ; split <;> (try split) <;> omega⟩
      rw [hcc] at hcmp
      clear hn hm e hcc
      go_enter Try.func72, Try.ntmps72
      go_wp2_with fail
      have hx1 : Ext w (((w.alloc (.cells #[.bool nb, .slice zo A zc] 39)).alloc (.cells #[.bool mb, .slice yo B yc] 39)).alloc (.cells #[.bool false, .slice none 0 0] 39)) := (by repeat (first | exact Ext.refl _ | assumption | refine Ext.alloc ?_ _ | refine Ext.drewN ?_ _ | refine Ext.drew ?_))
      have hb1 : NBox (((w.alloc (.cells #[.bool nb, .slice zo A zc] 39)).alloc (.cells #[.bool mb, .slice yo B yc] 39)).alloc (.cells #[.bool false, .slice none 0 0] 39)) w.heap.size (.bool nb) (.slice zo A zc) := ⟨by simp [go_sem], by simp [go_sem], by simp; omega⟩
      have hb2 : NBox (((w.alloc (.cells #[.bool nb, .slice zo A zc] 39)).alloc (.cells #[.bool mb, .slice yo B yc] 39)).alloc (.cells #[.bool false, .slice none 0 0] 39)) (w.heap.size + 1) (.bool mb) (.slice yo B yc) := ⟨by simp [go_sem], by simp [go_sem], by simp⟩
      have hs1 : Spot (((w.alloc (.cells #[.bool nb, .slice zo A zc] 39)).alloc (.cells #[.bool mb, .slice yo B yc] 39)).alloc (.cells #[.bool false, .slice none 0 0] 39)) (w.heap.size + 1 + 1) := ⟨by simp, by simp [go_sem], by simp [go_sem], by simp [go_sem], by simp [go_sem]⟩
      generalize (((w.alloc (.cells #[.bool nb, .slice zo A zc] 39)).alloc (.cells #[.bool mb, .slice yo B yc] 39)).alloc (.cells #[.bool false, .slice none 0 0] 39)) = w1 at *
      obtain ⟨R, hR⟩ : ∃ R, R = w.heap.size := ⟨_, rfl⟩
      rw [← hR] at hb1 hb2 hs1 ⊢
      have hRw : w.heap.size ≤ R := by omega
      clear hR
      refine (hcmp _ hx1).mono ?_
      rintro e w2 ⟨rfl, hx2⟩
      replace hx1 := hx1.trans hx2
      replace hb1 := hb1.ext hx2
      replace hb2 := hb2.ext hx2
      replace hs1 := hs1.ext hx2
      have hZ1 := hZ.ext hx1
      have hY1 := hY.ext hx1
      clear hx2 hcmp
      go_wp2_with fail
      obtain ⟨e0, e1, e2⟩ := id hb1
      obtain ⟨d0, d1, d2⟩ := id hb2
      have hsb := hs1
      obtain ⟨c0, hc0⟩ := Option.isSome_iff_exists.1 hsb.some0
      obtain ⟨c1, hc1⟩ := Option.isSome_iff_exists.1 hsb.some1
      have hf0 := hsb.free0
      have hf1 := hsb.free1
      have hlt := hsb.lt
      go_region_held3 (fun w' => (w'.cell? ⟨R, 0, none⟩ = some (.bool nb)) ∧ (w'.cell? ⟨R, 1, none⟩ = some (.slice zo A zc)) ∧ (w'.cell? ⟨R + 1, 0, none⟩ = some (.bool mb)) ∧ (w'.cell? ⟨R + 1, 1, none⟩ = some (.slice yo B yc)))
        (first | exact ⟨q0, q1, q2, q3⟩ | exact ⟨(cell_far _ _ _ _ _ _ (by omega)).trans q0, (cell_far _ _ _ _ _ _ (by omega)).trans q1, (cell_far _ _ _ _ _ _ (by omega)).trans q2, (cell_far _ _ _ _ _ _ (by omega)).trans q3⟩ | (refine ⟨?_, ?_, ?_, ?_⟩ <;> go_keep) | exact ⟨(hxk2.cell (p := ⟨R, 0, none⟩) e2).trans e0, (hxk2.cell (p := ⟨R, 1, none⟩) e2).trans e1, (hxk2.cell (p := ⟨R + 1, 0, none⟩) d2).trans d0, (hxk2.cell (p := ⟨R + 1, 1, none⟩) d2).trans d1⟩ | exact ⟨(hxk.cell (p := ⟨R, 0, none⟩) e2).trans e0, (hxk.cell (p := ⟨R, 1, none⟩) e2).trans e1, (hxk.cell (p := ⟨R + 1, 0, none⟩) d2).trans d0, (hxk.cell (p := ⟨R + 1, 1, none⟩) d2).trans d1⟩)
        ((first
          | (go_at_call 116; refine (subD_calls _ zo yo zc yc A B z.natAbs y.natAbs hle (hZ1.digs.ext (Ext.refl _).drew) (hY1.digs.ext (Ext.refl _).drew) hA).mono ?_; rintro e w4 ⟨v, rfl, ho4, hx4⟩; obtain ⟨po, pc, rfl, hPI, -⟩ := ho4.intsShape; have hxk : Ext w2 w4 := Ext.trans (by repeat (first | exact Ext.refl _ | assumption | refine Ext.alloc ?_ _ | refine Ext.drewN ?_ _ | refine Ext.drew ?_)) hx4)
          | (go_at_call 110; refine (whole_num _ nb po pc (digs (z.natAbs - y.natAbs)) _ (z + y) hPI (digits_digs _) rfl (by rw [digs_length]; exact Nat.le_trans (sub_many hZ.digs) (by omega)) HSG.out).mono ?_; rintro e w5 ⟨nr, oo, OA, oc, rfl, hN, hbk, hx5⟩; have hxk2 : Ext w2 w5 := hxk.trans (Ext.trans (by repeat (first | exact Ext.refl _ | assumption | refine Ext.alloc ?_ _ | refine Ext.drewN ?_ _ | refine Ext.drew ?_)) hx5); obtain ⟨g0, hg0⟩ := Option.isSome_iff_exists.1 (hs1.ext hxk2).some0; obtain ⟨g1, hg1⟩ := Option.isSome_iff_exists.1 (hs1.ext hxk2).some1; have hg2 := (hs1.ext hxk2).free0; have hg3 := (hs1.ext hxk2).free1; have q0 := (hb1.ext hxk2).c0; have q1 := (hb1.ext hxk2).c1; have q2 := (hb2.ext hxk2).c0; have q3 := (hb2.ext hxk2).c1)))
      go_wp2_with fail
      obtain ⟨r0, r1⟩ := (hs1.ext hxk2).put (.bool nr) (.slice oo OA oc)
      refine bodyPost_ret (v := .agg #[.bool nr, .slice oo OA oc]) (by simp [results, Try.results72, go_sem, r0, r1]) rfl ?_
      exact num_done (hx1.trans hxk2) (by omega) (Nat.lt_of_lt_of_le hs1.lt hxk.size) (Nat.le_trans hx1.size hxk.size) hN hbk
    · have HSG : Hid (z + y = if mb = true then -(worth (digs (y.natAbs - z.natAbs))) else worth (digs (y.natAbs - z.natAbs))) := Lib.hid (by
        rw [worth_digs, hm]
        rw [hn, hm] at e
        by_cases h1 : z < 0
        · have : ¬ y < 0 := by simpa [h1] using e
          simp [this]; omega
        · have : y < 0 := by simpa [h1] using e
          simp [this]; omega)
      obtain ⟨c, hcc, hcb⟩ : ∃ c, cmpZ (z.natAbs : Int) (y.natAbs : Int) = c ∧ ¬ 0 ≤ c := ⟨_, rfl, by unfold cmpZ; split <;> (try split) <;> omega⟩
      rw [hcc] at hcmp
      clear hn hm e hcc
      go_enter Try.func72, Try.ntmps72
      go_wp2_with fail
      have hx1 : Ext w (((w.alloc (.cells #[.bool nb, .slice zo A zc] 39)).alloc (.cells #[.bool mb, .slice yo B yc] 39)).alloc (.cells #[.bool false, .slice none 0 0] 39)) := (by repeat (first | exact Ext.refl _ | assumption | refine Ext.alloc ?_ _ | refine Ext.drewN ?_ _ | refine Ext.drew ?_))
      have hb1 : NBox (((w.alloc (.cells #[.bool nb, .slice zo A zc] 39)).alloc (.cells #[.bool mb, .slice yo B yc] 39)).alloc (.cells #[.bool false, .slice none 0 0] 39)) w.heap.size (.bool nb) (.slice zo A zc) := ⟨by simp [go_sem], by simp [go_sem], by simp; omega⟩
      have hb2 : NBox (((w.alloc (.cells #[.bool nb, .slice zo A zc] 39)).alloc (.cells #[.bool mb, .slice yo B yc] 39)).alloc (.cells #[.bool false, .slice none 0 0] 39)) (w.heap.size + 1) (.bool mb) (.slice yo B yc) := ⟨by simp [go_sem], by simp [go_sem], by simp⟩
      have hs1 : Spot (((w.alloc (.cells #[.bool nb, .slice zo A zc] 39)).alloc (.cells #[.bool mb, .slice yo B yc] 39)).alloc (.cells #[.bool false, .slice none 0 0] 39)) (w.heap.size + 1 + 1) := ⟨by simp, by simp [go_sem], by simp [go_sem], by simp [go_sem], by simp [go_sem]⟩
      generalize (((w.alloc (.cells #[.bool nb, .slice zo A zc] 39)).alloc (.cells #[.bool mb, .slice yo B yc] 39)).alloc (.cells #[.bool false, .slice none 0 0] 39)) = w1 at *
      obtain ⟨R, hR⟩ : ∃ R, R = w.heap.size := ⟨_, rfl⟩
      rw [← hR] at hb1 hb2 hs1 ⊢
      have hRw : w.heap.size ≤ R := by omega
      clear hR
      refine (hcmp _ hx1).mono ?_
      rintro e w2 ⟨rfl, hx2⟩
      replace hx1 := hx1.trans hx2
      replace hb1 := hb1.ext hx2
      replace hb2 := hb2.ext hx2
      replace hs1 := hs1.ext hx2
      have hZ1 := hZ.ext hx1
      have hY1 := hY.ext hx1
      clear hx2 hcmp
      go_wp2_with fail
      obtain ⟨e0, e1, e2⟩ := id hb1
      obtain ⟨d0, d1, d2⟩ := id hb2
      have hsb := hs1
      obtain ⟨c0, hc0⟩ := Option.isSome_iff_exists.1 hsb.some0
      obtain ⟨c1, hc1⟩ := Option.isSome_iff_exists.1 hsb.some1
      have hf0 := hsb.free0
      have hf1 := hsb.free1
      have hlt := hsb.lt
      go_region_held3 (fun w' => (w'.cell? ⟨R, 0, none⟩ = some (.bool nb)) ∧ (w'.cell? ⟨R, 1, none⟩ = some (.slice zo A zc)) ∧ (w'.cell? ⟨R + 1, 0, none⟩ = some (.bool mb)) ∧ (w'.cell? ⟨R + 1, 1, none⟩ = some (.slice yo B yc)))
        (first | exact ⟨q0, q1, q2, q3⟩ | exact ⟨(cell_far _ _ _ _ _ _ (by omega)).trans q0, (cell_far _ _ _ _ _ _ (by omega)).trans q1, (cell_far _ _ _ _ _ _ (by omega)).trans q2, (cell_far _ _ _ _ _ _ (by omega)).trans q3⟩ | (refine ⟨?_, ?_, ?_, ?_⟩ <;> go_keep) | exact ⟨(hxk2.cell (p := ⟨R, 0, none⟩) e2).trans e0, (hxk2.cell (p := ⟨R, 1, none⟩) e2).trans e1, (hxk2.cell (p := ⟨R + 1, 0, none⟩) d2).trans d0, (hxk2.cell (p := ⟨R + 1, 1, none⟩) d2).trans d1⟩ | exact ⟨(hxk.cell (p := ⟨R, 0, none⟩) e2).trans e0, (hxk.cell (p := ⟨R, 1, none⟩) e2).trans e1, (hxk.cell (p := ⟨R + 1, 0, none⟩) d2).trans d0, (hxk.cell (p := ⟨R + 1, 1, none⟩) d2).trans d1⟩)
        ((first
          | (go_at_call 116; refine (subD_calls _ yo zo yc zc B A y.natAbs z.natAbs (by omega) (hY1.digs.ext (Ext.refl _).drew) (hZ1.digs.ext (Ext.refl _).drew) hB).mono ?_; rintro e w4 ⟨v, rfl, ho4, hx4⟩; obtain ⟨po, pc, rfl, hPI, -⟩ := ho4.intsShape; have hxk : Ext w2 w4 := Ext.trans (by repeat (first | exact Ext.refl _ | assumption | refine Ext.alloc ?_ _ | refine Ext.drewN ?_ _ | refine Ext.drew ?_)) hx4)
          | (go_at_call 110; refine (whole_num _ mb po pc (digs (y.natAbs - z.natAbs)) _ (z + y) hPI (digits_digs _) rfl (by rw [digs_length]; exact Nat.le_trans (sub_many hY.digs) (by omega)) HSG.out).mono ?_; rintro e w5 ⟨nr, oo, OA, oc, rfl, hN, hbk, hx5⟩; have hxk2 : Ext w2 w5 := hxk.trans (Ext.trans (by repeat (first | exact Ext.refl _ | assumption | refine Ext.alloc ?_ _ | refine Ext.drewN ?_ _ | refine Ext.drew ?_)) hx5); obtain ⟨g0, hg0⟩ := Option.isSome_iff_exists.1 (hs1.ext hxk2).some0; obtain ⟨g1, hg1⟩ := Option.isSome_iff_exists.1 (hs1.ext hxk2).some1; have hg2 := (hs1.ext hxk2).free0; have hg3 := (hs1.ext hxk2).free1; have q0 := (hb1.ext hxk2).c0; have q1 := (hb1.ext hxk2).c1; have q2 := (hb2.ext hxk2).c0; have q3 := (hb2.ext hxk2).c1)))
      go_wp2_with fail
      obtain ⟨r0, r1⟩ := (hs1.ext hxk2).put (.bool nr) (.slice oo OA oc)
      refine bodyPost_ret (v := .agg #[.bool nr, .slice oo OA oc]) (by simp [results, Try.results72, go_sem, r0, r1]) rfl ?_
      exact num_done (hx1.trans hxk2) (by omega) (Nat.lt_of_lt_of_le hs1.lt hxk.size) (Nat.le_trans hx1.size hxk.size) hN hbk
set_option maxRecDepth 100000 in
set_option maxHeartbeats 2000000 in
theorem minus_calls (w : World) (nb mb : Bool) (zo yo : Option Addr) (A zc B yc : Nat) (z y : Int) (hZ : Num w z nb zo A) (hY : Num w y mb yo B) (hA : A ≤ 10000) (hB : B ≤ 10000) :
    Calls Try.prog 120 #[.agg #[.bool nb, .slice zo A zc], .agg #[.bool mb, .slice yo B yc]] w (BgR w (z - y)) := by
  go_enter Try.func120, Try.ntmps120
  go_wp2_with fail
  have hx1 : Ext w (((w.alloc (.cells #[.bool nb, .slice zo A zc] 39)).alloc (.cells #[.bool mb, .slice yo B yc] 39)).alloc (.cells #[.bool false, .slice none 0 0] 39)) := (by repeat (first | exact Ext.refl _ | assumption | refine Ext.alloc ?_ _ | refine Ext.drewN ?_ _ | refine Ext.drew ?_))
  have hb1 : NBox (((w.alloc (.cells #[.bool nb, .slice zo A zc] 39)).alloc (.cells #[.bool mb, .slice yo B yc] 39)).alloc (.cells #[.bool false, .slice none 0 0] 39)) w.heap.size (.bool nb) (.slice zo A zc) := ⟨by simp [go_sem], by simp [go_sem], by simp; omega⟩
  have hb2 : NBox (((w.alloc (.cells #[.bool nb, .slice zo A zc] 39)).alloc (.cells #[.bool mb, .slice yo B yc] 39)).alloc (.cells #[.bool false, .slice none 0 0] 39)) (w.heap.size + 1) (.bool mb) (.slice yo B yc) := ⟨by simp [go_sem], by simp [go_sem], by simp⟩
  have hs1 : Spot (((w.alloc (.cells #[.bool nb, .slice zo A zc] 39)).alloc (.cells #[.bool mb, .slice yo B yc] 39)).alloc (.cells #[.bool false, .slice none 0 0] 39)) (w.heap.size + 1 + 1) := ⟨by simp, by simp [go_sem], by simp [go_sem], by simp [go_sem], by simp [go_sem]⟩
  generalize (((w.alloc (.cells #[.bool nb, .slice zo A zc] 39)).alloc (.cells #[.bool mb, .slice yo B yc] 39)).alloc (.cells #[.bool false, .slice none 0 0] 39)) = w1 at *
  obtain ⟨R, hR⟩ : ∃ R, R = w.heap.size := ⟨_, rfl⟩
  rw [← hR] at hb1 hb2 hs1 ⊢
  have hRw : w.heap.size ≤ R := by omega
  clear hR
  have hZ1 := hZ.ext hx1
  have hY1 := hY.ext hx1
  obtain ⟨e0, e1, e2⟩ := id hb1
  obtain ⟨d0, d1, d2⟩ := id hb2
  have hsb := hs1
  obtain ⟨c0, hc0⟩ := Option.isSome_iff_exists.1 hsb.some0
  obtain ⟨c1, hc1⟩ := Option.isSome_iff_exists.1 hsb.some1
  have hf0 := hsb.free0
  have hf1 := hsb.free1
  have hlt := hsb.lt
  go_region_held3 (fun w' => (w'.cell? ⟨R, 0, none⟩ = some (.bool nb)) ∧ (w'.cell? ⟨R, 1, none⟩ = some (.slice zo A zc)) ∧ (w'.cell? ⟨R + 1, 0, none⟩ = some (.bool mb)) ∧ (w'.cell? ⟨R + 1, 1, none⟩ = some (.slice yo B yc)))
    (first | exact ⟨q0, q1, q2, q3⟩ | exact ⟨(cell_far _ _ _ _ _ _ (by omega)).trans q0, (cell_far _ _ _ _ _ _ (by omega)).trans q1, (cell_far _ _ _ _ _ _ (by omega)).trans q2, (cell_far _ _ _ _ _ _ (by omega)).trans q3⟩ | (refine ⟨?_, ?_, ?_, ?_⟩ <;> go_keep) | exact ⟨(hxk2.cell (p := ⟨R, 0, none⟩) e2).trans e0, (hxk2.cell (p := ⟨R, 1, none⟩) e2).trans e1, (hxk2.cell (p := ⟨R + 1, 0, none⟩) d2).trans d0, (hxk2.cell (p := ⟨R + 1, 1, none⟩) d2).trans d1⟩ | exact ⟨(hxk.cell (p := ⟨R, 0, none⟩) e2).trans e0, (hxk.cell (p := ⟨R, 1, none⟩) e2).trans e1, (hxk.cell (p := ⟨R + 1, 0, none⟩) d2).trans d0, (hxk.cell (p := ⟨R + 1, 1, none⟩) d2).trans d1⟩)
    ((first
      | (go_at_call 112; refine (bneg_calls _ mb yo B yc y (hY1.ext (Ext.refl _).drew) (by omega)).mono ?_; rintro e w4 ⟨mr, po, PA, pc, rfl, hM, hbm, hx4⟩; have hxk : Ext w1 w4 := Ext.trans (by repeat (first | exact Ext.refl _ | assumption | refine Ext.alloc ?_ _ | refine Ext.drewN ?_ _ | refine Ext.drew ?_)) hx4)
      | (go_at_call 72; refine (plus_calls _ nb mr zo po A zc PA pc z (-y) (hZ1.ext hxk) hM hA (by rw [← hM.digs.many, Int.natAbs_neg, hY.digs.many]; exact hB)).mono ?_; rintro e w5 ⟨nr, oo, OA, oc, rfl, hN, hbk, hx5⟩; have hxk2 : Ext w1 w5 := hxk.trans (Ext.trans (by repeat (first | exact Ext.refl _ | assumption | refine Ext.alloc ?_ _ | refine Ext.drewN ?_ _ | refine Ext.drew ?_)) hx5); obtain ⟨g0, hg0⟩ := Option.isSome_iff_exists.1 (hs1.ext hxk2).some0; obtain ⟨g1, hg1⟩ := Option.isSome_iff_exists.1 (hs1.ext hxk2).some1; have hg2 := (hs1.ext hxk2).free0; have hg3 := (hs1.ext hxk2).free1; have q0 := (hb1.ext hxk2).c0; have q1 := (hb1.ext hxk2).c1; have q2 := (hb2.ext hxk2).c0; have q3 := (hb2.ext hxk2).c1)))
  rw [← Int.sub_eq_add_neg] at hN
  go_wp2_with fail
  obtain ⟨r0, r1⟩ := (hs1.ext hxk2).put (.bool nr) (.slice oo OA oc)
  refine bodyPost_ret (v := .agg #[.bool nr, .slice oo OA oc]) (by simp [results, Try.results120, go_sem, r0, r1]) rfl ?_
  exact num_done (hx1.trans hxk2) (by omega) (Nat.lt_of_lt_of_le hs1.lt hxk.size) (Nat.le_trans hx1.size hxk.size) hN hbk
end Go.Proofs.Ytcngecibljgndaa
