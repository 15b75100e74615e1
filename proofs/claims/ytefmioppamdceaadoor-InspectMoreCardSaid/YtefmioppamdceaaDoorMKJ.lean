/- The walk of InspectMore. -/
import Derived.Test.YtefmioppamdceaaDoorMKI
namespace Go.Proofs.YtefmioppamdceaaDoor
--@optional
open Go.RowKit Go.Shelf

/-- A fraction's numbers as the program has them. -/
structure NumOf (q : Rat) (n d : Int) : Prop where
  hn : n = q.num
  hd : d = (q.den : Int)
  pos : 0 < d
theorem numOf (q : Rat) : ∃ n d, NumOf q n d := ⟨q.num, q.den, rfl, rfl, by have := q.den_pos; omega⟩
theorem NumOf.rat {q : Rat} {n d : Int} (h : NumOf q n d) : Rat.divInt n d = q := by rw [h.hn, h.hd, Rat.num_divInt_den]
theorem NumOf.val {q : Rat} {n d : Int} (h : NumOf q n d) : ratV q = .agg #[.int .i64 n, .int .i64 d] := by rw [ratV, h.hn, h.hd]
/-- The specification's fraction of the program's. -/
theorem fromNum_calls (w : World) {q : Rat} {n d : Int} (h : NumOf q n d) (hb : RBd q 4611686018427387904) : Calls Tryd.prog 14 #[.agg #[.int .i64 n, .int .i64 d]] w (QR w q) := by
  have h1 := hb.num
  have h2 := hb.den
  rw [← h.hn] at h1
  rw [← h.hd] at h2
  have := h.pos
  have hc := fromRatio_calls w n d (by omega) (by omega) (by omega)
  rw [h.rat] at hc
  exact hc
theorem lookR_bd (d l : Nat) (hd : d ≤ 14) : RBd (lookR d l) 70368744177664 := by
  by_cases h : d ≤ l
  · rw [lookR, if_pos h]; exact R1.mono (by omega)
  · by_cases h0 : l = 0
    · rw [lookR, if_neg h, if_pos h0]; exact ⟨by decide, by decide⟩
    · exact look_bd d l hd (by omega) (by omega)
theorem todV_ok {d l : Nat} (hd0 : 0 < d) (hd : d ≤ 14) (hl : l ≤ 14) : todV d l = .tuple #[ratV (lookR d l), ratV (goR d l), .int .i64 0] := by
  unfold todV
  rw [if_pos (by unfold DayOk; omega), if_neg (by omega), show ((d : Int)).toNat = d by omega, show ((l : Int)).toNat = l by omega]
theorem dresV_val {d l : Nat} (hd : d ≤ 14) (hl : l ≤ 14) : dresV d l = .tuple #[ratV (valR d l), .int .i64 0] := dresV_ok hd hl
theorem cmpQ_le {a b : Rat} (h : a ≤ b) : ¬ 0 < cmpQ a b := by
  unfold cmpQ
  have h2 : ¬ b < a := Rat.not_lt.2 h
  by_cases h1 : a < b
  · rw [if_pos h1]; decide
  · rw [if_neg h1, if_neg h2]; decide
theorem cmpQ_ge {a b : Rat} (h : b ≤ a) : ¬ cmpQ a b < 0 := by
  unfold cmpQ
  rw [if_neg (Rat.not_lt.2 h)]
  split <;> decide
set_option maxRecDepth 100000 in
set_option maxHeartbeats 4000000 in
theorem inspectMore_law (W : World) (hG : Glob W) (a b : Int) (ha : 0 ≤ a ∧ a ≤ 255) (hb : 0 ≤ b ∧ b ≤ 255) :
    Calls Tryd.prog 5 #[.int .u8 a, .int .u8 b] W (TrueRes W) := by
  obtain ⟨D, hD⟩ : ∃ D : Nat, a % 14 = (D : Int) := ⟨(a % 14).toNat, by omega⟩
  obtain ⟨L, hL⟩ : ∃ L : Nat, b % 14 = (L : Int) := ⟨(b % 14).toNat, by omega⟩
  have hD14 : D ≤ 13 := by omega
  have hL14 : L ≤ 13 := by omega
  obtain ⟨v0, v1, hv⟩ := numOf (valR D L)
  obtain ⟨x0, x1, hx⟩ := numOf (valR D (L + 1))
  obtain ⟨y0, y1, hy⟩ := numOf (valR (D + 1) L)
  obtain ⟨l0, l1, hl⟩ := numOf (lookR (D + 1) L)
  obtain ⟨m0, m1, hm⟩ := numOf (lookR (D + 1) (L + 1))
  obtain ⟨g0, g1, hg⟩ := numOf (goR (D + 1) L)
  obtain ⟨h0, h1, hh⟩ := numOf (goR (D + 1) (L + 1))
  have hd1 := fun W2 (h : Glob W2) => dresher_calls W2 D L h (by omega) (by omega)
  have hd2 := fun W2 (h : Glob W2) => dresher_calls W2 D (L + 1 : Nat) h (by omega) (by omega)
  have hd3 := fun W2 (h : Glob W2) => dresher_calls W2 (D + 1 : Nat) L h (by omega) (by omega)
  have ht1 := fun W2 (h : Glob W2) => todayO_calls W2 (D + 1 : Nat) L h (by omega) (by omega)
  have ht2 := fun W2 (h : Glob W2) => todayO_calls W2 (D + 1 : Nat) (L + 1 : Nat) h (by omega) (by omega)
  rw [dresV_val (by omega) (by omega), hv.val] at hd1
  rw [dresV_val (by omega) (by omega), hx.val] at hd2
  rw [dresV_val (by omega) (by omega), hy.val] at hd3
  rw [todV_ok (by omega) (by omega) (by omega), hl.val, hg.val] at ht1
  rw [todV_ok (by omega) (by omega) (by omega), hm.val, hh.val] at ht2
  rw [show ((L + 1 : Nat) : Int) = (L : Int) + 1 by omega] at hd2 ht2
  rw [show ((D + 1 : Nat) : Int) = (D : Int) + 1 by omega] at hd3 ht1 ht2
  have bv := (valR_bd D L (by omega)).mono (show (16384 : Int) ≤ 4611686018427387904 by omega)
  have bx := (valR_bd D (L + 1) (by omega)).mono (show (16384 : Int) ≤ 4611686018427387904 by omega)
  have by' := (valR_bd (D + 1) L (by omega)).mono (show (16384 : Int) ≤ 4611686018427387904 by omega)
  have bl := (lookR_bd (D + 1) L (by omega)).mono (show (70368744177664 : Int) ≤ 4611686018427387904 by omega)
  have bm := (lookR_bd (D + 1) (L + 1) (by omega)).mono (show (70368744177664 : Int) ≤ 4611686018427387904 by omega)
  have hac := fun W2 (h : Glob W2) => alive_calls W2 h
  have fv := (bv.mono (show (4611686018427387904 : Int) ≤ 9223372036854775807 by omega)).fine
  have fx := (bx.mono (show (4611686018427387904 : Int) ≤ 9223372036854775807 by omega)).fine
  have fy := (by'.mono (show (4611686018427387904 : Int) ≤ 9223372036854775807 by omega)).fine
  have fl := (bl.mono (show (4611686018427387904 : Int) ≤ 9223372036854775807 by omega)).fine
  have fm := (bm.mono (show (4611686018427387904 : Int) ≤ 9223372036854775807 by omega)).fine
  have c1 := fun W2 => fromNum_calls W2 hv bv
  have c2 := fun W2 => fromNum_calls W2 hx bx
  have c3 := fun W2 => fromNum_calls W2 hy by'
  have c4 := fun W2 => fromNum_calls W2 hl bl
  have c5 := fun W2 => fromNum_calls W2 hm bm
  have k1 : ¬ 0 < cmpQ (valR D (L + 1)) (valR D L) := cmpQ_le (valR_looks D L)
  have k2 : ¬ cmpQ (valR (D + 1) L) (valR D L) < 0 := cmpQ_ge (valR_days D L)
  have k3 : cmpQ (lookR (D + 1) L) (lookR (D + 1) (L + 1)) ≤ 0 := by have := cmpQ_le (lookR_looks (D + 1) L); omega
  have p1 : ¬ v1 < 1 := by have := hv.pos; omega
  have p2 : ¬ x1 < 1 := by have := hx.pos; omega
  have p3 : ¬ y1 < 1 := by have := hy.pos; omega
  have p4 : 0 < l1 := hl.pos
  have p5 : 0 < m1 := hm.pos
  obtain ⟨z1, hz1⟩ : ∃ z, z = cmpQ (valR D (L + 1)) (valR D L) := ⟨_, rfl⟩
  obtain ⟨z2, hz2⟩ : ∃ z, z = cmpQ (valR (D + 1) L) (valR D L) := ⟨_, rfl⟩
  obtain ⟨z3, hz3⟩ : ∃ z, z = cmpQ (lookR (D + 1) L) (lookR (D + 1) (L + 1)) := ⟨_, rfl⟩
  rw [← hz1] at k1
  rw [← hz2] at k2
  rw [← hz3] at k3
  have HZ := Lib.hid (And.intro hz1 (And.intro hz2 hz3))
  have k1b : decide (z1 > 0) = false := decide_eq_false (by omega)
  have k2b : decide (z2 < 0) = false := decide_eq_false (by omega)
  have k3b : decide (z3 ≤ 0) = true := decide_eq_true k3
  clear hz1 hz2 hz3 hv hx hy hl hm hg hh bv bx by' bl bm
  have HGl := Lib.hid hG
  clear hG
  go_enter Tryd.func5, Tryd.ntmps5
  go_wp2_with fail
  refine (hd1 W HGl.out).mono ?_
  rintro e w2 ⟨rfl, hx2⟩
  clear hd1
  go_wp2_with fail
  obtain ⟨w3, hWN⟩ : ∃ w, w = w2.alloc (Obj.cells #[.int .i64 v0, .int .i64 v1] 23) := ⟨_, rfl⟩
  obtain ⟨A, hBB⟩ : ∃ A, A = w2.heap.size := ⟨_, rfl⟩
  have hxbox : Ext w2 w3 := by rw [hWN]; exact (by repeat (first | exact Ext.refl _ | assumption | refine Ext.alloc ?_ _ | refine Ext.drewN ?_ _ | refine Ext.drew ?_))
  have a0 : w3.cell? ⟨A, 0, none⟩ = some (.int .i64 v0) := by rw [hWN, hBB]; simp [go_sem]
  have a1 : w3.cell? ⟨A, 1, none⟩ = some (.int .i64 v1) := by rw [hWN, hBB]; simp [go_sem]
  have hAl : A < w3.heap.size := by rw [hWN, hBB]; simp
  rw [← hWN, ← hBB]
  clear hWN hBB
  have hx03 := hx2.trans hxbox
  clear hx2 hxbox
  refine (hd2 w3 (HGl.out.ext hx03)).mono ?_
  rintro e w4 ⟨rfl, hx4⟩
  have hx04 := hx03.trans hx4
  have a0 := (hx4.cell (p := ⟨A, 0, none⟩) hAl).trans a0
  have a1 := (hx4.cell (p := ⟨A, 1, none⟩) hAl).trans a1
  have hAl := Nat.lt_of_lt_of_le hAl hx4.size
  clear hd2 hx03 hx4
  go_wp2_with fail
  obtain ⟨w5, hWN⟩ : ∃ w, w = w4.alloc (Obj.cells #[.int .i64 x0, .int .i64 x1] 23) := ⟨_, rfl⟩
  obtain ⟨B, hBB⟩ : ∃ A, A = w4.heap.size := ⟨_, rfl⟩
  have hxbox : Ext w4 w5 := by rw [hWN]; exact (by repeat (first | exact Ext.refl _ | assumption | refine Ext.alloc ?_ _ | refine Ext.drewN ?_ _ | refine Ext.drew ?_))
  have b0 : w5.cell? ⟨B, 0, none⟩ = some (.int .i64 x0) := by rw [hWN, hBB]; simp [go_sem]
  have b1 : w5.cell? ⟨B, 1, none⟩ = some (.int .i64 x1) := by rw [hWN, hBB]; simp [go_sem]
  have hBl : B < w5.heap.size := by rw [hWN, hBB]; simp
  rw [← hWN, ← hBB]
  clear hWN hBB
  have a0 := (hxbox.cell (p := ⟨A, 0, none⟩) hAl).trans a0
  have a1 := (hxbox.cell (p := ⟨A, 1, none⟩) hAl).trans a1
  have hAl := Nat.lt_of_lt_of_le hAl hxbox.size
  have hx05 := hx04.trans hxbox
  clear hx04 hxbox
  refine (hd3 w5 (HGl.out.ext hx05)).mono ?_
  rintro e w6 ⟨rfl, hx6⟩
  have a0 := (hx6.cell (p := ⟨A, 0, none⟩) hAl).trans a0
  have a1 := (hx6.cell (p := ⟨A, 1, none⟩) hAl).trans a1
  have hAl := Nat.lt_of_lt_of_le hAl hx6.size
  have b0 := (hx6.cell (p := ⟨B, 0, none⟩) hBl).trans b0
  have b1 := (hx6.cell (p := ⟨B, 1, none⟩) hBl).trans b1
  have hBl := Nat.lt_of_lt_of_le hBl hx6.size
  have hx06 := hx05.trans hx6
  clear hd3 hx05 hx6
  go_wp2_with fail
  obtain ⟨w7, hWN⟩ : ∃ w, w = w6.alloc (Obj.cells #[.int .i64 y0, .int .i64 y1] 23) := ⟨_, rfl⟩
  obtain ⟨C, hBB⟩ : ∃ A, A = w6.heap.size := ⟨_, rfl⟩
  have hxbox : Ext w6 w7 := by rw [hWN]; exact (by repeat (first | exact Ext.refl _ | assumption | refine Ext.alloc ?_ _ | refine Ext.drewN ?_ _ | refine Ext.drew ?_))
  have e0 : w7.cell? ⟨C, 0, none⟩ = some (.int .i64 y0) := by rw [hWN, hBB]; simp [go_sem]
  have e1 : w7.cell? ⟨C, 1, none⟩ = some (.int .i64 y1) := by rw [hWN, hBB]; simp [go_sem]
  have hCl : C < w7.heap.size := by rw [hWN, hBB]; simp
  rw [← hWN, ← hBB]
  clear hWN hBB
  have a0 := (hxbox.cell (p := ⟨A, 0, none⟩) hAl).trans a0
  have a1 := (hxbox.cell (p := ⟨A, 1, none⟩) hAl).trans a1
  have hAl := Nat.lt_of_lt_of_le hAl hxbox.size
  have b0 := (hxbox.cell (p := ⟨B, 0, none⟩) hBl).trans b0
  have b1 := (hxbox.cell (p := ⟨B, 1, none⟩) hBl).trans b1
  have hBl := Nat.lt_of_lt_of_le hBl hxbox.size
  have hx07 := hx06.trans hxbox
  clear hx06 hxbox
  refine (c1 w7).mono ?_
  rintro e w8 ⟨nb, zo, za, zc, mb, yo, ya, yc, rfl, hN, hbk, hbm, hx8⟩
  have a0 := (hx8.cell (p := ⟨A, 0, none⟩) hAl).trans a0
  have a1 := (hx8.cell (p := ⟨A, 1, none⟩) hAl).trans a1
  have hAl := Nat.lt_of_lt_of_le hAl hx8.size
  have b0 := (hx8.cell (p := ⟨B, 0, none⟩) hBl).trans b0
  have b1 := (hx8.cell (p := ⟨B, 1, none⟩) hBl).trans b1
  have hBl := Nat.lt_of_lt_of_le hBl hx8.size
  have e0 := (hx8.cell (p := ⟨C, 0, none⟩) hCl).trans e0
  have e1 := (hx8.cell (p := ⟨C, 1, none⟩) hCl).trans e1
  have hCl := Nat.lt_of_lt_of_le hCl hx8.size
  have hx08 := hx07.trans hx8
  clear c1 hx07 hx8 hbk hbm
  go_wp2_with fail
  obtain ⟨w9, hw9⟩ : ∃ w, w = w8.alloc (Obj.cells #[.bool nb, .slice zo za zc, .bool mb, .slice yo ya yc] 34) := ⟨_, rfl⟩
  obtain ⟨V, hV⟩ : ∃ A, A = w8.heap.size := ⟨_, rfl⟩
  have hxw9 : Ext w8 w9 := by rw [hw9]; exact (by repeat (first | exact Ext.refl _ | assumption | refine Ext.alloc ?_ _ | refine Ext.drewN ?_ _ | refine Ext.drew ?_))
  have d0 : w9.cell? ⟨V, 0, none⟩ = some (.bool nb) := by rw [hw9, hV]; simp [go_sem]
  have d1 : w9.cell? ⟨V, 1, none⟩ = some (.slice zo za zc) := by rw [hw9, hV]; simp [go_sem]
  have d2 : w9.cell? ⟨V, 2, none⟩ = some (.bool mb) := by rw [hw9, hV]; simp [go_sem]
  have d3 : w9.cell? ⟨V, 3, none⟩ = some (.slice yo ya yc) := by rw [hw9, hV]; simp [go_sem]
  have hVl : V < w9.heap.size := by rw [hw9, hV]; simp
  rw [← hw9, ← hV]
  clear hw9 hV
  have b0 := (hxw9.cell (p := ⟨B, 0, none⟩) hBl).trans b0
  have b1 := (hxw9.cell (p := ⟨B, 1, none⟩) hBl).trans b1
  have hBl := Nat.lt_of_lt_of_le hBl hxw9.size
  have e0 := (hxw9.cell (p := ⟨C, 0, none⟩) hCl).trans e0
  have e1 := (hxw9.cell (p := ⟨C, 1, none⟩) hCl).trans e1
  have hCl := Nat.lt_of_lt_of_le hCl hxw9.size
  have hx09 := hx08.trans hxw9
  have HNQ := Lib.hid (fun W2 (h : Ext w9 W2) => hN.ext (hxw9.trans h))
  clear hx08 hxw9 hN a0 a1 hAl
  have HCE : Hid (∀ W2, Ext w9 W2 → W2.cell? ⟨B, 0, none⟩ = some (.int .i64 x0) ∧ W2.cell? ⟨B, 1, none⟩ = some (.int .i64 x1) ∧ W2.cell? ⟨C, 0, none⟩ = some (.int .i64 y0) ∧ W2.cell? ⟨C, 1, none⟩ = some (.int .i64 y1) ∧ W2.cell? ⟨V, 0, none⟩ = some (.bool nb) ∧ W2.cell? ⟨V, 1, none⟩ = some (.slice zo za zc) ∧ W2.cell? ⟨V, 2, none⟩ = some (.bool mb) ∧ W2.cell? ⟨V, 3, none⟩ = some (.slice yo ya yc)) := Lib.hid (fun W2 h =>
    ⟨(h.cell (p := ⟨B, 0, none⟩) hBl).trans b0, (h.cell (p := ⟨B, 1, none⟩) hBl).trans b1, (h.cell (p := ⟨C, 0, none⟩) hCl).trans e0, (h.cell (p := ⟨C, 1, none⟩) hCl).trans e1, (h.cell (p := ⟨V, 0, none⟩) hVl).trans d0, (h.cell (p := ⟨V, 1, none⟩) hVl).trans d1, (h.cell (p := ⟨V, 2, none⟩) hVl).trans d2, (h.cell (p := ⟨V, 3, none⟩) hVl).trans d3⟩)
  clear b0 b1 e0 e1 d0 d1 d2 d3 hBl hCl hVl
  go_region_held3 (fun W2 => W2.cell? ⟨B, 0, none⟩ = some (.int .i64 x0) ∧ W2.cell? ⟨B, 1, none⟩ = some (.int .i64 x1) ∧ W2.cell? ⟨C, 0, none⟩ = some (.int .i64 y0) ∧ W2.cell? ⟨C, 1, none⟩ = some (.int .i64 y1) ∧ W2.cell? ⟨V, 0, none⟩ = some (.bool nb) ∧ W2.cell? ⟨V, 1, none⟩ = some (.slice zo za zc) ∧ W2.cell? ⟨V, 2, none⟩ = some (.bool mb) ∧ W2.cell? ⟨V, 3, none⟩ = some (.slice yo ya yc))
    (exact HCE.out _ (by repeat (with_reducible first | exact Ext.refl _ | assumption | refine Ext.alloc ?_ _ | refine Ext.drew ?_)))
    ((first
      | (go_at_call 13; (with_reducible refine Calls.mono (cmp_calls _ nb3 mb3 nb mb zo3 yo3 zo yo za3 zc3 ya3 yc3 za zc ya yc (valR (D + 1) L) (valR D L) (hN3.ext (by repeat (with_reducible first | exact Ext.refl _ | assumption | refine Ext.alloc ?_ _ | refine Ext.drew ?_))) (HNQ.out _ (by repeat (with_reducible first | exact Ext.refl _ | assumption | refine Ext.alloc ?_ _ | refine Ext.drew ?_))) fy fv) ?_); rintro e u4 ⟨rfl, hu4⟩; rw [← HZ.out.2.1]; have hxu4 : Ext w9 u4 := Ext.trans (by repeat (with_reducible first | exact Ext.refl _ | assumption | refine Ext.alloc ?_ _ | refine Ext.drew ?_)) hu4)
      | (go_at_call 14; (with_reducible refine Calls.mono (c3 _) ?_); rintro e u3 ⟨nb3, zo3, za3, zc3, mb3, yo3, ya3, yc3, rfl, hN3, -, -, hu3⟩; have hxu3 : Ext w9 u3 := Ext.trans (by repeat (with_reducible first | exact Ext.refl _ | assumption | refine Ext.alloc ?_ _ | refine Ext.drew ?_)) hu3)
      | (go_at_call 13; (with_reducible refine Calls.mono (cmp_calls _ nb1 mb1 nb mb zo1 yo1 zo yo za1 zc1 ya1 yc1 za zc ya yc (valR D (L + 1)) (valR D L) (hN1.ext (by repeat (with_reducible first | exact Ext.refl _ | assumption | refine Ext.alloc ?_ _ | refine Ext.drew ?_))) (HNQ.out _ (by repeat (with_reducible first | exact Ext.refl _ | assumption | refine Ext.alloc ?_ _ | refine Ext.drew ?_))) fx fv) ?_); rintro e u2 ⟨rfl, hu2⟩; rw [← HZ.out.1]; have hxu2 : Ext w9 u2 := Ext.trans (by repeat (with_reducible first | exact Ext.refl _ | assumption | refine Ext.alloc ?_ _ | refine Ext.drew ?_)) hu2)
      | (go_at_call 14; (with_reducible refine Calls.mono (c2 _) ?_); rintro e u1 ⟨nb1, zo1, za1, zc1, mb1, yo1, ya1, yc1, rfl, hN1, -, -, hu1⟩; have hxu1 : Ext w9 u1 := Ext.trans (by repeat (with_reducible first | exact Ext.refl _ | assumption | refine Ext.alloc ?_ _ | refine Ext.drew ?_)) hu1)))
  have hx0u := hx09.trans hxu4
  clear HCE HNQ c2 c3
  go_wp2_with fail
  refine (ht1 u4 (HGl.out.ext hx0u)).mono ?_
  rintro e y2 ⟨rfl, hy2⟩
  have hx0y := hx0u.trans hy2
  clear ht1 hy2
  go_wp2_with fail
  obtain ⟨y3, hy3⟩ : ∃ w, w = ((y2.alloc (Obj.cells #[.int .i64 l0, .int .i64 l1] 23)).alloc (Obj.cells #[.int .i64 g0, .int .i64 g1] 23)) := ⟨_, rfl⟩
  obtain ⟨E, hE⟩ : ∃ A, A = y2.heap.size := ⟨_, rfl⟩
  have hxy3 : Ext y2 y3 := by rw [hy3]; exact (by repeat (first | exact Ext.refl _ | assumption | refine Ext.alloc ?_ _ | refine Ext.drewN ?_ _ | refine Ext.drew ?_))
  have e0 : y3.cell? ⟨E, 0, none⟩ = some (.int .i64 l0) := by rw [hy3, hE]; simp [go_sem]
  have e1 : y3.cell? ⟨E, 1, none⟩ = some (.int .i64 l1) := by rw [hy3, hE]; simp [go_sem]
  have hEl : E < y3.heap.size := by rw [hy3, hE]; simp; omega
  rw [← hy3, ← hE]
  clear hy3 hE
  have hx0y3 := hx0y.trans hxy3
  refine (ht2 y3 (HGl.out.ext hx0y3)).mono ?_
  rintro e y4 ⟨rfl, hy4⟩
  have e0 := (hy4.cell (p := ⟨E, 0, none⟩) hEl).trans e0
  have e1 := (hy4.cell (p := ⟨E, 1, none⟩) hEl).trans e1
  have hEl := Nat.lt_of_lt_of_le hEl hy4.size
  have hx0y4 := hx0y3.trans hy4
  clear ht2 hy4 hx0y hxy3 hx0y3
  go_wp2_with fail
  obtain ⟨y5, hy5⟩ : ∃ w, w = ((y4.alloc (Obj.cells #[.int .i64 m0, .int .i64 m1] 23)).alloc (Obj.cells #[.int .i64 h0, .int .i64 h1] 23)) := ⟨_, rfl⟩
  obtain ⟨F, hF⟩ : ∃ A, A = y4.heap.size := ⟨_, rfl⟩
  have hxy5 : Ext y4 y5 := by rw [hy5]; exact (by repeat (first | exact Ext.refl _ | assumption | refine Ext.alloc ?_ _ | refine Ext.drewN ?_ _ | refine Ext.drew ?_))
  have f0 : y5.cell? ⟨F, 0, none⟩ = some (.int .i64 m0) := by rw [hy5, hF]; simp [go_sem]
  have f1 : y5.cell? ⟨F, 1, none⟩ = some (.int .i64 m1) := by rw [hy5, hF]; simp [go_sem]
  have hFl : F < y5.heap.size := by rw [hy5, hF]; simp; omega
  rw [← hy5, ← hF]
  clear hy5 hF
  have e0 := (hxy5.cell (p := ⟨E, 0, none⟩) hEl).trans e0
  have e1 := (hxy5.cell (p := ⟨E, 1, none⟩) hEl).trans e1
  have hEl := Nat.lt_of_lt_of_le hEl hxy5.size
  have hx0y5 := hx0y4.trans hxy5
  have HCE : Hid (∀ W2, Ext y5 W2 → W2.cell? ⟨E, 0, none⟩ = some (.int .i64 l0) ∧ W2.cell? ⟨E, 1, none⟩ = some (.int .i64 l1) ∧ W2.cell? ⟨F, 0, none⟩ = some (.int .i64 m0) ∧ W2.cell? ⟨F, 1, none⟩ = some (.int .i64 m1)) := Lib.hid (fun W2 h =>
    ⟨(h.cell (p := ⟨E, 0, none⟩) hEl).trans e0, (h.cell (p := ⟨E, 1, none⟩) hEl).trans e1, (h.cell (p := ⟨F, 0, none⟩) hFl).trans f0, (h.cell (p := ⟨F, 1, none⟩) hFl).trans f1⟩)
  clear e0 e1 f0 f1 hEl hFl hx0y4 hxy5
  have p4b : decide (l1 > 0) = true := decide_eq_true p4
  have p5b : decide (m1 > 0) = true := decide_eq_true p5
  go_region_held3 (fun W2 => W2.cell? ⟨E, 0, none⟩ = some (.int .i64 l0) ∧ W2.cell? ⟨E, 1, none⟩ = some (.int .i64 l1) ∧ W2.cell? ⟨F, 0, none⟩ = some (.int .i64 m0) ∧ W2.cell? ⟨F, 1, none⟩ = some (.int .i64 m1))
    (exact HCE.out _ (by repeat (with_reducible first | exact Ext.refl _ | assumption | refine Ext.alloc ?_ _ | refine Ext.drew ?_)))
    ((first
      | (go_at_call 14; (with_reducible refine Calls.mono (c4 _) ?_); rintro e q1 ⟨nb5, zo5, za5, zc5, mb5, yo5, ya5, yc5, rfl, hN5, -, -, hq1⟩; have hxq1 : Ext y5 q1 := Ext.trans (by repeat (with_reducible first | exact Ext.refl _ | assumption | refine Ext.alloc ?_ _ | refine Ext.drew ?_)) hq1)
      | (go_at_call 14; (with_reducible refine Calls.mono (c5 _) ?_); rintro e q2 ⟨nb6, zo6, za6, zc6, mb6, yo6, ya6, yc6, rfl, hN6, -, -, hq2⟩; have hxq12 : Ext q1 q2 := Ext.trans (by repeat (with_reducible first | exact Ext.refl _ | assumption | refine Ext.alloc ?_ _ | refine Ext.drew ?_)) hq2; have hxq2 : Ext y5 q2 := hxq1.trans hxq12)
      | (go_at_call 13; (with_reducible refine Calls.mono (cmp_calls _ nb5 mb5 nb6 mb6 zo5 yo5 zo6 yo6 za5 zc5 ya5 yc5 za6 zc6 ya6 yc6 (lookR (D + 1) L) (lookR (D + 1) (L + 1)) (hN5.ext (by repeat (with_reducible first | exact Ext.refl _ | assumption | refine Ext.alloc ?_ _ | refine Ext.drew ?_))) (hN6.ext (by repeat (with_reducible first | exact Ext.refl _ | assumption | refine Ext.alloc ?_ _ | refine Ext.drew ?_))) fl fm) ?_); rintro e q3 ⟨rfl, hq3⟩; rw [← HZ.out.2.2]; have hxq3 : Ext y5 q3 := Ext.trans (by repeat (with_reducible first | exact Ext.refl _ | assumption | refine Ext.alloc ?_ _ | refine Ext.drew ?_)) hq3)
      | (go_at_call 11; (with_reducible refine Calls.mono (hac _ ?_) ?_); (exact HGl.out.ext (hx0y5.trans (by repeat (with_reducible first | exact Ext.refl _ | assumption | refine Ext.alloc ?_ _ | refine Ext.drew ?_)))); rintro e q4 ⟨rfl, hq4⟩; have hxq4 : Ext y5 q4 := Ext.trans (by repeat (with_reducible first | exact Ext.refl _ | assumption | refine Ext.alloc ?_ _ | refine Ext.drew ?_)) hq4)))
  all_goals
    go_wp2_with fail
    go_ret
    exact ⟨rfl, hx0y5.trans hxq4⟩
end Go.Proofs.YtefmioppamdceaaDoor
