/- The walk of InspectMinimax. -/
import Derived.Test.YtefmioppamdceaaDoorMIOpen
namespace Go.Proofs.YtefmioppamdceaaDoor
--@optional
open Go.RowKit Go.Shelf

set_option maxRecDepth 100000 in
set_option maxHeartbeats 4000000 in
theorem inspectMinimax_law (W : World) (hGl : Glob W) (go : Option Addr) (gc : Nat) (g : List (List Int)) (hG : GameIn W go g) (hgc : g.length ≤ gc) (v : Value) (s : Sadd) (hs : SadIn W v s) :
    Calls Tryd.prog 8 #[.slice go g.length gc, v] W (TrueRes W) := by
  obtain ⟨⟨ro, rc, co, cc, rfl, hR, hC⟩⟩ := hs
  have hfew := fun W2 (h : Ext W W2) => few_calls W2 go gc g (hG.ext h)
  have hac := fun W2 (h : Ext W W2) => alive_calls W2 (hGl.ext h)
  obtain ⟨vn, vd, r, rd, c, cd⟩ := s
  simp only at hR hC ⊢
  by_cases hF : fewB g = true ∧ r.length ≤ 20 ∧ c.length ≤ 20
  · obtain ⟨hf, hr20, hc20⟩ := hF
    have hFew := fewB_true.1 hf
    rw [hf] at hfew
    have hrz : ¬ (20 : Int) < (r.length : Int) := by omega
    have hcz : ¬ (20 : Int) < (c.length : Int) := by omega
    cases hgb : gameB g with
    | false =>
      have hsc := fun W2 (h : Ext W W2) => solve_bad W2 go gc g (hG.ext h) (by have := hFew.n; omega) (fun k hk => by have := hFew.m k hk; omega) hgb
      go_enter Tryd.func8, Tryd.ntmps8
      go_wp2_with fail
      refine (hfew _ (by repeat (first | exact Ext.refl _ | assumption | refine Ext.alloc ?_ _ | refine Ext.drewN ?_ _ | refine Ext.drew ?_))).mono ?_
      rintro e w2 ⟨rfl, hx2⟩
      have hx02 : Ext W w2 := Ext.trans (by repeat (first | exact Ext.refl _ | assumption | refine Ext.alloc ?_ _ | refine Ext.drewN ?_ _ | refine Ext.drew ?_)) hx2
      have k2 := (hx2.cell (p := ⟨W.heap.size, 2, none⟩) (by simp)).trans (show _ = some (.slice ro r.length rc) by simp [go_sem])
      have k4 := (hx2.cell (p := ⟨W.heap.size, 4, none⟩) (by simp)).trans (show _ = some (.slice co c.length cc) by simp [go_sem])
      go_wp2_with fail
      refine (hsc _ hx02).mono ?_
      rintro e w3 ⟨he, hx3⟩
      unfold noSad at he
      subst he
      have hx03 := hx02.trans hx3
      go_wp2_with fail
      refine (hac _ (hx03.alloc _)).mono ?_
      rintro e w4 ⟨rfl, hx4⟩
      go_wp2_with fail
      go_ret
      exact ⟨rfl, (hx03.alloc _).trans hx4⟩
    | true =>
      have hIsG := (gameB_iff g).1 hgb
      obtain ⟨tn, td, tr, trd, tc, tcd, hsol, hsc⟩ := solve_sol g _ hIsG
      have hT := hsol.isSad
      have hi := fun W2 (h : Ext W W2) (ro co : Option Addr) (rc cc : Nat) (s : Sadd) (h1 : IntsIn W2 ro s.r) (h2 : IntsIn W2 co s.c) (h3 : s.r.length ≤ 1000) (h4 : s.c.length ≤ 1000) => isI_calls W2 go ro co gc rc cc g s (hG.ext h) (by have := hFew.n; omega) (fun k hk => by have := hFew.m k hk; omega) h1 h2 h3 h4
      have hV : ∀ s : Sadd, IsSad g (rowI g 0).length s → isV g (sadB g s) = .tuple #[.bool true, .int .i64 0] := fun s h => by unfold isV; rw [hgb, sadB_true.2 h]; rfl
      have hVf : ∀ s : Sadd, sadB g s = false → isV g (sadB g s) = .tuple #[.bool false, .int .i64 0] := fun s h => by unfold isV; rw [hgb, h]; rfl
      have htl : tr.length ≤ 1000 ∧ tc.length ≤ 1000 := by have h1 := hsol.rl; have h2 := hsol.cl; have := hIsG.n5; have := hIsG.m5; omega
      have HV := Lib.hid hV
      have HVf := Lib.hid hVf
      have HT := Lib.hid hT
      clear hV hVf hT hsol hIsG hgb
      go_enter Tryd.func8, Tryd.ntmps8
      go_wp2_with fail
      obtain ⟨w1, hw1⟩ : ∃ w1, w1 = W.alloc (Obj.cells #[.int .i64 vn, .int .i64 vd, .slice ro r.length rc, .int .i64 rd, .slice co c.length cc, .int .i64 cd] 42) := ⟨_, rfl⟩
      obtain ⟨B, hB⟩ : ∃ B, B = W.heap.size := ⟨_, rfl⟩
      have hx1 : Ext W w1 := by rw [hw1]; exact (by repeat (first | exact Ext.refl _ | assumption | refine Ext.alloc ?_ _ | refine Ext.drewN ?_ _ | refine Ext.drew ?_))
      have k0 : w1.cell? ⟨B, 0, none⟩ = some (.int .i64 vn) := by rw [hw1, hB]; simp [go_sem]
      have k1 : w1.cell? ⟨B, 1, none⟩ = some (.int .i64 vd) := by rw [hw1, hB]; simp [go_sem]
      have k2 : w1.cell? ⟨B, 2, none⟩ = some (.slice ro r.length rc) := by rw [hw1, hB]; simp [go_sem]
      have k3 : w1.cell? ⟨B, 3, none⟩ = some (.int .i64 rd) := by rw [hw1, hB]; simp [go_sem]
      have k4 : w1.cell? ⟨B, 4, none⟩ = some (.slice co c.length cc) := by rw [hw1, hB]; simp [go_sem]
      have k5 : w1.cell? ⟨B, 5, none⟩ = some (.int .i64 cd) := by rw [hw1, hB]; simp [go_sem]
      have hBl : B < w1.heap.size := by rw [hw1, hB]; simp
      rw [← hw1, ← hB]
      clear hw1 hB
      refine (hfew _ hx1).mono ?_
      rintro e w2 ⟨rfl, hx2⟩
      have k0 := (hx2.cell (p := ⟨B, 0, none⟩) hBl).trans k0
      have k1 := (hx2.cell (p := ⟨B, 1, none⟩) hBl).trans k1
      have k2 := (hx2.cell (p := ⟨B, 2, none⟩) hBl).trans k2
      have k3 := (hx2.cell (p := ⟨B, 3, none⟩) hBl).trans k3
      have k4 := (hx2.cell (p := ⟨B, 4, none⟩) hBl).trans k4
      have k5 := (hx2.cell (p := ⟨B, 5, none⟩) hBl).trans k5
      have hBl := Nat.lt_of_lt_of_le hBl hx2.size
      have hx02 := hx1.trans hx2
      clear hfew hx1 hx2
      go_wp2_with fail
      refine (hsc w2 go gc (hG.ext hx02) hgc).mono ?_
      rintro e w3 ⟨rv, cv, rfl, hor, hoc, hx3⟩
      obtain ⟨ao, acap, rfl, hAI, -⟩ := hor.intsShape
      obtain ⟨bo, bcap, rfl, hBI, -⟩ := hoc.intsShape
      have k0 := (hx3.cell (p := ⟨B, 0, none⟩) hBl).trans k0
      have k1 := (hx3.cell (p := ⟨B, 1, none⟩) hBl).trans k1
      have k2 := (hx3.cell (p := ⟨B, 2, none⟩) hBl).trans k2
      have k3 := (hx3.cell (p := ⟨B, 3, none⟩) hBl).trans k3
      have k4 := (hx3.cell (p := ⟨B, 4, none⟩) hBl).trans k4
      have k5 := (hx3.cell (p := ⟨B, 5, none⟩) hBl).trans k5
      have hBl := Nat.lt_of_lt_of_le hBl hx3.size
      have hx03 := hx02.trans hx3
      clear hsc hx02 hx3 hor hoc
      go_wp2_with fail
      obtain ⟨w4, hw4⟩ : ∃ w1, w1 = w3.alloc (Obj.cells #[.int .i64 tn, .int .i64 td, .slice ao tr.length acap, .int .i64 trd, .slice bo tc.length bcap, .int .i64 tcd] 42) := ⟨_, rfl⟩
      obtain ⟨A, hA⟩ : ∃ B, B = w3.heap.size := ⟨_, rfl⟩
      have hx4 : Ext w3 w4 := by rw [hw4]; exact (by repeat (first | exact Ext.refl _ | assumption | refine Ext.alloc ?_ _ | refine Ext.drewN ?_ _ | refine Ext.drew ?_))
      have j0 : w4.cell? ⟨A, 0, none⟩ = some (.int .i64 tn) := by rw [hw4, hA]; simp [go_sem]
      have j1 : w4.cell? ⟨A, 1, none⟩ = some (.int .i64 td) := by rw [hw4, hA]; simp [go_sem]
      have j2 : w4.cell? ⟨A, 2, none⟩ = some (.slice ao tr.length acap) := by rw [hw4, hA]; simp [go_sem]
      have j3 : w4.cell? ⟨A, 3, none⟩ = some (.int .i64 trd) := by rw [hw4, hA]; simp [go_sem]
      have j4 : w4.cell? ⟨A, 4, none⟩ = some (.slice bo tc.length bcap) := by rw [hw4, hA]; simp [go_sem]
      have j5 : w4.cell? ⟨A, 5, none⟩ = some (.int .i64 tcd) := by rw [hw4, hA]; simp [go_sem]
      have hAl : A < w4.heap.size := by rw [hw4, hA]; simp
      rw [← hw4, ← hA]
      clear hw4 hA
      have k0 := (hx4.cell (p := ⟨B, 0, none⟩) hBl).trans k0
      have k1 := (hx4.cell (p := ⟨B, 1, none⟩) hBl).trans k1
      have k2 := (hx4.cell (p := ⟨B, 2, none⟩) hBl).trans k2
      have k3 := (hx4.cell (p := ⟨B, 3, none⟩) hBl).trans k3
      have k4 := (hx4.cell (p := ⟨B, 4, none⟩) hBl).trans k4
      have k5 := (hx4.cell (p := ⟨B, 5, none⟩) hBl).trans k5
      have hBl := Nat.lt_of_lt_of_le hBl hx4.size
      have hAI := hAI.ext hx4
      have hBI := hBI.ext hx4
      have hx04 := hx03.trans hx4
      clear hx03 hx4
      refine (hi w4 hx04 ao bo acap bcap ⟨tn, td, tr, trd, tc, tcd⟩ hAI hBI htl.1 htl.2).mono ?_
      rintro e w5 ⟨he, hx5⟩
      rw [HV.out _ HT.out] at he
      subst he
      have k0 := (hx5.cell (p := ⟨B, 0, none⟩) hBl).trans k0
      have k1 := (hx5.cell (p := ⟨B, 1, none⟩) hBl).trans k1
      have k2 := (hx5.cell (p := ⟨B, 2, none⟩) hBl).trans k2
      have k3 := (hx5.cell (p := ⟨B, 3, none⟩) hBl).trans k3
      have k4 := (hx5.cell (p := ⟨B, 4, none⟩) hBl).trans k4
      have k5 := (hx5.cell (p := ⟨B, 5, none⟩) hBl).trans k5
      have hBl := Nat.lt_of_lt_of_le hBl hx5.size
      have j0 := (hx5.cell (p := ⟨A, 0, none⟩) hAl).trans j0
      have j1 := (hx5.cell (p := ⟨A, 1, none⟩) hAl).trans j1
      have j2 := (hx5.cell (p := ⟨A, 2, none⟩) hAl).trans j2
      have j3 := (hx5.cell (p := ⟨A, 3, none⟩) hAl).trans j3
      have j4 := (hx5.cell (p := ⟨A, 4, none⟩) hAl).trans j4
      have j5 := (hx5.cell (p := ⟨A, 5, none⟩) hAl).trans j5
      have hAl := Nat.lt_of_lt_of_le hAl hx5.size
      have hAI := hAI.ext hx5
      have hBI := hBI.ext hx5
      have hx05 := hx04.trans hx5
      clear hx04 hx5
      go_wp2_with fail
      refine (hi w5 hx05 ro co rc cc ⟨vn, vd, r, rd, c, cd⟩ (hR.ext hx05) (hC.ext hx05) (by show r.length ≤ 1000; omega) (by show c.length ≤ 1000; omega)).mono ?_
      rintro e w6 ⟨he, hx6⟩
      have k0 := (hx6.cell (p := ⟨B, 0, none⟩) hBl).trans k0
      have k1 := (hx6.cell (p := ⟨B, 1, none⟩) hBl).trans k1
      have k2 := (hx6.cell (p := ⟨B, 2, none⟩) hBl).trans k2
      have k3 := (hx6.cell (p := ⟨B, 3, none⟩) hBl).trans k3
      have k4 := (hx6.cell (p := ⟨B, 4, none⟩) hBl).trans k4
      have k5 := (hx6.cell (p := ⟨B, 5, none⟩) hBl).trans k5
      have hBl := Nat.lt_of_lt_of_le hBl hx6.size
      have j0 := (hx6.cell (p := ⟨A, 0, none⟩) hAl).trans j0
      have j1 := (hx6.cell (p := ⟨A, 1, none⟩) hAl).trans j1
      have j2 := (hx6.cell (p := ⟨A, 2, none⟩) hAl).trans j2
      have j3 := (hx6.cell (p := ⟨A, 3, none⟩) hAl).trans j3
      have j4 := (hx6.cell (p := ⟨A, 4, none⟩) hAl).trans j4
      have j5 := (hx6.cell (p := ⟨A, 5, none⟩) hAl).trans j5
      have hAl := Nat.lt_of_lt_of_le hAl hx6.size
      have hAI := hAI.ext hx6
      have hBI := hBI.ext hx6
      have hx06 := hx05.trans hx6
      clear hx05 hx6
      cases hsb : sadB g ⟨vn, vd, r, rd, c, cd⟩ with
      | false =>
        rw [HVf.out _ hsb] at he
        subst he
        go_wp2_with fail
        refine (hac _ hx06).mono ?_
        rintro e w7 ⟨rfl, hx7⟩
        go_wp2_with fail
        go_ret
        exact ⟨rfl, hx06.trans hx7⟩
      | true =>
        have hS := sadB_true.1 hsb
        rw [HV.out _ hS] at he
        subst he
        obtain ⟨e1, e2⟩ := hS.same HT.out
        have M1 := hS.mix HT.out
        have M2 := HT.out.mix hS
        simp only at e1 e2 M1 M2
        subst e1
        subst e2
        have hq := eq_ratio vn vd
        have HM1 := Lib.hid M1
        have HM2 := Lib.hid M2
        clear hsb hS M1 M2
        go_wp2_with fail
        refine (hi w6 hx06 ro bo rc bcap ⟨vn, vd, r, rd, tc, tcd⟩ (hR.ext hx06) hBI (by show r.length ≤ 1000; omega) htl.2).mono ?_
        rintro e w7 ⟨he, hx7⟩
        rw [HV.out _ HM1.out] at he
        subst he
        have k0 := (hx7.cell (p := ⟨B, 0, none⟩) hBl).trans k0
        have k1 := (hx7.cell (p := ⟨B, 1, none⟩) hBl).trans k1
        have k2 := (hx7.cell (p := ⟨B, 2, none⟩) hBl).trans k2
        have k3 := (hx7.cell (p := ⟨B, 3, none⟩) hBl).trans k3
        have k4 := (hx7.cell (p := ⟨B, 4, none⟩) hBl).trans k4
        have k5 := (hx7.cell (p := ⟨B, 5, none⟩) hBl).trans k5
        have hBl := Nat.lt_of_lt_of_le hBl hx7.size
        have j0 := (hx7.cell (p := ⟨A, 0, none⟩) hAl).trans j0
        have j1 := (hx7.cell (p := ⟨A, 1, none⟩) hAl).trans j1
        have j2 := (hx7.cell (p := ⟨A, 2, none⟩) hAl).trans j2
        have j3 := (hx7.cell (p := ⟨A, 3, none⟩) hAl).trans j3
        have j4 := (hx7.cell (p := ⟨A, 4, none⟩) hAl).trans j4
        have j5 := (hx7.cell (p := ⟨A, 5, none⟩) hAl).trans j5
        have hAl := Nat.lt_of_lt_of_le hAl hx7.size
        have hAI := hAI.ext hx7
        have hx07 := hx06.trans hx7
        clear hx06 hx7
        go_wp2_with fail
        refine (hi w7 hx07 ao co acap cc ⟨vn, vd, tr, trd, c, cd⟩ hAI (hC.ext hx07) htl.1 (by show c.length ≤ 1000; omega)).mono ?_
        rintro e w8 ⟨he, hx8⟩
        rw [HV.out _ HM2.out] at he
        subst he
        have k0 := (hx8.cell (p := ⟨B, 0, none⟩) hBl).trans k0
        have k1 := (hx8.cell (p := ⟨B, 1, none⟩) hBl).trans k1
        have k2 := (hx8.cell (p := ⟨B, 2, none⟩) hBl).trans k2
        have k3 := (hx8.cell (p := ⟨B, 3, none⟩) hBl).trans k3
        have k4 := (hx8.cell (p := ⟨B, 4, none⟩) hBl).trans k4
        have k5 := (hx8.cell (p := ⟨B, 5, none⟩) hBl).trans k5
        have hBl := Nat.lt_of_lt_of_le hBl hx8.size
        have j0 := (hx8.cell (p := ⟨A, 0, none⟩) hAl).trans j0
        have j1 := (hx8.cell (p := ⟨A, 1, none⟩) hAl).trans j1
        have j2 := (hx8.cell (p := ⟨A, 2, none⟩) hAl).trans j2
        have j3 := (hx8.cell (p := ⟨A, 3, none⟩) hAl).trans j3
        have j4 := (hx8.cell (p := ⟨A, 4, none⟩) hAl).trans j4
        have j5 := (hx8.cell (p := ⟨A, 5, none⟩) hAl).trans j5
        have hAl := Nat.lt_of_lt_of_le hAl hx8.size
        have hx08 := hx07.trans hx8
        clear hx07 hx8 hi
        go_wp2_with fail
        refine (hac _ hx08).mono ?_
        rintro e w9 ⟨rfl, hx9⟩
        go_wp2_with fail
        go_ret
        exact ⟨rfl, hx08.trans hx9⟩
  · cases hb : fewB g with
    | false =>
      rw [hb] at hfew
      go_enter Tryd.func8, Tryd.ntmps8
      go_wp2_with fail
      refine (hfew _ (by repeat (first | exact Ext.refl _ | assumption | refine Ext.alloc ?_ _ | refine Ext.drewN ?_ _ | refine Ext.drew ?_))).mono ?_
      rintro e w2 ⟨rfl, hx2⟩
      have hx02 : Ext W w2 := Ext.trans (by repeat (first | exact Ext.refl _ | assumption | refine Ext.alloc ?_ _ | refine Ext.drewN ?_ _ | refine Ext.drew ?_)) hx2
      go_wp2_with fail
      refine (hac _ hx02).mono ?_
      rintro e w3 ⟨rfl, hx3⟩
      go_wp2_with fail
      go_ret
      exact ⟨rfl, hx02.trans hx3⟩
    | true =>
      rw [hb] at hfew
      have hF2 : ¬ (r.length ≤ 20 ∧ c.length ≤ 20) := fun h => hF ⟨hb, h⟩
      clear hF hb
      by_cases hr : 20 < r.length
      · have hrz : (20 : Int) < (r.length : Int) := by omega
        go_enter Tryd.func8, Tryd.ntmps8
        go_wp2_with fail
        refine (hfew _ (by repeat (first | exact Ext.refl _ | assumption | refine Ext.alloc ?_ _ | refine Ext.drewN ?_ _ | refine Ext.drew ?_))).mono ?_
        rintro e w2 ⟨rfl, hx2⟩
        have hx02 : Ext W w2 := Ext.trans (by repeat (first | exact Ext.refl _ | assumption | refine Ext.alloc ?_ _ | refine Ext.drewN ?_ _ | refine Ext.drew ?_)) hx2
        have k2 := (hx2.cell (p := ⟨W.heap.size, 2, none⟩) (by simp)).trans (show _ = some (.slice ro r.length rc) by simp [go_sem])
        go_wp2_with fail
        refine (hac _ hx02).mono ?_
        rintro e w3 ⟨rfl, hx3⟩
        go_wp2_with fail
        go_ret
        exact ⟨rfl, hx02.trans hx3⟩
      · have hc : 20 < c.length := by omega
        have hrz : ¬ (20 : Int) < (r.length : Int) := by omega
        have hcz : (20 : Int) < (c.length : Int) := by omega
        go_enter Tryd.func8, Tryd.ntmps8
        go_wp2_with fail
        refine (hfew _ (by repeat (first | exact Ext.refl _ | assumption | refine Ext.alloc ?_ _ | refine Ext.drewN ?_ _ | refine Ext.drew ?_))).mono ?_
        rintro e w2 ⟨rfl, hx2⟩
        have hx02 : Ext W w2 := Ext.trans (by repeat (first | exact Ext.refl _ | assumption | refine Ext.alloc ?_ _ | refine Ext.drewN ?_ _ | refine Ext.drew ?_)) hx2
        have k2 := (hx2.cell (p := ⟨W.heap.size, 2, none⟩) (by simp)).trans (show _ = some (.slice ro r.length rc) by simp [go_sem])
        have k4 := (hx2.cell (p := ⟨W.heap.size, 4, none⟩) (by simp)).trans (show _ = some (.slice co c.length cc) by simp [go_sem])
        go_wp2_with fail
        refine (hac _ hx02).mono ?_
        rintro e w3 ⟨rfl, hx3⟩
        go_wp2_with fail
        go_ret
        exact ⟨rfl, hx02.trans hx3⟩
end Go.Proofs.YtefmioppamdceaaDoor
