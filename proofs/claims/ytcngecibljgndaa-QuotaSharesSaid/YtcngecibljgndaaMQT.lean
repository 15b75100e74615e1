/- tabled: the tableau of sets. -/
import Derived.Test.YtcngecibljgndaaMQTB
namespace Go.Proofs.Ytcngecibljgndaa
open Go.RowKit Go.Shelf

theorem news_keep {W w5 : World} {row : Option Nat} {x : Value} {z : Nat} (hc : W.cell? ⟨z, 0, none⟩ = some x) (hz : z < W.heap.size) (hg : W.grownBy w5 row) (hne : some z ≠ row) : ∀ (j : Nat) (u : Value), [x][j]? = some u → w5.cell? (Addr.add ⟨z, 0, none⟩ j) = some u := by
  intro j u h
  cases j with
  | zero =>
    simp only [List.getElem?_cons_zero, Option.some.injEq] at h
    subst h
    exact (grownBy_cell (p := ⟨z, 0, none⟩) hg hz hne).trans hc
  | succ j => simp at h
/-- A region, and what follows apart from it. -/
theorem wp_region_tail {c : Code} {P : Program} {Q : Exit → Act → World → Prop} {a : Act} {w : World} {F : Act → Act → World → Prop} (h1 : c.wp P (NoPanic (fun e a' w' => e = .normal ∧ F a a' w')) a w) (h2 : ∀ a' w', F a a' w' → Q .normal a' w') : c.wp P Q a w :=
  Code.wp_mono (fun e a' w' h => by obtain ⟨rfl, k⟩ := NoPanic.imp e a' w' h; exact h2 a' w' k) h1
/-- What the two appends leave. -/
def TwoApp (wy : World) (W t R m : Nat) (lw : Int) (ao : Option Addr) (l cap c : Nat) (rv bv : Value) (rvs bvs : List Value) (a a' : Act) (w' : World) : Prop :=
  ∃ (v5 v6 : Value) (z1 z2 : Nat), a' = ((((((((((((((((((((((((a.put (some 87) (.pointer (some ⟨t, 0, none⟩))).put (some 88) (.pointer (some ⟨t, 0, none⟩))).put (some 89) (.pointer (some ⟨t, 0, none⟩))).put (some 90) (.pointer (some ⟨t, 0, none⟩))).put (some 91) (.pointer (some ⟨t, 2, none⟩))).put (some 92) rv).put (some 93) (.slice (some ⟨R, 0, none⟩) m m)).put (some 94) (.slice (some ⟨z1, 0, none⟩) 1 1)).put (some 95) v5).put (some 96) (.pointer (some ⟨t, 0, none⟩))).put (some 97) (.pointer (some ⟨t, 0, none⟩))).put (some 98) (.pointer (some ⟨t, 4, none⟩))).put (some 99) bv).put (some 100) (.slice ao l cap)).put (some 101) (.int .i64 l)).put (some 102) (.int .i64 c)).put (some 103) (.int .i64 lw)).put (some 104) (.slice (some ⟨z2, 0, none⟩) 1 1)).put (some 105) v6).put (some 106) (.pointer (some ⟨t, 0, none⟩))).put (some 107) (.pointer (some ⟨t, 2, none⟩))).put (some 108) (.pointer (some ⟨t, 0, none⟩))).put (some 109) (.pointer (some ⟨t, 4, none⟩)))) ∧
    ∃ wA w5 wB w6 wC, Ext wy wA ∧ wA.grownBy w5 rv.ownBlock ∧ Ext w5 wB ∧ wB.grownBy w6 bv.ownBlock ∧ Ext w6 wC ∧ w' = (wC.setCell ⟨t, 2, none⟩ v5).setCell ⟨t, 4, none⟩ v6 ∧
      Own w5 W 1 v5 (rvs ++ [.slice (some ⟨R, 0, none⟩) m m]) ∧ (∀ k, v5.ownBlock = some k → rv.ownBlock = some k ∨ wA.heap.size ≤ k) ∧
      Own w6 W 1 v6 (bvs ++ [.int .i64 lw]) ∧ (∀ k, v6.ownBlock = some k → bv.ownBlock = some k ∨ wB.heap.size ≤ k) ∧ (Off0 rv → Off0 v5) ∧ (Off0 bv → Off0 v6)
set_option linter.unusedSimpArgs false in
set_option maxRecDepth 100000 in
set_option maxHeartbeats 8000000 in
theorem tabled_calls (w : World) (n : Nat) (ao : Option Addr) (cap : Nat) (ss : List Int) (hI : IntsIn w ao ss) (hl : ss.length ≤ 1000) (hn : 1 ≤ n ∧ n ≤ 7) (hs : Upto 127 ss) :
    Calls Try.prog 66 #[.int .i64 n, .slice ao ss.length cap] w (fun e w' => ∃ A : Ats, e = .returned (.pointer (some ⟨A.t, 0, none⟩)) ∧ TabAt w' w.heap.size A (tabK n ss n) ∧ Ext w w') := by
  obtain ⟨i0, hi, hz0, hz1, hz2⟩ := info_parts info_int
  obtain ⟨j0, hj, hy0, hy1, hy2⟩ := info_parts info_row'
  have HSS := Lib.hid hs
  clear hs
  have hw1 : IntKind.i64.wrap ((ss.length : Int) + (n : Int)) = (ss.length : Int) + (n : Int) := by rw [IntKind.wrap_i64]; omega
  have hw2 : IntKind.i64.wrap ((ss.length : Int) + (n : Int) + 1) = (ss.length : Int) + (n : Int) + 1 := by rw [IntKind.wrap_i64]; omega
  obtain ⟨m, hm⟩ : ∃ m, m = ss.length + n + 1 := ⟨_, rfl⟩
  have hmk : ∀ W, (Instr.makeSlice 22 (.int .i64 ((ss.length : Int) + (n : Int) + 1)) (.int .i64 ((ss.length : Int) + (n : Int) + 1))).run Try.prog W = .ok (.slice (some ⟨W.heap.size, 0, none⟩) m m) (W.alloc (.cells (Array.replicate m (.int .i64 0)) 3)) := fun W => by
    have := make_ints m (by omega) W
    have e : ((m : Nat) : Int) = (ss.length : Int) + (n : Int) + 1 := by rw [hm]; simp
    rw [e] at this
    exact this
  have HM := Lib.hid hm
  have hm200 : m ≤ 1100 := by omega
  clear hm
  go_enter Try.func66, Try.ntmps66
  go_wp2_with fail
  obtain ⟨t, ht⟩ : ∃ t, t = w.heap.size := ⟨_, rfl⟩
  obtain ⟨w1, hw1'⟩ : ∃ w1, w1 = ((w.alloc (.cells #[.int .i64 ss.length, .int .i64 n, .slice none 0 0, .slice (some ⟨w.heap.size + 1, 0, none⟩) m m, .slice none 0 0, .int .i64 1] 103)).alloc (.cells (Array.replicate m (.int .i64 0)) 3)) := ⟨_, rfl⟩
  have hx1 : Ext w w1 := by rw [hw1']; exact (by repeat (first | exact Ext.refl _ | assumption | refine Ext.alloc ?_ _ | refine Ext.drewN ?_ _ | refine Ext.drew ?_))
  have hs1 : w1.heap.size = t + 2 := by rw [hw1', ht]; simp
  have hgl1 : ∀ j, j < m → w1.cell? ⟨t + 1, j, none⟩ = some (.int .i64 (ith (goalOf n ss 0) j)) ∧ w1.frozen? ⟨t + 1, j, none⟩ = false := fun j hj => by
    have hj2 : j < ss.length + n + 1 := by rw [← HM.out]; exact hj
    rw [hw1', ht]; exact ⟨by simp [go_sem, hj, goalOf, ith, hj2], by simp [go_sem]⟩
  have hH1 : Half w1 t (t + 2) n ss m 0 (.slice none 0 0) (.slice none 0 0) (fun _ => 0) := by
    refine ⟨by omega, rfl, ?_, ?_, ?_, ?_, ?_, ?_, fun k k1 k2 => ?_, Own.nil _ _ _, ⟨fun i hi => by omega, fun i j hi => by omega, fun i j hi => by omega⟩, Own.nil _ _ _, fun j hj => by omega, fun j hj => by omega, fun q hq => by simp [Value.ownBlock] at hq, Off0.nil, Off0.nil⟩
    all_goals rw [hw1', ht]
    all_goals simp [go_sem]
  rw [← hw1', ← ht]
  have htw : t ≤ w.heap.size := by omega
  have htw2 : w.heap.size ≤ t := by omega
  clear hw1' ht
  go_loopw [29] (fun iv wr => ∃ (c : Nat) (rv bv : Value) (rb : Nat → Nat), c ≤ n ∧ iv = .int .i64 c ∧ Half wr t (t + 2) n ss m c rv bv rb ∧ Ext w wr ∧ Hid (∀ j, j < m → wr.cell? ⟨t + 1, j, none⟩ = some (.int .i64 (ith (goalOf n ss c) j)) ∧ wr.frozen? ⟨t + 1, j, none⟩ = false)) (fun iv _ => n - (intOf iv).toNat)
  case atStart => exact ⟨0, _, _, _, by omega, rfl, hH1, hx1, Lib.hid hgl1⟩
  case round =>
    clear hH1 hx1 hgl1
    obtain ⟨c, rv, bv, rb, hc, rfl, hH, hx, HG⟩ := hrel
    by_cases hlt : c < n
    · go_wp2_with fail
      obtain ⟨R, hR⟩ : ∃ R, R = wr.heap.size := ⟨_, rfl⟩
      obtain ⟨wa, hwa⟩ : ∃ wa, wa = wr.alloc (.cells (Array.replicate m (.int .i64 0)) 3) := ⟨_, rfl⟩
      have hxa : Ext wr wa := by rw [hwa]; exact (by repeat (first | exact Ext.refl _ | assumption | refine Ext.alloc ?_ _ | refine Ext.drewN ?_ _ | refine Ext.drew ?_))
      have hRa : ∀ j, j < m → wa.cell? ⟨R, j, none⟩ = some (.int .i64 (ith (rowK n ss c 0) j)) ∧ wa.frozen? ⟨R, j, none⟩ = false := fun j hj => by
        rw [hwa, hR, rowK, ith_map_range _ _ _ (by rw [← HM.out]; exact hj)]; exact ⟨by simp [go_sem, hj], by simp [go_sem]⟩
      have hsa : wa.heap.size = R + 1 := by rw [hwa, hR]; simp
      rw [← hwa, ← hR]
      have hRw : wr.heap.size ≤ R := by omega
      have hHa := hH.ext hxa
      have hxwa := hx.trans hxa
      have HGa : Hid (∀ j, j < m → wa.cell? ⟨t + 1, j, none⟩ = some (.int .i64 (ith (goalOf n ss c) j)) ∧ wa.frozen? ⟨t + 1, j, none⟩ = false) := Lib.hid (fun j hj => by
        have := HG.out j hj
        have hs := hH.size
        exact ⟨(hxa.cell (p := ⟨t + 1, j, none⟩) (by show t + 1 < _; omega)).trans this.1, (hxa.frozen (p := ⟨t + 1, j, none⟩) (by show t + 1 < _; omega)).trans this.2⟩)
      have hRt : t + 2 ≤ R := by have := hH.size; omega
      have hRW : w.heap.size ≤ R := by have := hx.size; omega
      clear hwa hR
      go_loopw [36] (fun iv wz => ∃ k : Nat, k ≤ ss.length ∧ iv = .int .i64 k ∧ wa.grownBy wz (some R) ∧ Hid (∀ j, j < m → wz.cell? ⟨R, j, none⟩ = some (.int .i64 (ith (rowK n ss c k) j)) ∧ wz.frozen? ⟨R, j, none⟩ = false)) (fun iv _ => ss.length - (intOf iv).toNat)
      case atStart => exact ⟨0, by omega, rfl, (Ext.refl _).grown _, Lib.hid hRa⟩
      case round =>
        rename World => wz
        clear hRa
        obtain ⟨k, hk, rfl, hgz, HZ⟩ := hrel
        have hxz : Ext w wz := hxwa.onto hgz (fun q hq => by simp only [Option.some.injEq] at hq; omega)
        by_cases hlt2 : k < ss.length
        · obtain ⟨b, off, rfl, hb, hck⟩ := hI.ext hxz k hlt2
          have hkm : k < m := by have := HM.out; omega
          have hzk := HZ.out k hkm
          have hsk := HSS.out.at_ k hlt2
          obtain ⟨q, hq⟩ : ∃ q : Nat, ith ss k = (q : Int) := ⟨(ith ss k).toNat, by omega⟩
          have hq7 : q < 128 := by omega
          rw [hq] at hck
          obtain ⟨hzk1, hzk2⟩ := hzk
          have hRz : R < wz.heap.size := by have := hgz.size; omega
          have hin := in_all ⟨q, hq7⟩ ⟨c, by omega⟩
          simp only [] at hin
          go_wp2_with fail
          refine ⟨⟨k + 1, by omega, rfl, grownBy_trans hgz (grownBy_setCell wz ⟨R, k, none⟩ _), Lib.hid (fun j hj => ⟨?_, by rw [World.frozen?_setCell]; exact (HZ.out j hj).2⟩)⟩, by simp only [intOf]; omega⟩
          have hjm : j < ss.length + n + 1 := by rw [← HM.out]; exact hj
          have hzj := (HZ.out j hj).1
          rw [rowK, ith_map_range _ _ _ hjm] at hzj ⊢
          by_cases e : j = k
          · subst e
            rw [if_pos (by omega), hq]; exact World.cell?_setCell_same _ _ _ hzk1
          · rw [World.cell?_setCell_other _ _ _ _ (fun e2 => e (by simp only [Addr.mk.injEq, and_true, true_and] at e2; exact e2.symm)), hzj]
            by_cases h2 : j < k
            · rw [if_pos h2, if_pos (by omega)]
            · rw [if_neg h2, if_neg (by omega)]
        · obtain rfl : k = ss.length := by omega
          have hmm := HM.out
          have hRz : R < wz.heap.size := by have := hgz.size; omega
          have k1 : ss.length + c < m := by omega
          have k2 : ss.length + n < m := by omega
          have k3 : (ss.length : Int) + (c : Int) < (m : Int) := by omega
          have k4 : (ss.length : Int) + (n : Int) < (m : Int) := by omega
          have k5 : (0 : Int) ≤ (ss.length : Int) + (c : Int) := by omega
          have k6 : (0 : Int) ≤ (ss.length : Int) + (n : Int) := by omega
          have y1 := (HZ.out _ k1).1
          have y2 := (HZ.out _ k1).2
          have y3 := (HZ.out _ k2).1
          have y4 := (HZ.out _ k2).2
          have y5 : (wz.setCell ⟨R, ss.length + c, none⟩ (.int .i64 1)).cell? ⟨R, ss.length + n, none⟩ = some (.int .i64 (ith (rowK n ss c ss.length) (ss.length + n))) := by
            rw [World.cell?_setCell_other _ _ _ _ (fun e2 => by simp only [Addr.mk.injEq, and_true, true_and] at e2; omega)]; exact y3
          have hgy : wa.grownBy ((wz.setCell ⟨R, ss.length + c, none⟩ (.int .i64 1)).setCell ⟨R, ss.length + n, none⟩ (.int .i64 1)) (some R) := grownBy_trans (grownBy_trans hgz (grownBy_setCell wz ⟨R, ss.length + c, none⟩ _)) (grownBy_setCell _ ⟨R, ss.length + n, none⟩ _)
          have hRy : Hid (∀ j, j < m → ((wz.setCell ⟨R, ss.length + c, none⟩ (.int .i64 1)).setCell ⟨R, ss.length + n, none⟩ (.int .i64 1)).cell? ⟨R, j, none⟩ = some (.int .i64 (ith (rowOf n ss c) j)) ∧ ((wz.setCell ⟨R, ss.length + c, none⟩ (.int .i64 1)).setCell ⟨R, ss.length + n, none⟩ (.int .i64 1)).frozen? ⟨R, j, none⟩ = false) := Lib.hid (fun j hj => by
            have hrl : (rowK n ss c ss.length).length = m := by rw [rowK]; simp [hmm]
            refine ⟨?_, by rw [World.frozen?_setCell, World.frozen?_setCell]; exact (HZ.out j hj).2⟩
            rw [rowOf, ith_set _ _ _ _ (by rw [List.length_set, hrl]; exact k2)]
            by_cases e : j = ss.length + n
            · subst e; rw [if_pos rfl]; exact World.cell?_setCell_same _ _ _ y5
            · rw [if_neg e, World.cell?_setCell_other _ _ _ _ (fun e2 => e (by simp only [Addr.mk.injEq, and_true, true_and] at e2; exact e2.symm)), ith_set _ _ _ _ (by rw [hrl]; exact k1)]
              by_cases e' : j = ss.length + c
              · subst e'; rw [if_pos rfl]; exact World.cell?_setCell_same _ _ _ y1
              · rw [if_neg e', World.cell?_setCell_other _ _ _ _ (fun e2 => e' (by simp only [Addr.mk.injEq, and_true, true_and] at e2; exact e2.symm))]
                exact (HZ.out j hj).1)
          clear hmm
          go_wp2_with fail
          have hx3 : Ext wr ((wz.setCell ⟨R, ss.length + c, none⟩ (.int .i64 1)).setCell ⟨R, ss.length + n, none⟩ (.int .i64 1)) := hxa.onto hgy (fun q hq => by simp only [Option.some.injEq] at hq; omega)
          generalize ((wz.setCell ⟨R, ss.length + c, none⟩ (.int .i64 1)).setCell ⟨R, ss.length + n, none⟩ (.int .i64 1)) = w3 at *
          have hR3 : R < w3.heap.size := by have := hgy.size; omega
          clear y1 y2 y3 y4 y5 hgy hgz hxz HZ hHa hxwa HGa hxa
          have hH3 := hH.ext hx3
          have HG3 : Hid (∀ j, j < m → w3.cell? ⟨t + 1, j, none⟩ = some (.int .i64 (ith (goalOf n ss c) j)) ∧ w3.frozen? ⟨t + 1, j, none⟩ = false) := Lib.hid (fun j hj => by
            have := HG.out j hj
            have hs := hH.size
            exact ⟨(hx3.cell (p := ⟨t + 1, j, none⟩) (by show t + 1 < _; omega)).trans this.1, (hx3.frozen (p := ⟨t + 1, j, none⟩) (by show t + 1 < _; omega)).trans this.2⟩)
          go_loopw [61] (fun iv wy => ∃ k : Nat, k ≤ m ∧ iv = .int .i64 k ∧ w3.grownBy wy (some (t + 1)) ∧ Hid (∀ j, j < m → wy.cell? ⟨t + 1, j, none⟩ = some (.int .i64 (ith (lessRow ss.length n (goalOf n ss c) (rowOf n ss c) k) j)) ∧ wy.frozen? ⟨t + 1, j, none⟩ = false)) (fun iv _ => m - (intOf iv).toNat)
          case atStart => exact ⟨0, by omega, rfl, (Ext.refl _).grown _, Lib.hid (fun j hj => by
            have := HG3.out j hj
            rw [lessRow, ith_map_range _ _ _ (by rw [← HM.out]; exact hj), if_neg (by omega)]
            exact this)⟩
          case round =>
            rename World => wy
            obtain ⟨k, hk, rfl, hgy, HY⟩ := hrel
            have hHy := hH3.goal hgy
            by_cases hlt3 : k < m
            · have hkk : k < ss.length + n + 1 := by rw [← HM.out]; exact hlt3
              have hne : t + 1 ≠ R := by omega
              have x1 : wy.cell? ⟨R, k, none⟩ = some (.int .i64 (ith (rowOf n ss c) k)) := (grownBy_cell (p := ⟨R, k, none⟩) hgy hR3 (fun e => hne (by simpa using e.symm))).trans (hRy.out k hlt3).1
              have x2 := hHy.c3
              have x3 := (HY.out k hlt3).1
              have x4 := (HY.out k hlt3).2
              have x5 : t < wy.heap.size := by have := hHy.size; omega
              have x6 : R < wy.heap.size := by have := hgy.size; omega
              have x7 : t + 1 < wy.heap.size := by have := hHy.size; omega
              have b1 := rowOf_bounds n ss c k hlt hkk
              have b2 := goalOf_bounds n ss c k (by omega) hkk
              have hle : ith (lessRow ss.length n (goalOf n ss c) (rowOf n ss c) k) k = ith (goalOf n ss c) k := by rw [lessRow, ith_map_range _ _ _ hkk, if_neg (by omega)]
              rw [hle] at x3
              have hstep : ∀ (u : Int), u = (if k < ss.length ∨ k = ss.length + n then ith (goalOf n ss c) k - ith (rowOf n ss c) k else ith (goalOf n ss c) k) → ∀ wq : World, (∀ j, j < m → wq.cell? ⟨t + 1, j, none⟩ = (if j = k then some (.int .i64 u) else wy.cell? ⟨t + 1, j, none⟩)) → ∀ j, j < m → wq.cell? ⟨t + 1, j, none⟩ = some (.int .i64 (ith (lessRow ss.length n (goalOf n ss c) (rowOf n ss c) (k + 1)) j)) := by
                intro u hu wq hwq j hj
                have hjm : j < ss.length + n + 1 := by rw [← HM.out]; exact hj
                have hYj := (HY.out j hj).1
                rw [lessRow, ith_map_range _ _ _ hjm] at hYj ⊢
                rw [hwq j hj]
                by_cases e : j = k
                · subst e
                  rw [if_pos rfl, hu]
                  by_cases h3 : j < ss.length ∨ j = ss.length + n
                  · rw [if_pos h3, if_pos ⟨by omega, h3⟩]
                  · rw [if_neg h3, if_neg (fun h => h3 h.2)]
                · rw [if_neg e, hYj]
                  by_cases h2 : j < k
                  · by_cases h3 : j < ss.length ∨ j = ss.length + n
                    · rw [if_pos ⟨h2, h3⟩, if_pos ⟨by omega, h3⟩]
                    · rw [if_neg (fun h => h3 h.2), if_neg (fun h => h3 h.2)]
                  · rw [if_neg (fun h => h2 h.1), if_neg (fun h => by omega)]
              have HST := Lib.hid hstep
              clear hstep hle
              have hset : Hid (∀ u : Int, ∀ j, j < m → (wy.setCell ⟨t + 1, k, none⟩ (.int .i64 u)).cell? ⟨t + 1, j, none⟩ = (if j = k then some (.int .i64 u) else wy.cell? ⟨t + 1, j, none⟩)) := Lib.hid (fun u j hj => by
                by_cases e : j = k
                · subst e; rw [if_pos rfl]; exact World.cell?_setCell_same _ _ _ x3
                · rw [if_neg e, World.cell?_setCell_other _ _ _ _ (fun e2 => e (by simp only [Addr.mk.injEq, and_true, true_and] at e2; exact e2.symm))])
              by_cases hks : k < ss.length
              · have hks2 : decide ((k : Int) < (ss.length : Int)) = true := by simp; omega
                have HU := Lib.hid (show ith (goalOf n ss c) k - ith (rowOf n ss c) k = (if k < ss.length ∨ k = ss.length + n then ith (goalOf n ss c) k - ith (rowOf n ss c) k else ith (goalOf n ss c) k) by rw [if_pos (.inl hks)])
                go_wp2_with fail
                exact ⟨⟨k + 1, by omega, rfl, grownBy_trans hgy (grownBy_setCell wy ⟨t + 1, k, none⟩ _), Lib.hid (fun j hj => ⟨HST.out _ HU.out _ (hset.out _) j hj, by rw [World.frozen?_setCell]; exact (HY.out j hj).2⟩)⟩, by simp only [intOf]; omega⟩
              · have hks2 : decide ((k : Int) < (ss.length : Int)) = false := by simp; omega
                by_cases hkn : k = ss.length + n
                · have hkn2 : ((k : Int) == (ss.length : Int) + (n : Int)) = true := by simp; omega
                  have HU := Lib.hid (show ith (goalOf n ss c) k - ith (rowOf n ss c) k = (if k < ss.length ∨ k = ss.length + n then ith (goalOf n ss c) k - ith (rowOf n ss c) k else ith (goalOf n ss c) k) by rw [if_pos (.inr hkn)])
                  clear hkn
                  go_wp2_with fail
                  exact ⟨⟨k + 1, by omega, rfl, grownBy_trans hgy (grownBy_setCell wy ⟨t + 1, k, none⟩ _), Lib.hid (fun j hj => ⟨HST.out _ HU.out _ (hset.out _) j hj, by rw [World.frozen?_setCell]; exact (HY.out j hj).2⟩)⟩, by simp only [intOf]; omega⟩
                · have hkn2 : ((k : Int) == (ss.length : Int) + (n : Int)) = false := by simp; omega
                  have HU := Lib.hid (show ith (goalOf n ss c) k = (if k < ss.length ∨ k = ss.length + n then ith (goalOf n ss c) k - ith (rowOf n ss c) k else ith (goalOf n ss c) k) by rw [if_neg (by omega)])
                  have HX3 := Lib.hid x3
                  go_wp2_with fail
                  exact ⟨⟨k + 1, by omega, rfl, hgy, Lib.hid (fun j hj => ⟨HST.out _ HU.out _ (fun j2 hj2 => by
                    by_cases e : j2 = k
                    · subst e; rw [if_pos rfl]; exact HX3.out
                    · rw [if_neg e]) j hj, (HY.out j hj).2⟩)⟩, by simp only [intOf]; omega⟩
            · obtain rfl : m = k := by omega
              have HGY : Hid (∀ j, j < m → wy.cell? ⟨t + 1, j, none⟩ = some (.int .i64 (ith (goalOf n ss (c + 1)) j)) ∧ wy.frozen? ⟨t + 1, j, none⟩ = false) := Lib.hid (fun j hj => by
                have := HY.out j hj
                rw [goalOf, ← HM.out]; exact this)
              have hxy : Ext w wy := (hx.trans hx3).onto hgy (fun q hq => by simp only [Option.some.injEq] at hq; omega)
              have hRR : ∀ j, j < m → wy.cell? ⟨R, j, none⟩ = some (.int .i64 (ith (rowOf n ss c) j)) ∧ wy.frozen? ⟨R, j, none⟩ = false := fun j hj =>
                ⟨(grownBy_cell (p := ⟨R, j, none⟩) hgy hR3 (fun e => by simp at e; omega)).trans (hRy.out j hj).1, (grownBy_frozen (p := ⟨R, j, none⟩) hgy hR3 (fun e => by simp at e; omega)).trans (hRy.out j hj).2⟩
              have HRR := Lib.hid hRR
              have hRl : R < wy.heap.size := by have := hgy.size; omega
              have hrvR : Hid ((∀ q, rv.ownBlock = some q → q < R) ∧ (∀ q, bv.ownBlock = some q → q < R) ∧ ∀ i, i < c → rb i < R) := Lib.hid ⟨fun q hq => by have := (hH.rows.lt q hq).2; omega, fun q hq => by have := (hH.bas.lt q hq).2; omega, fun i hi => by have := (hH.grid.low i hi).2; omega⟩
              clear HY hgy hx3 hH3 HG3 hH HG hRy hRR hR3 k1 k2 k3 k4 k5 k6
              have hsy := hHy.size
              have d2 := hHy.c2
              have d4 := hHy.c4
              have df2 := hHy.free 2 (by omega) (by omega)
              have df4 := hHy.free 4 (by omega) (by omega)
              have dl : t < wy.heap.size := by omega
              have hrow := hHy.rows
              have hbas := hHy.bas
              have hwb : IntKind.i64.wrap ((ss.length : Int) + (c : Int)) = (ss.length : Int) + (c : Int) := by rw [IntKind.wrap_i64]; omega
              have hap3 := hHy.ap3
              have hneT : ∀ q, rv.ownBlock = some q → t ≠ q := fun q hq => by have := (hrow.lt q hq).1; omega
              have hneT2 : ∀ q, bv.ownBlock = some q → t ≠ q := fun q hq => by have := (hbas.lt q hq).1; omega
              have hTF : TF wy t rv bv := ⟨d2, d4, df2, df4, dl⟩
              have HHy := Lib.hid hHy
              clear hmk hw1 hw2 hI hHy
              have hnr : some t ≠ rv.ownBlock := fun e => hneT _ e.symm rfl
              have hnb : some t ≠ bv.ownBlock := fun e => hneT2 _ e.symm rfl
              go_wp2_with fail
              refine wp_region_tail (F := TwoApp wy (t + 2) t R m ((ss.length : Int) + (c : Int)) ao ss.length cap c rv bv (rowVals m rb c) (ints ((List.range c).map fun q => ((ss.length + q : Nat) : Int)))) ?_ ?_
              · have hlr : (rowVals m rb c).length ≤ 1000 := by rw [rowVals_length]; omega
                have hlb : (ints ((List.range c).map fun q => ((ss.length + q : Nat) : Int))).length ≤ 1000 := by simp [ints_length]; omega
                have hW : t + 2 ≤ wy.heap.size := hsy
                clear HHy hrvR HRR hRl hxy HGY hneT hneT2 hlt hn hl hsy htw htw2 hRt hRW hRw hm200 HM HSS hlt3 hk
                generalize rowVals m rb c = rvs at *
                generalize (ints ((List.range c).map fun q => ((ss.length + q : Nat) : Int))) = bvs at *
                refine wp_region_any (by kernel_rfl) ?_
                change wpAny _ _ _ _ _ _ _ (World.drew _)
                have hxd : Ext wy wy.drew := (by repeat (first | exact Ext.refl _ | assumption | refine Ext.alloc ?_ _ | refine Ext.drewN ?_ _ | refine Ext.drew ?_))
                refine wpAny_take (i := 0) (v := (.pointer (some ⟨t, 0, none⟩))) rfl (by kernel_rfl) (by kernel_rfl) (by kernel_rfl) (fun _ _ _ h => h) (Or.inl ⟨by rfl, by intro w; go_simp⟩) ?_
                try simp only [Act.put, List.setIfInBounds_toArray, List.set_cons_zero, List.set_cons_succ]
                refine wpAny_take (i := 1) (v := (.pointer (some ⟨t, 0, none⟩))) rfl (by kernel_rfl) (by kernel_rfl) (by kernel_rfl) (fun _ _ _ h => h) (Or.inl ⟨by rfl, by intro w; go_simp⟩) ?_
                try simp only [Act.put, List.setIfInBounds_toArray, List.set_cons_zero, List.set_cons_succ]
                refine wpAny_take (i := 2) (v := (.pointer (some ⟨t, 0, none⟩))) rfl (by kernel_rfl) (by kernel_rfl) (by kernel_rfl) (fun _ _ _ h => h) (Or.inl ⟨by rfl, by intro w; go_simp⟩) ?_
                try simp only [Act.put, List.setIfInBounds_toArray, List.set_cons_zero, List.set_cons_succ]
                refine wpAny_take (i := 3) (v := (.pointer (some ⟨t, 0, none⟩))) rfl (by kernel_rfl) (by kernel_rfl) (by kernel_rfl) (fun _ _ _ h => h) (Or.inl ⟨by rfl, by intro w; go_simp⟩) ?_
                try simp only [Act.put, List.setIfInBounds_toArray, List.set_cons_zero, List.set_cons_succ]
                refine wpAny_take (i := 4) (v := (.pointer (some ⟨t, 2, none⟩))) rfl (by kernel_rfl) (by kernel_rfl) (by kernel_rfl) (fun _ _ _ h => h) (Or.inl ⟨by rfl, by intro w; go_simp⟩) ?_
                try simp only [Act.put, List.setIfInBounds_toArray, List.set_cons_zero, List.set_cons_succ]
                refine wpAny_take (i := 6) (v := (.slice (some ⟨R, 0, none⟩) m m)) rfl (by kernel_rfl) (by kernel_rfl) (by kernel_rfl) (fun _ _ _ h => h) (Or.inl ⟨by rfl, by intro w; go_simp⟩) ?_
                try simp only [Act.put, List.setIfInBounds_toArray, List.set_cons_zero, List.set_cons_succ]
                refine wpAny_take (i := 9) (v := (.pointer (some ⟨t, 0, none⟩))) rfl (by kernel_rfl) (by kernel_rfl) (by kernel_rfl) (fun _ _ _ h => h) (Or.inl ⟨by rfl, by intro w; go_simp⟩) ?_
                try simp only [Act.put, List.setIfInBounds_toArray, List.set_cons_zero, List.set_cons_succ]
                refine wpAny_take (i := 10) (v := (.pointer (some ⟨t, 0, none⟩))) rfl (by kernel_rfl) (by kernel_rfl) (by kernel_rfl) (fun _ _ _ h => h) (Or.inl ⟨by rfl, by intro w; go_simp⟩) ?_
                try simp only [Act.put, List.setIfInBounds_toArray, List.set_cons_zero, List.set_cons_succ]
                refine wpAny_take (i := 11) (v := (.pointer (some ⟨t, 4, none⟩))) rfl (by kernel_rfl) (by kernel_rfl) (by kernel_rfl) (fun _ _ _ h => h) (Or.inl ⟨by rfl, by intro w; go_simp⟩) ?_
                try simp only [Act.put, List.setIfInBounds_toArray, List.set_cons_zero, List.set_cons_succ]
                refine wpAny_take (i := 13) (v := (.slice ao ss.length cap)) rfl (by kernel_rfl) (by kernel_rfl) (by kernel_rfl) (fun _ _ _ h => h) (Or.inl ⟨by rfl, by intro w; go_simp⟩) ?_
                try simp only [Act.put, List.setIfInBounds_toArray, List.set_cons_zero, List.set_cons_succ]
                refine wpAny_take (i := 14) (v := (.int .i64 ss.length)) rfl (by kernel_rfl) (by kernel_rfl) (by kernel_rfl) (fun _ _ _ h => h) (Or.inl ⟨by rfl, by intro w; go_simp⟩) ?_
                try simp only [Act.put, List.setIfInBounds_toArray, List.set_cons_zero, List.set_cons_succ]
                refine wpAny_take (i := 15) (v := (.int .i64 c)) rfl (by kernel_rfl) (by kernel_rfl) (by kernel_rfl) (fun _ _ _ h => h) (Or.inl ⟨by rfl, by intro w; go_simp⟩) ?_
                try simp only [Act.put, List.setIfInBounds_toArray, List.set_cons_zero, List.set_cons_succ]
                refine wpAny_take (i := 16) (v := (.int .i64 ((ss.length : Int) + (c : Int)))) rfl (by kernel_rfl) (by kernel_rfl) (by kernel_rfl) (fun _ _ _ h => h) (Or.inl ⟨by rfl, by intro w; go_simp⟩) ?_
                try simp only [Act.put, List.setIfInBounds_toArray, List.set_cons_zero, List.set_cons_succ]
                refine wpAny_take_held (fun w' => Ext wy w') [8, 18, 19, 20, 21, 22, 23, 24] [7, 12, 17] (i := 5) (v := rv) rfl (by kernel_rfl) (by kernel_rfl) (by kernel_rfl) (fun _ _ _ h => h) (by kernel_rfl) (by kernel_rfl) (by kernel_rfl) ?_ (Or.inl ⟨by rfl, by
                  intro w hw
                  have hcw := (Ext.cell hw (p := ⟨t, 2, none⟩) dl).trans d2
                  go_simp⟩) hxd ?_
                · intro j hj
                  simp only [List.mem_cons, List.not_mem_nil, or_false] at hj
                  rcases hj with rfl | rfl | rfl
                  · exact keeps_of rfl (fun a w hS => calm_build (t := 101) (e := 22) (z := .slice none 0 0) rfl (run_underlying Try.underlying101) Try.sizeOf22 Try.zeroValue22 (fun w ob h => h.alloc ob) _ w hS)
                  · exact keeps_of rfl (fun a w hS => calm_load (t := 22) rfl Try.isAgg22 _ w hS)
                  · exact keeps_of rfl (fun a w hS => calm_build (t := 22) (e := 3) (z := .int .i64 0) rfl (run_underlying Try.underlying22) Try.sizeOf3 Try.zeroValue3 (fun w ob h => h.alloc ob) _ w hS)
                try simp only [Act.put, List.setIfInBounds_toArray, List.set_cons_zero, List.set_cons_succ]
                refine wpAny_ready (rs := [7, 12, 17]) (by kernel_rfl) (by simp) ?_
                refine AllReady.cons rfl (fun K hK => ?_) ?_
                · go_simp
                  refine hK _ _ ?_
                  clear hK K
                  try simp only [Act.put, List.setIfInBounds_toArray, List.set_cons_zero, List.set_cons_succ]
                  refine wpAny_ready (rs := [8, 12, 17]) (by kernel_rfl) (by simp) ?_
                  refine AllReady.cons rfl (fun K hK => ?_) ?_
                  · refine step_append_Off _ rfl _ _ 101 rfl 22 j0 (.slice none 0 0) 1 24 Try.underlying101 hj hy0 hy1 hy2 rfl (by omega) (t + 2) rv rvs rfl (hrow.ext (by repeat (first | exact Ext.refl _ | assumption | refine Ext.alloc ?_ _ | refine Ext.drewN ?_ _ | refine Ext.drew ?_))) (by first | omega | (simp <;> omega)) _ 1 1 [.slice (some ⟨R, 0, none⟩) m m] rfl rfl (by first | exact one_cell _ _ _ _ (by first | rfl | simp) | exact one_cell2 _ _ _ _ _ (by first | rfl | simp)) (by simp [Value.oneCell']) (by simp; unfold maxLen; omega) (by simp; omega) ?_
                    intro v5 w5 ho5 hg5 hb5 f5
                    obtain ⟨TF5, hbas5, hs5a, hs5b⟩ := hTF.after hbas hap3 hnr hg5 (by repeat (first | exact Ext.refl _ | assumption | refine Ext.alloc ?_ _ | refine Ext.drewN ?_ _ | refine Ext.drew ?_))
                    obtain ⟨e2, e4, ef2, ef4, el⟩ := id TF5
                    obtain ⟨ro, rn, rcp, rfl, -⟩ := ho5.shapeCap
                    try have hnw := news_keep (x := .int .i64 ((ss.length : Int) + (c : Int))) (z := 0) (by simp [go_sem]) (by simp <;> omega) hg5 (fun e => by have := (hrow.lt _ e.symm).2; omega)
                    refine hK _ _ ?_
                    clear hK K
                    try simp only [Act.put, List.setIfInBounds_toArray, List.set_cons_zero, List.set_cons_succ]
                    refine wpAny_ready (rs := [12, 17]) (by kernel_rfl) (by simp) ?_
                    refine AllReady.cons rfl (fun K hK => ?_) ?_
                    · go_simp
                      refine hK _ _ ?_
                      clear hK K
                      try simp only [Act.put, List.setIfInBounds_toArray, List.set_cons_zero, List.set_cons_succ]
                      refine wpAny_ready (rs := [17]) (by kernel_rfl) (by simp) ?_
                      refine AllReady.cons rfl (fun K hK => ?_) AllReady.nil
                      go_simp
                      refine hK _ _ ?_
                      clear hK K
                      try simp only [Act.put, List.setIfInBounds_toArray, List.set_cons_zero, List.set_cons_succ]
                      refine wpAny_ready (rs := [18]) (by kernel_rfl) (by simp) ?_
                      refine AllReady.cons rfl (fun K hK => ?_) AllReady.nil
                      refine step_append_Off _ rfl _ _ 22 rfl 3 i0 (.int .i64 0) 1 8 Try.underlying22 hi hz0 hz1 hz2 rfl (by omega) (t + 2) bv bvs rfl (hbas5.ext (by repeat (first | exact Ext.refl _ | assumption | refine Ext.alloc ?_ _ | refine Ext.drewN ?_ _ | refine Ext.drew ?_))) (by first | omega | (simp only [World.size_drew, World.size_alloc] at *; omega)) _ 1 1 [.int .i64 ((ss.length : Int) + (c : Int))] rfl rfl (by first | exact one_cell _ _ _ _ (by first | rfl | simp) | exact one_cell2 _ _ _ _ _ (by first | rfl | simp) | exact hnw) (by simp [Value.oneCell']) (by simp; unfold maxLen; omega) (by simp; omega) ?_
                      intro v6 w6 ho6 hg6 hb6 f6
                      obtain ⟨g2, g4, gf2, gf4, gl⟩ := (TF5.ext (by repeat (first | exact Ext.refl _ | assumption | refine Ext.alloc ?_ _ | refine Ext.drewN ?_ _ | refine Ext.drew ?_))).grown hg6 hnb
                      obtain ⟨bo, bn, bcp, rfl, -⟩ := ho6.shapeCap
                      refine hK _ _ ?_
                      clear hK K
                      try simp only [Act.put, List.setIfInBounds_toArray, List.set_cons_zero, List.set_cons_succ]
                      refine wpAny_take (i := 19) (v := (.pointer (some ⟨t, 0, none⟩))) rfl (by kernel_rfl) (by kernel_rfl) (by kernel_rfl) (fun _ _ _ h => h) (Or.inl ⟨by rfl, by intro w; go_simp⟩) ?_
                      try simp only [Act.put, List.setIfInBounds_toArray, List.set_cons_zero, List.set_cons_succ]
                      refine wpAny_take (i := 20) (v := (.pointer (some ⟨t, 2, none⟩))) rfl (by kernel_rfl) (by kernel_rfl) (by kernel_rfl) (fun _ _ _ h => h) (Or.inl ⟨by rfl, by intro w; go_simp⟩) ?_
                      try simp only [Act.put, List.setIfInBounds_toArray, List.set_cons_zero, List.set_cons_succ]
                      refine wpAny_ready (rs := [21]) (by kernel_rfl) (by simp) ?_
                      refine AllReady.cons rfl (fun K hK => ?_) AllReady.nil
                      go_simp
                      refine hK _ _ ?_
                      clear hK K
                      try simp only [Act.put, List.setIfInBounds_toArray, List.set_cons_zero, List.set_cons_succ]
                      refine wpAny_take (i := 22) (v := (.pointer (some ⟨t, 0, none⟩))) rfl (by kernel_rfl) (by kernel_rfl) (by kernel_rfl) (fun _ _ _ h => h) (Or.inl ⟨by rfl, by intro w; go_simp⟩) ?_
                      try simp only [Act.put, List.setIfInBounds_toArray, List.set_cons_zero, List.set_cons_succ]
                      refine wpAny_take (i := 23) (v := (.pointer (some ⟨t, 4, none⟩))) rfl (by kernel_rfl) (by kernel_rfl) (by kernel_rfl) (fun _ _ _ h => h) (Or.inl ⟨by rfl, by intro w; go_simp⟩) ?_
                      try simp only [Act.put, List.setIfInBounds_toArray, List.set_cons_zero, List.set_cons_succ]
                      refine wpAny_ready (rs := [24]) (by kernel_rfl) (by simp) ?_
                      refine AllReady.cons rfl (fun K hK => ?_) AllReady.nil
                      go_simp
                      refine hK _ _ ?_
                      clear hK K
                      try simp only [Act.put, List.setIfInBounds_toArray, List.set_cons_zero, List.set_cons_succ]
                      refine wpAny_done (by kernel_rfl) ?_ _
                      refine NoPanic.normal ?_
                      exact ⟨rfl, .slice ro rn rcp, .slice bo bn bcp, wy.heap.size, w5.heap.size, by simp only [Act.put, List.setIfInBounds_toArray, List.set_cons_zero, List.set_cons_succ], _, w5, _, w6, _, (by repeat (first | exact Ext.refl _ | assumption | refine Ext.alloc ?_ _ | refine Ext.drewN ?_ _ | refine Ext.drew ?_)), hg5, (by repeat (first | exact Ext.refl _ | assumption | refine Ext.alloc ?_ _ | refine Ext.drewN ?_ _ | refine Ext.drew ?_)), hg6, (by repeat (first | exact Ext.refl _ | assumption | refine Ext.alloc ?_ _ | refine Ext.drewN ?_ _ | refine Ext.drew ?_)), rfl, ho5, hb5, ho6, hb6, f5, f6⟩
                    refine AllReady.cons rfl (fun K hK => ?_) AllReady.nil
                    go_simp
                    refine hK _ _ ?_
                    clear hK K
                    try simp only [Act.put, List.setIfInBounds_toArray, List.set_cons_zero, List.set_cons_succ]
                    refine wpAny_ready (rs := [12]) (by kernel_rfl) (by simp) ?_
                    refine AllReady.cons rfl (fun K hK => ?_) AllReady.nil
                    go_simp
                    refine hK _ _ ?_
                    clear hK K
                    try simp only [Act.put, List.setIfInBounds_toArray, List.set_cons_zero, List.set_cons_succ]
                    refine wpAny_ready (rs := [18]) (by kernel_rfl) (by simp) ?_
                    refine AllReady.cons rfl (fun K hK => ?_) AllReady.nil
                    refine step_append_Off _ rfl _ _ 22 rfl 3 i0 (.int .i64 0) 1 8 Try.underlying22 hi hz0 hz1 hz2 rfl (by omega) (t + 2) bv bvs rfl (hbas5.ext (by repeat (first | exact Ext.refl _ | assumption | refine Ext.alloc ?_ _ | refine Ext.drewN ?_ _ | refine Ext.drew ?_))) (by first | omega | (simp only [World.size_drew, World.size_alloc] at *; omega)) _ 1 1 [.int .i64 ((ss.length : Int) + (c : Int))] rfl rfl (by first | exact one_cell _ _ _ _ (by first | rfl | simp) | exact one_cell2 _ _ _ _ _ (by first | rfl | simp) | exact hnw) (by simp [Value.oneCell']) (by simp; unfold maxLen; omega) (by simp; omega) ?_
                    intro v6 w6 ho6 hg6 hb6 f6
                    obtain ⟨g2, g4, gf2, gf4, gl⟩ := (TF5.ext (by repeat (first | exact Ext.refl _ | assumption | refine Ext.alloc ?_ _ | refine Ext.drewN ?_ _ | refine Ext.drew ?_))).grown hg6 hnb
                    obtain ⟨bo, bn, bcp, rfl, -⟩ := ho6.shapeCap
                    refine hK _ _ ?_
                    clear hK K
                    try simp only [Act.put, List.setIfInBounds_toArray, List.set_cons_zero, List.set_cons_succ]
                    refine wpAny_take (i := 19) (v := (.pointer (some ⟨t, 0, none⟩))) rfl (by kernel_rfl) (by kernel_rfl) (by kernel_rfl) (fun _ _ _ h => h) (Or.inl ⟨by rfl, by intro w; go_simp⟩) ?_
                    try simp only [Act.put, List.setIfInBounds_toArray, List.set_cons_zero, List.set_cons_succ]
                    refine wpAny_take (i := 20) (v := (.pointer (some ⟨t, 2, none⟩))) rfl (by kernel_rfl) (by kernel_rfl) (by kernel_rfl) (fun _ _ _ h => h) (Or.inl ⟨by rfl, by intro w; go_simp⟩) ?_
                    try simp only [Act.put, List.setIfInBounds_toArray, List.set_cons_zero, List.set_cons_succ]
                    refine wpAny_ready (rs := [21]) (by kernel_rfl) (by simp) ?_
                    refine AllReady.cons rfl (fun K hK => ?_) AllReady.nil
                    go_simp
                    refine hK _ _ ?_
                    clear hK K
                    try simp only [Act.put, List.setIfInBounds_toArray, List.set_cons_zero, List.set_cons_succ]
                    refine wpAny_take (i := 22) (v := (.pointer (some ⟨t, 0, none⟩))) rfl (by kernel_rfl) (by kernel_rfl) (by kernel_rfl) (fun _ _ _ h => h) (Or.inl ⟨by rfl, by intro w; go_simp⟩) ?_
                    try simp only [Act.put, List.setIfInBounds_toArray, List.set_cons_zero, List.set_cons_succ]
                    refine wpAny_take (i := 23) (v := (.pointer (some ⟨t, 4, none⟩))) rfl (by kernel_rfl) (by kernel_rfl) (by kernel_rfl) (fun _ _ _ h => h) (Or.inl ⟨by rfl, by intro w; go_simp⟩) ?_
                    try simp only [Act.put, List.setIfInBounds_toArray, List.set_cons_zero, List.set_cons_succ]
                    refine wpAny_ready (rs := [24]) (by kernel_rfl) (by simp) ?_
                    refine AllReady.cons rfl (fun K hK => ?_) AllReady.nil
                    go_simp
                    refine hK _ _ ?_
                    clear hK K
                    try simp only [Act.put, List.setIfInBounds_toArray, List.set_cons_zero, List.set_cons_succ]
                    refine wpAny_done (by kernel_rfl) ?_ _
                    refine NoPanic.normal ?_
                    exact ⟨rfl, .slice ro rn rcp, .slice bo bn bcp, wy.heap.size, w5.heap.size, by simp only [Act.put, List.setIfInBounds_toArray, List.set_cons_zero, List.set_cons_succ], _, w5, _, w6, _, (by repeat (first | exact Ext.refl _ | assumption | refine Ext.alloc ?_ _ | refine Ext.drewN ?_ _ | refine Ext.drew ?_)), hg5, (by repeat (first | exact Ext.refl _ | assumption | refine Ext.alloc ?_ _ | refine Ext.drewN ?_ _ | refine Ext.drew ?_)), hg6, (by repeat (first | exact Ext.refl _ | assumption | refine Ext.alloc ?_ _ | refine Ext.drewN ?_ _ | refine Ext.drew ?_)), rfl, ho5, hb5, ho6, hb6, f5, f6⟩
                  refine AllReady.cons rfl (fun K hK => ?_) ?_
                  · go_simp
                    refine hK _ _ ?_
                    clear hK K
                    try simp only [Act.put, List.setIfInBounds_toArray, List.set_cons_zero, List.set_cons_succ]
                    refine wpAny_ready (rs := [8, 17]) (by kernel_rfl) (by simp) ?_
                    refine AllReady.cons rfl (fun K hK => ?_) ?_
                    · refine step_append_Off _ rfl _ _ 101 rfl 22 j0 (.slice none 0 0) 1 24 Try.underlying101 hj hy0 hy1 hy2 rfl (by omega) (t + 2) rv rvs rfl (hrow.ext (by repeat (first | exact Ext.refl _ | assumption | refine Ext.alloc ?_ _ | refine Ext.drewN ?_ _ | refine Ext.drew ?_))) (by first | omega | (simp <;> omega)) _ 1 1 [.slice (some ⟨R, 0, none⟩) m m] rfl rfl (by first | exact one_cell _ _ _ _ (by first | rfl | simp) | exact one_cell2 _ _ _ _ _ (by first | rfl | simp)) (by simp [Value.oneCell']) (by simp; unfold maxLen; omega) (by simp; omega) ?_
                      intro v5 w5 ho5 hg5 hb5 f5
                      obtain ⟨TF5, hbas5, hs5a, hs5b⟩ := hTF.after hbas hap3 hnr hg5 (by repeat (first | exact Ext.refl _ | assumption | refine Ext.alloc ?_ _ | refine Ext.drewN ?_ _ | refine Ext.drew ?_))
                      obtain ⟨e2, e4, ef2, ef4, el⟩ := id TF5
                      obtain ⟨ro, rn, rcp, rfl, -⟩ := ho5.shapeCap
                      try have hnw := news_keep (x := .int .i64 ((ss.length : Int) + (c : Int))) (z := 0) (by simp [go_sem]) (by simp <;> omega) hg5 (fun e => by have := (hrow.lt _ e.symm).2; omega)
                      refine hK _ _ ?_
                      clear hK K
                      try simp only [Act.put, List.setIfInBounds_toArray, List.set_cons_zero, List.set_cons_succ]
                      refine wpAny_ready (rs := [17]) (by kernel_rfl) (by simp) ?_
                      refine AllReady.cons rfl (fun K hK => ?_) AllReady.nil
                      go_simp
                      refine hK _ _ ?_
                      clear hK K
                      try simp only [Act.put, List.setIfInBounds_toArray, List.set_cons_zero, List.set_cons_succ]
                      refine wpAny_ready (rs := [18]) (by kernel_rfl) (by simp) ?_
                      refine AllReady.cons rfl (fun K hK => ?_) AllReady.nil
                      refine step_append_Off _ rfl _ _ 22 rfl 3 i0 (.int .i64 0) 1 8 Try.underlying22 hi hz0 hz1 hz2 rfl (by omega) (t + 2) bv bvs rfl (hbas5.ext (by repeat (first | exact Ext.refl _ | assumption | refine Ext.alloc ?_ _ | refine Ext.drewN ?_ _ | refine Ext.drew ?_))) (by first | omega | (simp only [World.size_drew, World.size_alloc] at *; omega)) _ 1 1 [.int .i64 ((ss.length : Int) + (c : Int))] rfl rfl (by first | exact one_cell _ _ _ _ (by first | rfl | simp) | exact one_cell2 _ _ _ _ _ (by first | rfl | simp) | exact hnw) (by simp [Value.oneCell']) (by simp; unfold maxLen; omega) (by simp; omega) ?_
                      intro v6 w6 ho6 hg6 hb6 f6
                      obtain ⟨g2, g4, gf2, gf4, gl⟩ := (TF5.ext (by repeat (first | exact Ext.refl _ | assumption | refine Ext.alloc ?_ _ | refine Ext.drewN ?_ _ | refine Ext.drew ?_))).grown hg6 hnb
                      obtain ⟨bo, bn, bcp, rfl, -⟩ := ho6.shapeCap
                      refine hK _ _ ?_
                      clear hK K
                      try simp only [Act.put, List.setIfInBounds_toArray, List.set_cons_zero, List.set_cons_succ]
                      refine wpAny_take (i := 19) (v := (.pointer (some ⟨t, 0, none⟩))) rfl (by kernel_rfl) (by kernel_rfl) (by kernel_rfl) (fun _ _ _ h => h) (Or.inl ⟨by rfl, by intro w; go_simp⟩) ?_
                      try simp only [Act.put, List.setIfInBounds_toArray, List.set_cons_zero, List.set_cons_succ]
                      refine wpAny_take (i := 20) (v := (.pointer (some ⟨t, 2, none⟩))) rfl (by kernel_rfl) (by kernel_rfl) (by kernel_rfl) (fun _ _ _ h => h) (Or.inl ⟨by rfl, by intro w; go_simp⟩) ?_
                      try simp only [Act.put, List.setIfInBounds_toArray, List.set_cons_zero, List.set_cons_succ]
                      refine wpAny_ready (rs := [21]) (by kernel_rfl) (by simp) ?_
                      refine AllReady.cons rfl (fun K hK => ?_) AllReady.nil
                      go_simp
                      refine hK _ _ ?_
                      clear hK K
                      try simp only [Act.put, List.setIfInBounds_toArray, List.set_cons_zero, List.set_cons_succ]
                      refine wpAny_take (i := 22) (v := (.pointer (some ⟨t, 0, none⟩))) rfl (by kernel_rfl) (by kernel_rfl) (by kernel_rfl) (fun _ _ _ h => h) (Or.inl ⟨by rfl, by intro w; go_simp⟩) ?_
                      try simp only [Act.put, List.setIfInBounds_toArray, List.set_cons_zero, List.set_cons_succ]
                      refine wpAny_take (i := 23) (v := (.pointer (some ⟨t, 4, none⟩))) rfl (by kernel_rfl) (by kernel_rfl) (by kernel_rfl) (fun _ _ _ h => h) (Or.inl ⟨by rfl, by intro w; go_simp⟩) ?_
                      try simp only [Act.put, List.setIfInBounds_toArray, List.set_cons_zero, List.set_cons_succ]
                      refine wpAny_ready (rs := [24]) (by kernel_rfl) (by simp) ?_
                      refine AllReady.cons rfl (fun K hK => ?_) AllReady.nil
                      go_simp
                      refine hK _ _ ?_
                      clear hK K
                      try simp only [Act.put, List.setIfInBounds_toArray, List.set_cons_zero, List.set_cons_succ]
                      refine wpAny_done (by kernel_rfl) ?_ _
                      refine NoPanic.normal ?_
                      exact ⟨rfl, .slice ro rn rcp, .slice bo bn bcp, wy.heap.size, w5.heap.size, by simp only [Act.put, List.setIfInBounds_toArray, List.set_cons_zero, List.set_cons_succ], _, w5, _, w6, _, (by repeat (first | exact Ext.refl _ | assumption | refine Ext.alloc ?_ _ | refine Ext.drewN ?_ _ | refine Ext.drew ?_)), hg5, (by repeat (first | exact Ext.refl _ | assumption | refine Ext.alloc ?_ _ | refine Ext.drewN ?_ _ | refine Ext.drew ?_)), hg6, (by repeat (first | exact Ext.refl _ | assumption | refine Ext.alloc ?_ _ | refine Ext.drewN ?_ _ | refine Ext.drew ?_)), rfl, ho5, hb5, ho6, hb6, f5, f6⟩
                    refine AllReady.cons rfl (fun K hK => ?_) AllReady.nil
                    go_simp
                    refine hK _ _ ?_
                    clear hK K
                    try simp only [Act.put, List.setIfInBounds_toArray, List.set_cons_zero, List.set_cons_succ]
                    refine wpAny_ready (rs := [8]) (by kernel_rfl) (by simp) ?_
                    refine AllReady.cons rfl (fun K hK => ?_) AllReady.nil
                    refine step_append_Off _ rfl _ _ 101 rfl 22 j0 (.slice none 0 0) 1 24 Try.underlying101 hj hy0 hy1 hy2 rfl (by omega) (t + 2) rv rvs rfl (hrow.ext (by repeat (first | exact Ext.refl _ | assumption | refine Ext.alloc ?_ _ | refine Ext.drewN ?_ _ | refine Ext.drew ?_))) (by first | omega | (simp <;> omega)) _ 1 1 [.slice (some ⟨R, 0, none⟩) m m] rfl rfl (by first | exact one_cell _ _ _ _ (by first | rfl | simp) | exact one_cell2 _ _ _ _ _ (by first | rfl | simp)) (by simp [Value.oneCell']) (by simp; unfold maxLen; omega) (by simp; omega) ?_
                    intro v5 w5 ho5 hg5 hb5 f5
                    obtain ⟨TF5, hbas5, hs5a, hs5b⟩ := hTF.after hbas hap3 hnr hg5 (by repeat (first | exact Ext.refl _ | assumption | refine Ext.alloc ?_ _ | refine Ext.drewN ?_ _ | refine Ext.drew ?_))
                    obtain ⟨e2, e4, ef2, ef4, el⟩ := id TF5
                    obtain ⟨ro, rn, rcp, rfl, -⟩ := ho5.shapeCap
                    try have hnw := news_keep (x := .int .i64 ((ss.length : Int) + (c : Int))) (z := (wy.heap.size + 1)) (by simp [go_sem]) (by simp <;> omega) hg5 (fun e => by have := (hrow.lt _ e.symm).2; omega)
                    refine hK _ _ ?_
                    clear hK K
                    try simp only [Act.put, List.setIfInBounds_toArray, List.set_cons_zero, List.set_cons_succ]
                    refine wpAny_ready (rs := [18]) (by kernel_rfl) (by simp) ?_
                    refine AllReady.cons rfl (fun K hK => ?_) AllReady.nil
                    refine step_append_Off _ rfl _ _ 22 rfl 3 i0 (.int .i64 0) 1 8 Try.underlying22 hi hz0 hz1 hz2 rfl (by omega) (t + 2) bv bvs rfl (hbas5.ext (by repeat (first | exact Ext.refl _ | assumption | refine Ext.alloc ?_ _ | refine Ext.drewN ?_ _ | refine Ext.drew ?_))) (by first | omega | (simp only [World.size_drew, World.size_alloc] at *; omega)) _ 1 1 [.int .i64 ((ss.length : Int) + (c : Int))] rfl rfl (by first | exact one_cell _ _ _ _ (by first | rfl | simp) | exact one_cell2 _ _ _ _ _ (by first | rfl | simp) | exact hnw) (by simp [Value.oneCell']) (by simp; unfold maxLen; omega) (by simp; omega) ?_
                    intro v6 w6 ho6 hg6 hb6 f6
                    obtain ⟨g2, g4, gf2, gf4, gl⟩ := (TF5.ext (by repeat (first | exact Ext.refl _ | assumption | refine Ext.alloc ?_ _ | refine Ext.drewN ?_ _ | refine Ext.drew ?_))).grown hg6 hnb
                    obtain ⟨bo, bn, bcp, rfl, -⟩ := ho6.shapeCap
                    refine hK _ _ ?_
                    clear hK K
                    try simp only [Act.put, List.setIfInBounds_toArray, List.set_cons_zero, List.set_cons_succ]
                    refine wpAny_take (i := 19) (v := (.pointer (some ⟨t, 0, none⟩))) rfl (by kernel_rfl) (by kernel_rfl) (by kernel_rfl) (fun _ _ _ h => h) (Or.inl ⟨by rfl, by intro w; go_simp⟩) ?_
                    try simp only [Act.put, List.setIfInBounds_toArray, List.set_cons_zero, List.set_cons_succ]
                    refine wpAny_take (i := 20) (v := (.pointer (some ⟨t, 2, none⟩))) rfl (by kernel_rfl) (by kernel_rfl) (by kernel_rfl) (fun _ _ _ h => h) (Or.inl ⟨by rfl, by intro w; go_simp⟩) ?_
                    try simp only [Act.put, List.setIfInBounds_toArray, List.set_cons_zero, List.set_cons_succ]
                    refine wpAny_ready (rs := [21]) (by kernel_rfl) (by simp) ?_
                    refine AllReady.cons rfl (fun K hK => ?_) AllReady.nil
                    go_simp
                    refine hK _ _ ?_
                    clear hK K
                    try simp only [Act.put, List.setIfInBounds_toArray, List.set_cons_zero, List.set_cons_succ]
                    refine wpAny_take (i := 22) (v := (.pointer (some ⟨t, 0, none⟩))) rfl (by kernel_rfl) (by kernel_rfl) (by kernel_rfl) (fun _ _ _ h => h) (Or.inl ⟨by rfl, by intro w; go_simp⟩) ?_
                    try simp only [Act.put, List.setIfInBounds_toArray, List.set_cons_zero, List.set_cons_succ]
                    refine wpAny_take (i := 23) (v := (.pointer (some ⟨t, 4, none⟩))) rfl (by kernel_rfl) (by kernel_rfl) (by kernel_rfl) (fun _ _ _ h => h) (Or.inl ⟨by rfl, by intro w; go_simp⟩) ?_
                    try simp only [Act.put, List.setIfInBounds_toArray, List.set_cons_zero, List.set_cons_succ]
                    refine wpAny_ready (rs := [24]) (by kernel_rfl) (by simp) ?_
                    refine AllReady.cons rfl (fun K hK => ?_) AllReady.nil
                    go_simp
                    refine hK _ _ ?_
                    clear hK K
                    try simp only [Act.put, List.setIfInBounds_toArray, List.set_cons_zero, List.set_cons_succ]
                    refine wpAny_done (by kernel_rfl) ?_ _
                    refine NoPanic.normal ?_
                    exact ⟨rfl, .slice ro rn rcp, .slice bo bn bcp, wy.heap.size, (wy.heap.size + 1), by simp only [Act.put, List.setIfInBounds_toArray, List.set_cons_zero, List.set_cons_succ], _, w5, _, w6, _, (by repeat (first | exact Ext.refl _ | assumption | refine Ext.alloc ?_ _ | refine Ext.drewN ?_ _ | refine Ext.drew ?_)), hg5, (by repeat (first | exact Ext.refl _ | assumption | refine Ext.alloc ?_ _ | refine Ext.drewN ?_ _ | refine Ext.drew ?_)), hg6, (by repeat (first | exact Ext.refl _ | assumption | refine Ext.alloc ?_ _ | refine Ext.drewN ?_ _ | refine Ext.drew ?_)), rfl, ho5, hb5, ho6, hb6, f5, f6⟩
                  refine AllReady.cons rfl (fun K hK => ?_) AllReady.nil
                  go_simp
                  refine hK _ _ ?_
                  clear hK K
                  try simp only [Act.put, List.setIfInBounds_toArray, List.set_cons_zero, List.set_cons_succ]
                  refine wpAny_ready (rs := [8, 12]) (by kernel_rfl) (by simp) ?_
                  refine AllReady.cons rfl (fun K hK => ?_) ?_
                  · refine step_append_Off _ rfl _ _ 101 rfl 22 j0 (.slice none 0 0) 1 24 Try.underlying101 hj hy0 hy1 hy2 rfl (by omega) (t + 2) rv rvs rfl (hrow.ext (by repeat (first | exact Ext.refl _ | assumption | refine Ext.alloc ?_ _ | refine Ext.drewN ?_ _ | refine Ext.drew ?_))) (by first | omega | (simp <;> omega)) _ 1 1 [.slice (some ⟨R, 0, none⟩) m m] rfl rfl (by first | exact one_cell _ _ _ _ (by first | rfl | simp) | exact one_cell2 _ _ _ _ _ (by first | rfl | simp)) (by simp [Value.oneCell']) (by simp; unfold maxLen; omega) (by simp; omega) ?_
                    intro v5 w5 ho5 hg5 hb5 f5
                    obtain ⟨TF5, hbas5, hs5a, hs5b⟩ := hTF.after hbas hap3 hnr hg5 (by repeat (first | exact Ext.refl _ | assumption | refine Ext.alloc ?_ _ | refine Ext.drewN ?_ _ | refine Ext.drew ?_))
                    obtain ⟨e2, e4, ef2, ef4, el⟩ := id TF5
                    obtain ⟨ro, rn, rcp, rfl, -⟩ := ho5.shapeCap
                    try have hnw := news_keep (x := .int .i64 ((ss.length : Int) + (c : Int))) (z := (wy.heap.size + 1)) (by simp [go_sem]) (by simp <;> omega) hg5 (fun e => by have := (hrow.lt _ e.symm).2; omega)
                    refine hK _ _ ?_
                    clear hK K
                    try simp only [Act.put, List.setIfInBounds_toArray, List.set_cons_zero, List.set_cons_succ]
                    refine wpAny_ready (rs := [12]) (by kernel_rfl) (by simp) ?_
                    refine AllReady.cons rfl (fun K hK => ?_) AllReady.nil
                    go_simp
                    refine hK _ _ ?_
                    clear hK K
                    try simp only [Act.put, List.setIfInBounds_toArray, List.set_cons_zero, List.set_cons_succ]
                    refine wpAny_ready (rs := [18]) (by kernel_rfl) (by simp) ?_
                    refine AllReady.cons rfl (fun K hK => ?_) AllReady.nil
                    refine step_append_Off _ rfl _ _ 22 rfl 3 i0 (.int .i64 0) 1 8 Try.underlying22 hi hz0 hz1 hz2 rfl (by omega) (t + 2) bv bvs rfl (hbas5.ext (by repeat (first | exact Ext.refl _ | assumption | refine Ext.alloc ?_ _ | refine Ext.drewN ?_ _ | refine Ext.drew ?_))) (by first | omega | (simp only [World.size_drew, World.size_alloc] at *; omega)) _ 1 1 [.int .i64 ((ss.length : Int) + (c : Int))] rfl rfl (by first | exact one_cell _ _ _ _ (by first | rfl | simp) | exact one_cell2 _ _ _ _ _ (by first | rfl | simp) | exact hnw) (by simp [Value.oneCell']) (by simp; unfold maxLen; omega) (by simp; omega) ?_
                    intro v6 w6 ho6 hg6 hb6 f6
                    obtain ⟨g2, g4, gf2, gf4, gl⟩ := (TF5.ext (by repeat (first | exact Ext.refl _ | assumption | refine Ext.alloc ?_ _ | refine Ext.drewN ?_ _ | refine Ext.drew ?_))).grown hg6 hnb
                    obtain ⟨bo, bn, bcp, rfl, -⟩ := ho6.shapeCap
                    refine hK _ _ ?_
                    clear hK K
                    try simp only [Act.put, List.setIfInBounds_toArray, List.set_cons_zero, List.set_cons_succ]
                    refine wpAny_take (i := 19) (v := (.pointer (some ⟨t, 0, none⟩))) rfl (by kernel_rfl) (by kernel_rfl) (by kernel_rfl) (fun _ _ _ h => h) (Or.inl ⟨by rfl, by intro w; go_simp⟩) ?_
                    try simp only [Act.put, List.setIfInBounds_toArray, List.set_cons_zero, List.set_cons_succ]
                    refine wpAny_take (i := 20) (v := (.pointer (some ⟨t, 2, none⟩))) rfl (by kernel_rfl) (by kernel_rfl) (by kernel_rfl) (fun _ _ _ h => h) (Or.inl ⟨by rfl, by intro w; go_simp⟩) ?_
                    try simp only [Act.put, List.setIfInBounds_toArray, List.set_cons_zero, List.set_cons_succ]
                    refine wpAny_ready (rs := [21]) (by kernel_rfl) (by simp) ?_
                    refine AllReady.cons rfl (fun K hK => ?_) AllReady.nil
                    go_simp
                    refine hK _ _ ?_
                    clear hK K
                    try simp only [Act.put, List.setIfInBounds_toArray, List.set_cons_zero, List.set_cons_succ]
                    refine wpAny_take (i := 22) (v := (.pointer (some ⟨t, 0, none⟩))) rfl (by kernel_rfl) (by kernel_rfl) (by kernel_rfl) (fun _ _ _ h => h) (Or.inl ⟨by rfl, by intro w; go_simp⟩) ?_
                    try simp only [Act.put, List.setIfInBounds_toArray, List.set_cons_zero, List.set_cons_succ]
                    refine wpAny_take (i := 23) (v := (.pointer (some ⟨t, 4, none⟩))) rfl (by kernel_rfl) (by kernel_rfl) (by kernel_rfl) (fun _ _ _ h => h) (Or.inl ⟨by rfl, by intro w; go_simp⟩) ?_
                    try simp only [Act.put, List.setIfInBounds_toArray, List.set_cons_zero, List.set_cons_succ]
                    refine wpAny_ready (rs := [24]) (by kernel_rfl) (by simp) ?_
                    refine AllReady.cons rfl (fun K hK => ?_) AllReady.nil
                    go_simp
                    refine hK _ _ ?_
                    clear hK K
                    try simp only [Act.put, List.setIfInBounds_toArray, List.set_cons_zero, List.set_cons_succ]
                    refine wpAny_done (by kernel_rfl) ?_ _
                    refine NoPanic.normal ?_
                    exact ⟨rfl, .slice ro rn rcp, .slice bo bn bcp, wy.heap.size, (wy.heap.size + 1), by simp only [Act.put, List.setIfInBounds_toArray, List.set_cons_zero, List.set_cons_succ], _, w5, _, w6, _, (by repeat (first | exact Ext.refl _ | assumption | refine Ext.alloc ?_ _ | refine Ext.drewN ?_ _ | refine Ext.drew ?_)), hg5, (by repeat (first | exact Ext.refl _ | assumption | refine Ext.alloc ?_ _ | refine Ext.drewN ?_ _ | refine Ext.drew ?_)), hg6, (by repeat (first | exact Ext.refl _ | assumption | refine Ext.alloc ?_ _ | refine Ext.drewN ?_ _ | refine Ext.drew ?_)), rfl, ho5, hb5, ho6, hb6, f5, f6⟩
                  refine AllReady.cons rfl (fun K hK => ?_) AllReady.nil
                  go_simp
                  refine hK _ _ ?_
                  clear hK K
                  try simp only [Act.put, List.setIfInBounds_toArray, List.set_cons_zero, List.set_cons_succ]
                  refine wpAny_ready (rs := [8]) (by kernel_rfl) (by simp) ?_
                  refine AllReady.cons rfl (fun K hK => ?_) AllReady.nil
                  refine step_append_Off _ rfl _ _ 101 rfl 22 j0 (.slice none 0 0) 1 24 Try.underlying101 hj hy0 hy1 hy2 rfl (by omega) (t + 2) rv rvs rfl (hrow.ext (by repeat (first | exact Ext.refl _ | assumption | refine Ext.alloc ?_ _ | refine Ext.drewN ?_ _ | refine Ext.drew ?_))) (by first | omega | (simp <;> omega)) _ 1 1 [.slice (some ⟨R, 0, none⟩) m m] rfl rfl (by first | exact one_cell _ _ _ _ (by first | rfl | simp) | exact one_cell2 _ _ _ _ _ (by first | rfl | simp)) (by simp [Value.oneCell']) (by simp; unfold maxLen; omega) (by simp; omega) ?_
                  intro v5 w5 ho5 hg5 hb5 f5
                  obtain ⟨TF5, hbas5, hs5a, hs5b⟩ := hTF.after hbas hap3 hnr hg5 (by repeat (first | exact Ext.refl _ | assumption | refine Ext.alloc ?_ _ | refine Ext.drewN ?_ _ | refine Ext.drew ?_))
                  obtain ⟨e2, e4, ef2, ef4, el⟩ := id TF5
                  obtain ⟨ro, rn, rcp, rfl, -⟩ := ho5.shapeCap
                  try have hnw := news_keep (x := .int .i64 ((ss.length : Int) + (c : Int))) (z := (wy.heap.size + 1)) (by simp [go_sem]) (by simp <;> omega) hg5 (fun e => by have := (hrow.lt _ e.symm).2; omega)
                  refine hK _ _ ?_
                  clear hK K
                  try simp only [Act.put, List.setIfInBounds_toArray, List.set_cons_zero, List.set_cons_succ]
                  refine wpAny_ready (rs := [18]) (by kernel_rfl) (by simp) ?_
                  refine AllReady.cons rfl (fun K hK => ?_) AllReady.nil
                  refine step_append_Off _ rfl _ _ 22 rfl 3 i0 (.int .i64 0) 1 8 Try.underlying22 hi hz0 hz1 hz2 rfl (by omega) (t + 2) bv bvs rfl (hbas5.ext (by repeat (first | exact Ext.refl _ | assumption | refine Ext.alloc ?_ _ | refine Ext.drewN ?_ _ | refine Ext.drew ?_))) (by first | omega | (simp only [World.size_drew, World.size_alloc] at *; omega)) _ 1 1 [.int .i64 ((ss.length : Int) + (c : Int))] rfl rfl (by first | exact one_cell _ _ _ _ (by first | rfl | simp) | exact one_cell2 _ _ _ _ _ (by first | rfl | simp) | exact hnw) (by simp [Value.oneCell']) (by simp; unfold maxLen; omega) (by simp; omega) ?_
                  intro v6 w6 ho6 hg6 hb6 f6
                  obtain ⟨g2, g4, gf2, gf4, gl⟩ := (TF5.ext (by repeat (first | exact Ext.refl _ | assumption | refine Ext.alloc ?_ _ | refine Ext.drewN ?_ _ | refine Ext.drew ?_))).grown hg6 hnb
                  obtain ⟨bo, bn, bcp, rfl, -⟩ := ho6.shapeCap
                  refine hK _ _ ?_
                  clear hK K
                  try simp only [Act.put, List.setIfInBounds_toArray, List.set_cons_zero, List.set_cons_succ]
                  refine wpAny_take (i := 19) (v := (.pointer (some ⟨t, 0, none⟩))) rfl (by kernel_rfl) (by kernel_rfl) (by kernel_rfl) (fun _ _ _ h => h) (Or.inl ⟨by rfl, by intro w; go_simp⟩) ?_
                  try simp only [Act.put, List.setIfInBounds_toArray, List.set_cons_zero, List.set_cons_succ]
                  refine wpAny_take (i := 20) (v := (.pointer (some ⟨t, 2, none⟩))) rfl (by kernel_rfl) (by kernel_rfl) (by kernel_rfl) (fun _ _ _ h => h) (Or.inl ⟨by rfl, by intro w; go_simp⟩) ?_
                  try simp only [Act.put, List.setIfInBounds_toArray, List.set_cons_zero, List.set_cons_succ]
                  refine wpAny_ready (rs := [21]) (by kernel_rfl) (by simp) ?_
                  refine AllReady.cons rfl (fun K hK => ?_) AllReady.nil
                  go_simp
                  refine hK _ _ ?_
                  clear hK K
                  try simp only [Act.put, List.setIfInBounds_toArray, List.set_cons_zero, List.set_cons_succ]
                  refine wpAny_take (i := 22) (v := (.pointer (some ⟨t, 0, none⟩))) rfl (by kernel_rfl) (by kernel_rfl) (by kernel_rfl) (fun _ _ _ h => h) (Or.inl ⟨by rfl, by intro w; go_simp⟩) ?_
                  try simp only [Act.put, List.setIfInBounds_toArray, List.set_cons_zero, List.set_cons_succ]
                  refine wpAny_take (i := 23) (v := (.pointer (some ⟨t, 4, none⟩))) rfl (by kernel_rfl) (by kernel_rfl) (by kernel_rfl) (fun _ _ _ h => h) (Or.inl ⟨by rfl, by intro w; go_simp⟩) ?_
                  try simp only [Act.put, List.setIfInBounds_toArray, List.set_cons_zero, List.set_cons_succ]
                  refine wpAny_ready (rs := [24]) (by kernel_rfl) (by simp) ?_
                  refine AllReady.cons rfl (fun K hK => ?_) AllReady.nil
                  go_simp
                  refine hK _ _ ?_
                  clear hK K
                  try simp only [Act.put, List.setIfInBounds_toArray, List.set_cons_zero, List.set_cons_succ]
                  refine wpAny_done (by kernel_rfl) ?_ _
                  refine NoPanic.normal ?_
                  exact ⟨rfl, .slice ro rn rcp, .slice bo bn bcp, wy.heap.size, (wy.heap.size + 1), by simp only [Act.put, List.setIfInBounds_toArray, List.set_cons_zero, List.set_cons_succ], _, w5, _, w6, _, (by repeat (first | exact Ext.refl _ | assumption | refine Ext.alloc ?_ _ | refine Ext.drewN ?_ _ | refine Ext.drew ?_)), hg5, (by repeat (first | exact Ext.refl _ | assumption | refine Ext.alloc ?_ _ | refine Ext.drewN ?_ _ | refine Ext.drew ?_)), hg6, (by repeat (first | exact Ext.refl _ | assumption | refine Ext.alloc ?_ _ | refine Ext.drewN ?_ _ | refine Ext.drew ?_)), rfl, ho5, hb5, ho6, hb6, f5, f6⟩
                refine AllReady.cons rfl (fun K hK => ?_) ?_
                · go_simp
                  refine hK _ _ ?_
                  clear hK K
                  try simp only [Act.put, List.setIfInBounds_toArray, List.set_cons_zero, List.set_cons_succ]
                  refine wpAny_ready (rs := [7, 17]) (by kernel_rfl) (by simp) ?_
                  refine AllReady.cons rfl (fun K hK => ?_) ?_
                  · go_simp
                    refine hK _ _ ?_
                    clear hK K
                    try simp only [Act.put, List.setIfInBounds_toArray, List.set_cons_zero, List.set_cons_succ]
                    refine wpAny_ready (rs := [8, 17]) (by kernel_rfl) (by simp) ?_
                    refine AllReady.cons rfl (fun K hK => ?_) ?_
                    · refine step_append_Off _ rfl _ _ 101 rfl 22 j0 (.slice none 0 0) 1 24 Try.underlying101 hj hy0 hy1 hy2 rfl (by omega) (t + 2) rv rvs rfl (hrow.ext (by repeat (first | exact Ext.refl _ | assumption | refine Ext.alloc ?_ _ | refine Ext.drewN ?_ _ | refine Ext.drew ?_))) (by first | omega | (simp <;> omega)) _ 1 1 [.slice (some ⟨R, 0, none⟩) m m] rfl rfl (by first | exact one_cell _ _ _ _ (by first | rfl | simp) | exact one_cell2 _ _ _ _ _ (by first | rfl | simp)) (by simp [Value.oneCell']) (by simp; unfold maxLen; omega) (by simp; omega) ?_
                      intro v5 w5 ho5 hg5 hb5 f5
                      obtain ⟨TF5, hbas5, hs5a, hs5b⟩ := hTF.after hbas hap3 hnr hg5 (by repeat (first | exact Ext.refl _ | assumption | refine Ext.alloc ?_ _ | refine Ext.drewN ?_ _ | refine Ext.drew ?_))
                      obtain ⟨e2, e4, ef2, ef4, el⟩ := id TF5
                      obtain ⟨ro, rn, rcp, rfl, -⟩ := ho5.shapeCap
                      try have hnw := news_keep (x := .int .i64 ((ss.length : Int) + (c : Int))) (z := 0) (by simp [go_sem]) (by simp <;> omega) hg5 (fun e => by have := (hrow.lt _ e.symm).2; omega)
                      refine hK _ _ ?_
                      clear hK K
                      try simp only [Act.put, List.setIfInBounds_toArray, List.set_cons_zero, List.set_cons_succ]
                      refine wpAny_ready (rs := [17]) (by kernel_rfl) (by simp) ?_
                      refine AllReady.cons rfl (fun K hK => ?_) AllReady.nil
                      go_simp
                      refine hK _ _ ?_
                      clear hK K
                      try simp only [Act.put, List.setIfInBounds_toArray, List.set_cons_zero, List.set_cons_succ]
                      refine wpAny_ready (rs := [18]) (by kernel_rfl) (by simp) ?_
                      refine AllReady.cons rfl (fun K hK => ?_) AllReady.nil
                      refine step_append_Off _ rfl _ _ 22 rfl 3 i0 (.int .i64 0) 1 8 Try.underlying22 hi hz0 hz1 hz2 rfl (by omega) (t + 2) bv bvs rfl (hbas5.ext (by repeat (first | exact Ext.refl _ | assumption | refine Ext.alloc ?_ _ | refine Ext.drewN ?_ _ | refine Ext.drew ?_))) (by first | omega | (simp only [World.size_drew, World.size_alloc] at *; omega)) _ 1 1 [.int .i64 ((ss.length : Int) + (c : Int))] rfl rfl (by first | exact one_cell _ _ _ _ (by first | rfl | simp) | exact one_cell2 _ _ _ _ _ (by first | rfl | simp) | exact hnw) (by simp [Value.oneCell']) (by simp; unfold maxLen; omega) (by simp; omega) ?_
                      intro v6 w6 ho6 hg6 hb6 f6
                      obtain ⟨g2, g4, gf2, gf4, gl⟩ := (TF5.ext (by repeat (first | exact Ext.refl _ | assumption | refine Ext.alloc ?_ _ | refine Ext.drewN ?_ _ | refine Ext.drew ?_))).grown hg6 hnb
                      obtain ⟨bo, bn, bcp, rfl, -⟩ := ho6.shapeCap
                      refine hK _ _ ?_
                      clear hK K
                      try simp only [Act.put, List.setIfInBounds_toArray, List.set_cons_zero, List.set_cons_succ]
                      refine wpAny_take (i := 19) (v := (.pointer (some ⟨t, 0, none⟩))) rfl (by kernel_rfl) (by kernel_rfl) (by kernel_rfl) (fun _ _ _ h => h) (Or.inl ⟨by rfl, by intro w; go_simp⟩) ?_
                      try simp only [Act.put, List.setIfInBounds_toArray, List.set_cons_zero, List.set_cons_succ]
                      refine wpAny_take (i := 20) (v := (.pointer (some ⟨t, 2, none⟩))) rfl (by kernel_rfl) (by kernel_rfl) (by kernel_rfl) (fun _ _ _ h => h) (Or.inl ⟨by rfl, by intro w; go_simp⟩) ?_
                      try simp only [Act.put, List.setIfInBounds_toArray, List.set_cons_zero, List.set_cons_succ]
                      refine wpAny_ready (rs := [21]) (by kernel_rfl) (by simp) ?_
                      refine AllReady.cons rfl (fun K hK => ?_) AllReady.nil
                      go_simp
                      refine hK _ _ ?_
                      clear hK K
                      try simp only [Act.put, List.setIfInBounds_toArray, List.set_cons_zero, List.set_cons_succ]
                      refine wpAny_take (i := 22) (v := (.pointer (some ⟨t, 0, none⟩))) rfl (by kernel_rfl) (by kernel_rfl) (by kernel_rfl) (fun _ _ _ h => h) (Or.inl ⟨by rfl, by intro w; go_simp⟩) ?_
                      try simp only [Act.put, List.setIfInBounds_toArray, List.set_cons_zero, List.set_cons_succ]
                      refine wpAny_take (i := 23) (v := (.pointer (some ⟨t, 4, none⟩))) rfl (by kernel_rfl) (by kernel_rfl) (by kernel_rfl) (fun _ _ _ h => h) (Or.inl ⟨by rfl, by intro w; go_simp⟩) ?_
                      try simp only [Act.put, List.setIfInBounds_toArray, List.set_cons_zero, List.set_cons_succ]
                      refine wpAny_ready (rs := [24]) (by kernel_rfl) (by simp) ?_
                      refine AllReady.cons rfl (fun K hK => ?_) AllReady.nil
                      go_simp
                      refine hK _ _ ?_
                      clear hK K
                      try simp only [Act.put, List.setIfInBounds_toArray, List.set_cons_zero, List.set_cons_succ]
                      refine wpAny_done (by kernel_rfl) ?_ _
                      refine NoPanic.normal ?_
                      exact ⟨rfl, .slice ro rn rcp, .slice bo bn bcp, wy.heap.size, w5.heap.size, by simp only [Act.put, List.setIfInBounds_toArray, List.set_cons_zero, List.set_cons_succ], _, w5, _, w6, _, (by repeat (first | exact Ext.refl _ | assumption | refine Ext.alloc ?_ _ | refine Ext.drewN ?_ _ | refine Ext.drew ?_)), hg5, (by repeat (first | exact Ext.refl _ | assumption | refine Ext.alloc ?_ _ | refine Ext.drewN ?_ _ | refine Ext.drew ?_)), hg6, (by repeat (first | exact Ext.refl _ | assumption | refine Ext.alloc ?_ _ | refine Ext.drewN ?_ _ | refine Ext.drew ?_)), rfl, ho5, hb5, ho6, hb6, f5, f6⟩
                    refine AllReady.cons rfl (fun K hK => ?_) AllReady.nil
                    go_simp
                    refine hK _ _ ?_
                    clear hK K
                    try simp only [Act.put, List.setIfInBounds_toArray, List.set_cons_zero, List.set_cons_succ]
                    refine wpAny_ready (rs := [8]) (by kernel_rfl) (by simp) ?_
                    refine AllReady.cons rfl (fun K hK => ?_) AllReady.nil
                    refine step_append_Off _ rfl _ _ 101 rfl 22 j0 (.slice none 0 0) 1 24 Try.underlying101 hj hy0 hy1 hy2 rfl (by omega) (t + 2) rv rvs rfl (hrow.ext (by repeat (first | exact Ext.refl _ | assumption | refine Ext.alloc ?_ _ | refine Ext.drewN ?_ _ | refine Ext.drew ?_))) (by first | omega | (simp <;> omega)) _ 1 1 [.slice (some ⟨R, 0, none⟩) m m] rfl rfl (by first | exact one_cell _ _ _ _ (by first | rfl | simp) | exact one_cell2 _ _ _ _ _ (by first | rfl | simp)) (by simp [Value.oneCell']) (by simp; unfold maxLen; omega) (by simp; omega) ?_
                    intro v5 w5 ho5 hg5 hb5 f5
                    obtain ⟨TF5, hbas5, hs5a, hs5b⟩ := hTF.after hbas hap3 hnr hg5 (by repeat (first | exact Ext.refl _ | assumption | refine Ext.alloc ?_ _ | refine Ext.drewN ?_ _ | refine Ext.drew ?_))
                    obtain ⟨e2, e4, ef2, ef4, el⟩ := id TF5
                    obtain ⟨ro, rn, rcp, rfl, -⟩ := ho5.shapeCap
                    try have hnw := news_keep (x := .int .i64 ((ss.length : Int) + (c : Int))) (z := (wy.heap.size + 1)) (by simp [go_sem]) (by simp <;> omega) hg5 (fun e => by have := (hrow.lt _ e.symm).2; omega)
                    refine hK _ _ ?_
                    clear hK K
                    try simp only [Act.put, List.setIfInBounds_toArray, List.set_cons_zero, List.set_cons_succ]
                    refine wpAny_ready (rs := [18]) (by kernel_rfl) (by simp) ?_
                    refine AllReady.cons rfl (fun K hK => ?_) AllReady.nil
                    refine step_append_Off _ rfl _ _ 22 rfl 3 i0 (.int .i64 0) 1 8 Try.underlying22 hi hz0 hz1 hz2 rfl (by omega) (t + 2) bv bvs rfl (hbas5.ext (by repeat (first | exact Ext.refl _ | assumption | refine Ext.alloc ?_ _ | refine Ext.drewN ?_ _ | refine Ext.drew ?_))) (by first | omega | (simp only [World.size_drew, World.size_alloc] at *; omega)) _ 1 1 [.int .i64 ((ss.length : Int) + (c : Int))] rfl rfl (by first | exact one_cell _ _ _ _ (by first | rfl | simp) | exact one_cell2 _ _ _ _ _ (by first | rfl | simp) | exact hnw) (by simp [Value.oneCell']) (by simp; unfold maxLen; omega) (by simp; omega) ?_
                    intro v6 w6 ho6 hg6 hb6 f6
                    obtain ⟨g2, g4, gf2, gf4, gl⟩ := (TF5.ext (by repeat (first | exact Ext.refl _ | assumption | refine Ext.alloc ?_ _ | refine Ext.drewN ?_ _ | refine Ext.drew ?_))).grown hg6 hnb
                    obtain ⟨bo, bn, bcp, rfl, -⟩ := ho6.shapeCap
                    refine hK _ _ ?_
                    clear hK K
                    try simp only [Act.put, List.setIfInBounds_toArray, List.set_cons_zero, List.set_cons_succ]
                    refine wpAny_take (i := 19) (v := (.pointer (some ⟨t, 0, none⟩))) rfl (by kernel_rfl) (by kernel_rfl) (by kernel_rfl) (fun _ _ _ h => h) (Or.inl ⟨by rfl, by intro w; go_simp⟩) ?_
                    try simp only [Act.put, List.setIfInBounds_toArray, List.set_cons_zero, List.set_cons_succ]
                    refine wpAny_take (i := 20) (v := (.pointer (some ⟨t, 2, none⟩))) rfl (by kernel_rfl) (by kernel_rfl) (by kernel_rfl) (fun _ _ _ h => h) (Or.inl ⟨by rfl, by intro w; go_simp⟩) ?_
                    try simp only [Act.put, List.setIfInBounds_toArray, List.set_cons_zero, List.set_cons_succ]
                    refine wpAny_ready (rs := [21]) (by kernel_rfl) (by simp) ?_
                    refine AllReady.cons rfl (fun K hK => ?_) AllReady.nil
                    go_simp
                    refine hK _ _ ?_
                    clear hK K
                    try simp only [Act.put, List.setIfInBounds_toArray, List.set_cons_zero, List.set_cons_succ]
                    refine wpAny_take (i := 22) (v := (.pointer (some ⟨t, 0, none⟩))) rfl (by kernel_rfl) (by kernel_rfl) (by kernel_rfl) (fun _ _ _ h => h) (Or.inl ⟨by rfl, by intro w; go_simp⟩) ?_
                    try simp only [Act.put, List.setIfInBounds_toArray, List.set_cons_zero, List.set_cons_succ]
                    refine wpAny_take (i := 23) (v := (.pointer (some ⟨t, 4, none⟩))) rfl (by kernel_rfl) (by kernel_rfl) (by kernel_rfl) (fun _ _ _ h => h) (Or.inl ⟨by rfl, by intro w; go_simp⟩) ?_
                    try simp only [Act.put, List.setIfInBounds_toArray, List.set_cons_zero, List.set_cons_succ]
                    refine wpAny_ready (rs := [24]) (by kernel_rfl) (by simp) ?_
                    refine AllReady.cons rfl (fun K hK => ?_) AllReady.nil
                    go_simp
                    refine hK _ _ ?_
                    clear hK K
                    try simp only [Act.put, List.setIfInBounds_toArray, List.set_cons_zero, List.set_cons_succ]
                    refine wpAny_done (by kernel_rfl) ?_ _
                    refine NoPanic.normal ?_
                    exact ⟨rfl, .slice ro rn rcp, .slice bo bn bcp, wy.heap.size, (wy.heap.size + 1), by simp only [Act.put, List.setIfInBounds_toArray, List.set_cons_zero, List.set_cons_succ], _, w5, _, w6, _, (by repeat (first | exact Ext.refl _ | assumption | refine Ext.alloc ?_ _ | refine Ext.drewN ?_ _ | refine Ext.drew ?_)), hg5, (by repeat (first | exact Ext.refl _ | assumption | refine Ext.alloc ?_ _ | refine Ext.drewN ?_ _ | refine Ext.drew ?_)), hg6, (by repeat (first | exact Ext.refl _ | assumption | refine Ext.alloc ?_ _ | refine Ext.drewN ?_ _ | refine Ext.drew ?_)), rfl, ho5, hb5, ho6, hb6, f5, f6⟩
                  refine AllReady.cons rfl (fun K hK => ?_) AllReady.nil
                  go_simp
                  refine hK _ _ ?_
                  clear hK K
                  try simp only [Act.put, List.setIfInBounds_toArray, List.set_cons_zero, List.set_cons_succ]
                  refine wpAny_ready (rs := [7]) (by kernel_rfl) (by simp) ?_
                  refine AllReady.cons rfl (fun K hK => ?_) AllReady.nil
                  go_simp
                  refine hK _ _ ?_
                  clear hK K
                  try simp only [Act.put, List.setIfInBounds_toArray, List.set_cons_zero, List.set_cons_succ]
                  refine wpAny_ready (rs := [8]) (by kernel_rfl) (by simp) ?_
                  refine AllReady.cons rfl (fun K hK => ?_) AllReady.nil
                  refine step_append_Off _ rfl _ _ 101 rfl 22 j0 (.slice none 0 0) 1 24 Try.underlying101 hj hy0 hy1 hy2 rfl (by omega) (t + 2) rv rvs rfl (hrow.ext (by repeat (first | exact Ext.refl _ | assumption | refine Ext.alloc ?_ _ | refine Ext.drewN ?_ _ | refine Ext.drew ?_))) (by first | omega | (simp <;> omega)) _ 1 1 [.slice (some ⟨R, 0, none⟩) m m] rfl rfl (by first | exact one_cell _ _ _ _ (by first | rfl | simp) | exact one_cell2 _ _ _ _ _ (by first | rfl | simp)) (by simp [Value.oneCell']) (by simp; unfold maxLen; omega) (by simp; omega) ?_
                  intro v5 w5 ho5 hg5 hb5 f5
                  obtain ⟨TF5, hbas5, hs5a, hs5b⟩ := hTF.after hbas hap3 hnr hg5 (by repeat (first | exact Ext.refl _ | assumption | refine Ext.alloc ?_ _ | refine Ext.drewN ?_ _ | refine Ext.drew ?_))
                  obtain ⟨e2, e4, ef2, ef4, el⟩ := id TF5
                  obtain ⟨ro, rn, rcp, rfl, -⟩ := ho5.shapeCap
                  try have hnw := news_keep (x := .int .i64 ((ss.length : Int) + (c : Int))) (z := wy.heap.size) (by simp [go_sem]) (by simp <;> omega) hg5 (fun e => by have := (hrow.lt _ e.symm).2; omega)
                  refine hK _ _ ?_
                  clear hK K
                  try simp only [Act.put, List.setIfInBounds_toArray, List.set_cons_zero, List.set_cons_succ]
                  refine wpAny_ready (rs := [18]) (by kernel_rfl) (by simp) ?_
                  refine AllReady.cons rfl (fun K hK => ?_) AllReady.nil
                  refine step_append_Off _ rfl _ _ 22 rfl 3 i0 (.int .i64 0) 1 8 Try.underlying22 hi hz0 hz1 hz2 rfl (by omega) (t + 2) bv bvs rfl (hbas5.ext (by repeat (first | exact Ext.refl _ | assumption | refine Ext.alloc ?_ _ | refine Ext.drewN ?_ _ | refine Ext.drew ?_))) (by first | omega | (simp only [World.size_drew, World.size_alloc] at *; omega)) _ 1 1 [.int .i64 ((ss.length : Int) + (c : Int))] rfl rfl (by first | exact one_cell _ _ _ _ (by first | rfl | simp) | exact one_cell2 _ _ _ _ _ (by first | rfl | simp) | exact hnw) (by simp [Value.oneCell']) (by simp; unfold maxLen; omega) (by simp; omega) ?_
                  intro v6 w6 ho6 hg6 hb6 f6
                  obtain ⟨g2, g4, gf2, gf4, gl⟩ := (TF5.ext (by repeat (first | exact Ext.refl _ | assumption | refine Ext.alloc ?_ _ | refine Ext.drewN ?_ _ | refine Ext.drew ?_))).grown hg6 hnb
                  obtain ⟨bo, bn, bcp, rfl, -⟩ := ho6.shapeCap
                  refine hK _ _ ?_
                  clear hK K
                  try simp only [Act.put, List.setIfInBounds_toArray, List.set_cons_zero, List.set_cons_succ]
                  refine wpAny_take (i := 19) (v := (.pointer (some ⟨t, 0, none⟩))) rfl (by kernel_rfl) (by kernel_rfl) (by kernel_rfl) (fun _ _ _ h => h) (Or.inl ⟨by rfl, by intro w; go_simp⟩) ?_
                  try simp only [Act.put, List.setIfInBounds_toArray, List.set_cons_zero, List.set_cons_succ]
                  refine wpAny_take (i := 20) (v := (.pointer (some ⟨t, 2, none⟩))) rfl (by kernel_rfl) (by kernel_rfl) (by kernel_rfl) (fun _ _ _ h => h) (Or.inl ⟨by rfl, by intro w; go_simp⟩) ?_
                  try simp only [Act.put, List.setIfInBounds_toArray, List.set_cons_zero, List.set_cons_succ]
                  refine wpAny_ready (rs := [21]) (by kernel_rfl) (by simp) ?_
                  refine AllReady.cons rfl (fun K hK => ?_) AllReady.nil
                  go_simp
                  refine hK _ _ ?_
                  clear hK K
                  try simp only [Act.put, List.setIfInBounds_toArray, List.set_cons_zero, List.set_cons_succ]
                  refine wpAny_take (i := 22) (v := (.pointer (some ⟨t, 0, none⟩))) rfl (by kernel_rfl) (by kernel_rfl) (by kernel_rfl) (fun _ _ _ h => h) (Or.inl ⟨by rfl, by intro w; go_simp⟩) ?_
                  try simp only [Act.put, List.setIfInBounds_toArray, List.set_cons_zero, List.set_cons_succ]
                  refine wpAny_take (i := 23) (v := (.pointer (some ⟨t, 4, none⟩))) rfl (by kernel_rfl) (by kernel_rfl) (by kernel_rfl) (fun _ _ _ h => h) (Or.inl ⟨by rfl, by intro w; go_simp⟩) ?_
                  try simp only [Act.put, List.setIfInBounds_toArray, List.set_cons_zero, List.set_cons_succ]
                  refine wpAny_ready (rs := [24]) (by kernel_rfl) (by simp) ?_
                  refine AllReady.cons rfl (fun K hK => ?_) AllReady.nil
                  go_simp
                  refine hK _ _ ?_
                  clear hK K
                  try simp only [Act.put, List.setIfInBounds_toArray, List.set_cons_zero, List.set_cons_succ]
                  refine wpAny_done (by kernel_rfl) ?_ _
                  refine NoPanic.normal ?_
                  exact ⟨rfl, .slice ro rn rcp, .slice bo bn bcp, (wy.heap.size + 1), wy.heap.size, by simp only [Act.put, List.setIfInBounds_toArray, List.set_cons_zero, List.set_cons_succ], _, w5, _, w6, _, (by repeat (first | exact Ext.refl _ | assumption | refine Ext.alloc ?_ _ | refine Ext.drewN ?_ _ | refine Ext.drew ?_)), hg5, (by repeat (first | exact Ext.refl _ | assumption | refine Ext.alloc ?_ _ | refine Ext.drewN ?_ _ | refine Ext.drew ?_)), hg6, (by repeat (first | exact Ext.refl _ | assumption | refine Ext.alloc ?_ _ | refine Ext.drewN ?_ _ | refine Ext.drew ?_)), rfl, ho5, hb5, ho6, hb6, f5, f6⟩
                refine AllReady.cons rfl (fun K hK => ?_) AllReady.nil
                go_simp
                refine hK _ _ ?_
                clear hK K
                try simp only [Act.put, List.setIfInBounds_toArray, List.set_cons_zero, List.set_cons_succ]
                refine wpAny_ready (rs := [7, 12]) (by kernel_rfl) (by simp) ?_
                refine AllReady.cons rfl (fun K hK => ?_) ?_
                · go_simp
                  refine hK _ _ ?_
                  clear hK K
                  try simp only [Act.put, List.setIfInBounds_toArray, List.set_cons_zero, List.set_cons_succ]
                  refine wpAny_ready (rs := [8, 12]) (by kernel_rfl) (by simp) ?_
                  refine AllReady.cons rfl (fun K hK => ?_) ?_
                  · refine step_append_Off _ rfl _ _ 101 rfl 22 j0 (.slice none 0 0) 1 24 Try.underlying101 hj hy0 hy1 hy2 rfl (by omega) (t + 2) rv rvs rfl (hrow.ext (by repeat (first | exact Ext.refl _ | assumption | refine Ext.alloc ?_ _ | refine Ext.drewN ?_ _ | refine Ext.drew ?_))) (by first | omega | (simp <;> omega)) _ 1 1 [.slice (some ⟨R, 0, none⟩) m m] rfl rfl (by first | exact one_cell _ _ _ _ (by first | rfl | simp) | exact one_cell2 _ _ _ _ _ (by first | rfl | simp)) (by simp [Value.oneCell']) (by simp; unfold maxLen; omega) (by simp; omega) ?_
                    intro v5 w5 ho5 hg5 hb5 f5
                    obtain ⟨TF5, hbas5, hs5a, hs5b⟩ := hTF.after hbas hap3 hnr hg5 (by repeat (first | exact Ext.refl _ | assumption | refine Ext.alloc ?_ _ | refine Ext.drewN ?_ _ | refine Ext.drew ?_))
                    obtain ⟨e2, e4, ef2, ef4, el⟩ := id TF5
                    obtain ⟨ro, rn, rcp, rfl, -⟩ := ho5.shapeCap
                    try have hnw := news_keep (x := .int .i64 ((ss.length : Int) + (c : Int))) (z := wy.heap.size) (by simp [go_sem]) (by simp <;> omega) hg5 (fun e => by have := (hrow.lt _ e.symm).2; omega)
                    refine hK _ _ ?_
                    clear hK K
                    try simp only [Act.put, List.setIfInBounds_toArray, List.set_cons_zero, List.set_cons_succ]
                    refine wpAny_ready (rs := [12]) (by kernel_rfl) (by simp) ?_
                    refine AllReady.cons rfl (fun K hK => ?_) AllReady.nil
                    go_simp
                    refine hK _ _ ?_
                    clear hK K
                    try simp only [Act.put, List.setIfInBounds_toArray, List.set_cons_zero, List.set_cons_succ]
                    refine wpAny_ready (rs := [18]) (by kernel_rfl) (by simp) ?_
                    refine AllReady.cons rfl (fun K hK => ?_) AllReady.nil
                    refine step_append_Off _ rfl _ _ 22 rfl 3 i0 (.int .i64 0) 1 8 Try.underlying22 hi hz0 hz1 hz2 rfl (by omega) (t + 2) bv bvs rfl (hbas5.ext (by repeat (first | exact Ext.refl _ | assumption | refine Ext.alloc ?_ _ | refine Ext.drewN ?_ _ | refine Ext.drew ?_))) (by first | omega | (simp only [World.size_drew, World.size_alloc] at *; omega)) _ 1 1 [.int .i64 ((ss.length : Int) + (c : Int))] rfl rfl (by first | exact one_cell _ _ _ _ (by first | rfl | simp) | exact one_cell2 _ _ _ _ _ (by first | rfl | simp) | exact hnw) (by simp [Value.oneCell']) (by simp; unfold maxLen; omega) (by simp; omega) ?_
                    intro v6 w6 ho6 hg6 hb6 f6
                    obtain ⟨g2, g4, gf2, gf4, gl⟩ := (TF5.ext (by repeat (first | exact Ext.refl _ | assumption | refine Ext.alloc ?_ _ | refine Ext.drewN ?_ _ | refine Ext.drew ?_))).grown hg6 hnb
                    obtain ⟨bo, bn, bcp, rfl, -⟩ := ho6.shapeCap
                    refine hK _ _ ?_
                    clear hK K
                    try simp only [Act.put, List.setIfInBounds_toArray, List.set_cons_zero, List.set_cons_succ]
                    refine wpAny_take (i := 19) (v := (.pointer (some ⟨t, 0, none⟩))) rfl (by kernel_rfl) (by kernel_rfl) (by kernel_rfl) (fun _ _ _ h => h) (Or.inl ⟨by rfl, by intro w; go_simp⟩) ?_
                    try simp only [Act.put, List.setIfInBounds_toArray, List.set_cons_zero, List.set_cons_succ]
                    refine wpAny_take (i := 20) (v := (.pointer (some ⟨t, 2, none⟩))) rfl (by kernel_rfl) (by kernel_rfl) (by kernel_rfl) (fun _ _ _ h => h) (Or.inl ⟨by rfl, by intro w; go_simp⟩) ?_
                    try simp only [Act.put, List.setIfInBounds_toArray, List.set_cons_zero, List.set_cons_succ]
                    refine wpAny_ready (rs := [21]) (by kernel_rfl) (by simp) ?_
                    refine AllReady.cons rfl (fun K hK => ?_) AllReady.nil
                    go_simp
                    refine hK _ _ ?_
                    clear hK K
                    try simp only [Act.put, List.setIfInBounds_toArray, List.set_cons_zero, List.set_cons_succ]
                    refine wpAny_take (i := 22) (v := (.pointer (some ⟨t, 0, none⟩))) rfl (by kernel_rfl) (by kernel_rfl) (by kernel_rfl) (fun _ _ _ h => h) (Or.inl ⟨by rfl, by intro w; go_simp⟩) ?_
                    try simp only [Act.put, List.setIfInBounds_toArray, List.set_cons_zero, List.set_cons_succ]
                    refine wpAny_take (i := 23) (v := (.pointer (some ⟨t, 4, none⟩))) rfl (by kernel_rfl) (by kernel_rfl) (by kernel_rfl) (fun _ _ _ h => h) (Or.inl ⟨by rfl, by intro w; go_simp⟩) ?_
                    try simp only [Act.put, List.setIfInBounds_toArray, List.set_cons_zero, List.set_cons_succ]
                    refine wpAny_ready (rs := [24]) (by kernel_rfl) (by simp) ?_
                    refine AllReady.cons rfl (fun K hK => ?_) AllReady.nil
                    go_simp
                    refine hK _ _ ?_
                    clear hK K
                    try simp only [Act.put, List.setIfInBounds_toArray, List.set_cons_zero, List.set_cons_succ]
                    refine wpAny_done (by kernel_rfl) ?_ _
                    refine NoPanic.normal ?_
                    exact ⟨rfl, .slice ro rn rcp, .slice bo bn bcp, (wy.heap.size + 1), wy.heap.size, by simp only [Act.put, List.setIfInBounds_toArray, List.set_cons_zero, List.set_cons_succ], _, w5, _, w6, _, (by repeat (first | exact Ext.refl _ | assumption | refine Ext.alloc ?_ _ | refine Ext.drewN ?_ _ | refine Ext.drew ?_)), hg5, (by repeat (first | exact Ext.refl _ | assumption | refine Ext.alloc ?_ _ | refine Ext.drewN ?_ _ | refine Ext.drew ?_)), hg6, (by repeat (first | exact Ext.refl _ | assumption | refine Ext.alloc ?_ _ | refine Ext.drewN ?_ _ | refine Ext.drew ?_)), rfl, ho5, hb5, ho6, hb6, f5, f6⟩
                  refine AllReady.cons rfl (fun K hK => ?_) AllReady.nil
                  go_simp
                  refine hK _ _ ?_
                  clear hK K
                  try simp only [Act.put, List.setIfInBounds_toArray, List.set_cons_zero, List.set_cons_succ]
                  refine wpAny_ready (rs := [8]) (by kernel_rfl) (by simp) ?_
                  refine AllReady.cons rfl (fun K hK => ?_) AllReady.nil
                  refine step_append_Off _ rfl _ _ 101 rfl 22 j0 (.slice none 0 0) 1 24 Try.underlying101 hj hy0 hy1 hy2 rfl (by omega) (t + 2) rv rvs rfl (hrow.ext (by repeat (first | exact Ext.refl _ | assumption | refine Ext.alloc ?_ _ | refine Ext.drewN ?_ _ | refine Ext.drew ?_))) (by first | omega | (simp <;> omega)) _ 1 1 [.slice (some ⟨R, 0, none⟩) m m] rfl rfl (by first | exact one_cell _ _ _ _ (by first | rfl | simp) | exact one_cell2 _ _ _ _ _ (by first | rfl | simp)) (by simp [Value.oneCell']) (by simp; unfold maxLen; omega) (by simp; omega) ?_
                  intro v5 w5 ho5 hg5 hb5 f5
                  obtain ⟨TF5, hbas5, hs5a, hs5b⟩ := hTF.after hbas hap3 hnr hg5 (by repeat (first | exact Ext.refl _ | assumption | refine Ext.alloc ?_ _ | refine Ext.drewN ?_ _ | refine Ext.drew ?_))
                  obtain ⟨e2, e4, ef2, ef4, el⟩ := id TF5
                  obtain ⟨ro, rn, rcp, rfl, -⟩ := ho5.shapeCap
                  try have hnw := news_keep (x := .int .i64 ((ss.length : Int) + (c : Int))) (z := wy.heap.size) (by simp [go_sem]) (by simp <;> omega) hg5 (fun e => by have := (hrow.lt _ e.symm).2; omega)
                  refine hK _ _ ?_
                  clear hK K
                  try simp only [Act.put, List.setIfInBounds_toArray, List.set_cons_zero, List.set_cons_succ]
                  refine wpAny_ready (rs := [18]) (by kernel_rfl) (by simp) ?_
                  refine AllReady.cons rfl (fun K hK => ?_) AllReady.nil
                  refine step_append_Off _ rfl _ _ 22 rfl 3 i0 (.int .i64 0) 1 8 Try.underlying22 hi hz0 hz1 hz2 rfl (by omega) (t + 2) bv bvs rfl (hbas5.ext (by repeat (first | exact Ext.refl _ | assumption | refine Ext.alloc ?_ _ | refine Ext.drewN ?_ _ | refine Ext.drew ?_))) (by first | omega | (simp only [World.size_drew, World.size_alloc] at *; omega)) _ 1 1 [.int .i64 ((ss.length : Int) + (c : Int))] rfl rfl (by first | exact one_cell _ _ _ _ (by first | rfl | simp) | exact one_cell2 _ _ _ _ _ (by first | rfl | simp) | exact hnw) (by simp [Value.oneCell']) (by simp; unfold maxLen; omega) (by simp; omega) ?_
                  intro v6 w6 ho6 hg6 hb6 f6
                  obtain ⟨g2, g4, gf2, gf4, gl⟩ := (TF5.ext (by repeat (first | exact Ext.refl _ | assumption | refine Ext.alloc ?_ _ | refine Ext.drewN ?_ _ | refine Ext.drew ?_))).grown hg6 hnb
                  obtain ⟨bo, bn, bcp, rfl, -⟩ := ho6.shapeCap
                  refine hK _ _ ?_
                  clear hK K
                  try simp only [Act.put, List.setIfInBounds_toArray, List.set_cons_zero, List.set_cons_succ]
                  refine wpAny_take (i := 19) (v := (.pointer (some ⟨t, 0, none⟩))) rfl (by kernel_rfl) (by kernel_rfl) (by kernel_rfl) (fun _ _ _ h => h) (Or.inl ⟨by rfl, by intro w; go_simp⟩) ?_
                  try simp only [Act.put, List.setIfInBounds_toArray, List.set_cons_zero, List.set_cons_succ]
                  refine wpAny_take (i := 20) (v := (.pointer (some ⟨t, 2, none⟩))) rfl (by kernel_rfl) (by kernel_rfl) (by kernel_rfl) (fun _ _ _ h => h) (Or.inl ⟨by rfl, by intro w; go_simp⟩) ?_
                  try simp only [Act.put, List.setIfInBounds_toArray, List.set_cons_zero, List.set_cons_succ]
                  refine wpAny_ready (rs := [21]) (by kernel_rfl) (by simp) ?_
                  refine AllReady.cons rfl (fun K hK => ?_) AllReady.nil
                  go_simp
                  refine hK _ _ ?_
                  clear hK K
                  try simp only [Act.put, List.setIfInBounds_toArray, List.set_cons_zero, List.set_cons_succ]
                  refine wpAny_take (i := 22) (v := (.pointer (some ⟨t, 0, none⟩))) rfl (by kernel_rfl) (by kernel_rfl) (by kernel_rfl) (fun _ _ _ h => h) (Or.inl ⟨by rfl, by intro w; go_simp⟩) ?_
                  try simp only [Act.put, List.setIfInBounds_toArray, List.set_cons_zero, List.set_cons_succ]
                  refine wpAny_take (i := 23) (v := (.pointer (some ⟨t, 4, none⟩))) rfl (by kernel_rfl) (by kernel_rfl) (by kernel_rfl) (fun _ _ _ h => h) (Or.inl ⟨by rfl, by intro w; go_simp⟩) ?_
                  try simp only [Act.put, List.setIfInBounds_toArray, List.set_cons_zero, List.set_cons_succ]
                  refine wpAny_ready (rs := [24]) (by kernel_rfl) (by simp) ?_
                  refine AllReady.cons rfl (fun K hK => ?_) AllReady.nil
                  go_simp
                  refine hK _ _ ?_
                  clear hK K
                  try simp only [Act.put, List.setIfInBounds_toArray, List.set_cons_zero, List.set_cons_succ]
                  refine wpAny_done (by kernel_rfl) ?_ _
                  refine NoPanic.normal ?_
                  exact ⟨rfl, .slice ro rn rcp, .slice bo bn bcp, (wy.heap.size + 1), wy.heap.size, by simp only [Act.put, List.setIfInBounds_toArray, List.set_cons_zero, List.set_cons_succ], _, w5, _, w6, _, (by repeat (first | exact Ext.refl _ | assumption | refine Ext.alloc ?_ _ | refine Ext.drewN ?_ _ | refine Ext.drew ?_)), hg5, (by repeat (first | exact Ext.refl _ | assumption | refine Ext.alloc ?_ _ | refine Ext.drewN ?_ _ | refine Ext.drew ?_)), hg6, (by repeat (first | exact Ext.refl _ | assumption | refine Ext.alloc ?_ _ | refine Ext.drewN ?_ _ | refine Ext.drew ?_)), rfl, ho5, hb5, ho6, hb6, f5, f6⟩
                refine AllReady.cons rfl (fun K hK => ?_) AllReady.nil
                go_simp
                refine hK _ _ ?_
                clear hK K
                try simp only [Act.put, List.setIfInBounds_toArray, List.set_cons_zero, List.set_cons_succ]
                refine wpAny_ready (rs := [7]) (by kernel_rfl) (by simp) ?_
                refine AllReady.cons rfl (fun K hK => ?_) AllReady.nil
                go_simp
                refine hK _ _ ?_
                clear hK K
                try simp only [Act.put, List.setIfInBounds_toArray, List.set_cons_zero, List.set_cons_succ]
                refine wpAny_ready (rs := [8]) (by kernel_rfl) (by simp) ?_
                refine AllReady.cons rfl (fun K hK => ?_) AllReady.nil
                refine step_append_Off _ rfl _ _ 101 rfl 22 j0 (.slice none 0 0) 1 24 Try.underlying101 hj hy0 hy1 hy2 rfl (by omega) (t + 2) rv rvs rfl (hrow.ext (by repeat (first | exact Ext.refl _ | assumption | refine Ext.alloc ?_ _ | refine Ext.drewN ?_ _ | refine Ext.drew ?_))) (by first | omega | (simp <;> omega)) _ 1 1 [.slice (some ⟨R, 0, none⟩) m m] rfl rfl (by first | exact one_cell _ _ _ _ (by first | rfl | simp) | exact one_cell2 _ _ _ _ _ (by first | rfl | simp)) (by simp [Value.oneCell']) (by simp; unfold maxLen; omega) (by simp; omega) ?_
                intro v5 w5 ho5 hg5 hb5 f5
                obtain ⟨TF5, hbas5, hs5a, hs5b⟩ := hTF.after hbas hap3 hnr hg5 (by repeat (first | exact Ext.refl _ | assumption | refine Ext.alloc ?_ _ | refine Ext.drewN ?_ _ | refine Ext.drew ?_))
                obtain ⟨e2, e4, ef2, ef4, el⟩ := id TF5
                obtain ⟨ro, rn, rcp, rfl, -⟩ := ho5.shapeCap
                try have hnw := news_keep (x := .int .i64 ((ss.length : Int) + (c : Int))) (z := wy.heap.size) (by simp [go_sem]) (by simp <;> omega) hg5 (fun e => by have := (hrow.lt _ e.symm).2; omega)
                refine hK _ _ ?_
                clear hK K
                try simp only [Act.put, List.setIfInBounds_toArray, List.set_cons_zero, List.set_cons_succ]
                refine wpAny_ready (rs := [18]) (by kernel_rfl) (by simp) ?_
                refine AllReady.cons rfl (fun K hK => ?_) AllReady.nil
                refine step_append_Off _ rfl _ _ 22 rfl 3 i0 (.int .i64 0) 1 8 Try.underlying22 hi hz0 hz1 hz2 rfl (by omega) (t + 2) bv bvs rfl (hbas5.ext (by repeat (first | exact Ext.refl _ | assumption | refine Ext.alloc ?_ _ | refine Ext.drewN ?_ _ | refine Ext.drew ?_))) (by first | omega | (simp only [World.size_drew, World.size_alloc] at *; omega)) _ 1 1 [.int .i64 ((ss.length : Int) + (c : Int))] rfl rfl (by first | exact one_cell _ _ _ _ (by first | rfl | simp) | exact one_cell2 _ _ _ _ _ (by first | rfl | simp) | exact hnw) (by simp [Value.oneCell']) (by simp; unfold maxLen; omega) (by simp; omega) ?_
                intro v6 w6 ho6 hg6 hb6 f6
                obtain ⟨g2, g4, gf2, gf4, gl⟩ := (TF5.ext (by repeat (first | exact Ext.refl _ | assumption | refine Ext.alloc ?_ _ | refine Ext.drewN ?_ _ | refine Ext.drew ?_))).grown hg6 hnb
                obtain ⟨bo, bn, bcp, rfl, -⟩ := ho6.shapeCap
                refine hK _ _ ?_
                clear hK K
                try simp only [Act.put, List.setIfInBounds_toArray, List.set_cons_zero, List.set_cons_succ]
                refine wpAny_take (i := 19) (v := (.pointer (some ⟨t, 0, none⟩))) rfl (by kernel_rfl) (by kernel_rfl) (by kernel_rfl) (fun _ _ _ h => h) (Or.inl ⟨by rfl, by intro w; go_simp⟩) ?_
                try simp only [Act.put, List.setIfInBounds_toArray, List.set_cons_zero, List.set_cons_succ]
                refine wpAny_take (i := 20) (v := (.pointer (some ⟨t, 2, none⟩))) rfl (by kernel_rfl) (by kernel_rfl) (by kernel_rfl) (fun _ _ _ h => h) (Or.inl ⟨by rfl, by intro w; go_simp⟩) ?_
                try simp only [Act.put, List.setIfInBounds_toArray, List.set_cons_zero, List.set_cons_succ]
                refine wpAny_ready (rs := [21]) (by kernel_rfl) (by simp) ?_
                refine AllReady.cons rfl (fun K hK => ?_) AllReady.nil
                go_simp
                refine hK _ _ ?_
                clear hK K
                try simp only [Act.put, List.setIfInBounds_toArray, List.set_cons_zero, List.set_cons_succ]
                refine wpAny_take (i := 22) (v := (.pointer (some ⟨t, 0, none⟩))) rfl (by kernel_rfl) (by kernel_rfl) (by kernel_rfl) (fun _ _ _ h => h) (Or.inl ⟨by rfl, by intro w; go_simp⟩) ?_
                try simp only [Act.put, List.setIfInBounds_toArray, List.set_cons_zero, List.set_cons_succ]
                refine wpAny_take (i := 23) (v := (.pointer (some ⟨t, 4, none⟩))) rfl (by kernel_rfl) (by kernel_rfl) (by kernel_rfl) (fun _ _ _ h => h) (Or.inl ⟨by rfl, by intro w; go_simp⟩) ?_
                try simp only [Act.put, List.setIfInBounds_toArray, List.set_cons_zero, List.set_cons_succ]
                refine wpAny_ready (rs := [24]) (by kernel_rfl) (by simp) ?_
                refine AllReady.cons rfl (fun K hK => ?_) AllReady.nil
                go_simp
                refine hK _ _ ?_
                clear hK K
                try simp only [Act.put, List.setIfInBounds_toArray, List.set_cons_zero, List.set_cons_succ]
                refine wpAny_done (by kernel_rfl) ?_ _
                refine NoPanic.normal ?_
                exact ⟨rfl, .slice ro rn rcp, .slice bo bn bcp, (wy.heap.size + 1), wy.heap.size, by simp only [Act.put, List.setIfInBounds_toArray, List.set_cons_zero, List.set_cons_succ], _, w5, _, w6, _, (by repeat (first | exact Ext.refl _ | assumption | refine Ext.alloc ?_ _ | refine Ext.drewN ?_ _ | refine Ext.drew ?_)), hg5, (by repeat (first | exact Ext.refl _ | assumption | refine Ext.alloc ?_ _ | refine Ext.drewN ?_ _ | refine Ext.drew ?_)), hg6, (by repeat (first | exact Ext.refl _ | assumption | refine Ext.alloc ?_ _ | refine Ext.drewN ?_ _ | refine Ext.drew ?_)), rfl, ho5, hb5, ho6, hb6, f5, f6⟩
              · rintro a' w' ⟨v5, v6, z1, z2, rfl, wA, w5, wB, w6, wC, hA, hg5, hB, hg6, hC, rfl, ho5, hb5, ho6, hb6, f5, f6⟩
                have hnx := half_next HHy.out rfl HRR.out hRl hRt hrvR.out HGY.out hxy htw2 hA hg5 hB hg6 hC ho5 hb5 ho6 hb6 (f5 HHy.out.offR) (f6 HHy.out.offB)
                simp only [Act.put, List.setIfInBounds_toArray, List.set_cons_zero, List.set_cons_succ]
                go_wp2_with fail
                exact ⟨⟨c + 1, v5, v6, _, by omega, rfl, hnx.1, hnx.2.1, Lib.hid hnx.2.2⟩, by simp only [intOf]; omega⟩
    · obtain rfl : n = c := by omega
      obtain ⟨A, hA, hT⟩ := half_done (B := w.heap.size) hH HM.out hn.1 HG.out htw2
      go_wp2_with fail
      go_ret
      exact ⟨A, by rw [hA]; rfl, hT, hx⟩
end Go.Proofs.Ytcngecibljgndaa
