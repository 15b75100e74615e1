/- Inspect: ratio. -/
import Derived.Test.YtefmioppamdceaaDoorMII
import Derived.Test.YtefmioppamdceaaDoorMOff
namespace Go.Proofs.YtefmioppamdceaaDoor
open Go.RowKit Go.Shelf

set_option maxRecDepth 100000 in
set_option maxHeartbeats 4000000 in
theorem gratio_calls (w : World) (a b : Nat) (x y : Int) (hx : BigAt w a x) (hy : BigAt w b y) (hX : -1000000000000000000 ≤ x ∧ x ≤ 1000000000000000000) (hY : 0 < y ∧ y ≤ 1000000000000000000) :
    Calls Tryd.prog 59 #[.pointer (some ⟨a, 0, none⟩), .pointer (some ⟨b, 0, none⟩)] w fun e w' => e = .returned (.agg #[.int .i64 (x / (Int.gcd x y : Int)), .int .i64 (y / (Int.gcd x y : Int))]) ∧ Ext w w' := by
  obtain ⟨g, hg⟩ : ∃ g : Int, g = (Int.gcd x y : Int) := ⟨_, rfl⟩
  have hg0 : 0 < g := by
    rw [hg]
    have : 0 < Int.gcd x y := Int.gcd_pos_of_ne_zero_right _ (by omega)
    omega
  have hgx : g ∣ x := by rw [hg]; exact Int.gcd_dvd_left _ _
  have hgy : g ∣ y := by rw [hg]; exact Int.gcd_dvd_right _ _
  obtain ⟨P, hP⟩ : ∃ P, P = x / g := ⟨_, rfl⟩
  obtain ⟨Q, hQ⟩ : ∃ Q : Nat, (Q : Int) = y / g := ⟨(y / g).toNat, by have := Int.ediv_nonneg (show 0 ≤ y by omega) (show 0 ≤ g by omega); omega⟩
  have hQ0 : 0 < Q := by
    have h1 := Int.ediv_mul_cancel hgy
    rw [← hQ] at h1
    rcases Nat.eq_zero_or_pos Q with h | h
    · subst h; simp at h1; omega
    · exact h
  have hQb : (Q : Int) ≤ 1000000000000000000 := by rw [hQ]; have := Int.ediv_le_self (a := y) g (by omega); omega
  have hPb : -1000000000000000000 ≤ P ∧ P ≤ 1000000000000000000 := by
    have h1 : P.natAbs ≤ x.natAbs := by
      rw [hP, Int.natAbs_ediv_of_dvd hgx]; exact Nat.div_le_self _ _
    omega
  rw [← hg, ← hP, ← hQ]
  have hrc := fun W R h h1 h2 => rfrac_calls W R a b x y h h1 h2 (by omega) (by omega) hY.1
  rw [← hg] at hrc
  have hQ2 : (y / g).toNat = Q := by omega
  simp only [← hP, hQ2] at hrc
  clear hP hQ hQ2 hgx hgy hg
  go_enter Tryd.func59, Tryd.ntmps59
  go_wp2_with fail
  obtain ⟨W, hW⟩ : ∃ W, W = w.heap.size := ⟨_, rfl⟩
  obtain ⟨w1, hw1⟩ : ∃ w1, w1 = ((w.alloc (Obj.cells #[.int .i64 0, .int .i64 0] 23)).alloc (Obj.cells #[.bool false, .slice none 0 0, .slice none 0 0] 131)) := ⟨_, rfl⟩
  have hx1 : Ext w w1 := by rw [hw1]; exact (by repeat (first | exact Ext.refl _ | assumption | refine Ext.alloc ?_ _ | refine Ext.drewN ?_ _ | refine Ext.drew ?_))
  have hsp1 : Spot w1 W := by rw [hw1, hW]; exact (Spot.new w _ _ _).ext ((Ext.refl _).alloc _)
  have hR1 : RatSpot w1 (W + 1) := by
    have := RatSpot.new (w.alloc (Obj.cells #[.int .i64 0, .int .i64 0] 23))
    rw [hw1, hW]
    simpa using this
  rw [← hw1, ← hW]
  have hWw : w.heap.size ≤ W := by omega
  clear hw1 hW
  have hWa : W + 1 ≠ a := by have := hx.spot.lt; omega
  have hWb : W + 1 ≠ b := by have := hy.spot.lt; omega
  refine (hrc w1 (W + 1) hR1 (hx.ext hx1) (hy.ext hx1) hWa hWb).mono ?_
  rintro e w2 ⟨rfl, hg2, hRa⟩
  have hx2 := hx1.set hg2 (by omega)
  have hsp2 : Spot w2 W := by
    have hne : ∀ o, some (⟨W, o, none⟩ : Addr).block ≠ some (W + 1) := fun o => by simp
    exact ⟨Nat.lt_of_lt_of_le hsp1.lt hg2.size, by rw [grownBy_cell hg2 (p := ⟨W, 0, none⟩) hsp1.lt (hne 0)]; exact hsp1.some0, by rw [grownBy_cell hg2 (p := ⟨W, 1, none⟩) hsp1.lt (hne 1)]; exact hsp1.some1, by rw [grownBy_frozen hg2 (p := ⟨W, 0, none⟩) hsp1.lt (hne 0)]; exact hsp1.free0, by rw [grownBy_frozen hg2 (p := ⟨W, 1, none⟩) hsp1.lt (hne 1)]; exact hsp1.free1⟩
  clear hrc hg2 hsp1 hR1 hx1
  go_wp2_with fail
  refine (rnum_calls w2 (W + 1) P Q hRa).mono ?_
  rintro e w3 ⟨n1, rfl, -, hN1, hx3⟩
  go_wp2_with fail
  refine (iint64_calls w3 n1 P hN1 (by omega)).mono ?_
  rintro e w4 ⟨rfl, hx4⟩
  have hx24 := hx3.trans hx4
  go_wp2_with fail
  refine (rden_calls w4 (W + 1) P Q (hRa.ext hx24) hQ0).mono ?_
  rintro e w5 ⟨n2, rfl, -, hN2, hx5⟩
  go_wp2_with fail
  refine (iint64_calls w5 n2 Q hN2 (by omega)).mono ?_
  rintro e w6 ⟨rfl, hx6⟩
  have hx26 := hx24.trans (hx5.trans hx6)
  have hx06 := hx2.trans hx26
  have hsp6 := hsp2.ext hx26
  obtain ⟨e0, he0⟩ := Option.isSome_iff_exists.1 hsp6.some0
  obtain ⟨e1, he1⟩ := Option.isSome_iff_exists.1 hsp6.some1
  have f0 := hsp6.free0
  have f1 := hsp6.free1
  have hl6 := hsp6.lt
  go_wp2_with fail
  obtain ⟨q0, q1⟩ := hsp6.put (.int .i64 P) (.int .i64 Q)
  refine bodyPost_ret (v := .agg #[.int .i64 P, .int .i64 Q]) (by simp [results, Tryd.results59, go_sem, q0, q1]) rfl ?_
  exact ⟨rfl, (hx06.setOwn _ _ hWw).setOwn _ _ hWw⟩
end Go.Proofs.YtefmioppamdceaaDoor

/- Inspect: tabled: the walk. -/
namespace Go.Proofs.YtefmioppamdceaaDoor
open Go.RowKit Go.Shelf

theorem startR_low {n m : Nat} {A : Nat → Nat → Int} {i l : Nat} (hi : i < n) : (GT.start n m A).R i l = ent0 n m A i l := by show (if i < n then _ else _) = _; rw [if_pos hi]
theorem startR_goal {n m : Nat} {A : Nat → Nat → Int} {l : Nat} : (GT.start n m A).R n l = cost0 m l := by show (if n < n then _ else _) = _; rw [if_neg (by omega)]
set_option maxRecDepth 100000 in
set_option maxHeartbeats 8000000 in
theorem gtabled_calls (w : World) (go : Option Addr) (gc : Nat) (g : List (List Int)) (m : Nat) (add : Int) (hI : GameIn w go g) (hgc : g.length ≤ gc) (hn : 0 < g.length ∧ g.length ≤ 5) (hm : 0 < m ∧ m ≤ 5) (hrow : ∀ k, k < g.length → (rowI g k).length = m) (hB : ∀ i j, i < g.length → j < m → -1000 ≤ entI g i j ∧ entI g i j ≤ 1000) (hadd : -1000 ≤ add ∧ add ≤ 1000) :
    Calls Tryd.prog 52 #[.slice go g.length gc, .int .i64 add] w fun e w' => ∃ P : GAt, e = .returned (.pointer (some ⟨P.t, 0, none⟩)) ∧ TabG w' w.heap.size P g.length (m + g.length + 1) (GT.start g.length m (fun i j => entI g i j + add)) ∧ Ext w w' := by
  obtain ⟨i0, hi, hz0, hz1, hz2⟩ := info_parts info_int
  obtain ⟨j0, hj, hy0, hy1, hy2⟩ := info_parts info_erow
  obtain ⟨n, hnn⟩ : ∃ n, n = g.length := ⟨_, rfl⟩
  obtain ⟨gb, goff, ro, rc, rfl, hgl, hg0, hrc, hi0⟩ := hI 0 hn.1
  rw [hrow 0 hn.1] at hg0
  rw [Nat.add_zero] at hg0
  rw [← hnn] at hgc hn hrow hB ⊢
  have HI := Lib.hid hI
  have HR := Lib.hid hrow
  have HB := Lib.hid hB
  obtain ⟨A, hA⟩ : ∃ A : Nat → Nat → Int, A = fun i j => entI g i j + add := ⟨_, rfl⟩
  rw [← hA]
  have HA := Lib.hid hA
  have HN := Lib.hid hnn
  have hmk := make_ptrs (m + n + 1) (by omega)
  have hmk2 : ((m + n + 1 : Nat) : Int) = (m : Int) + (n : Int) + 1 := by omega
  rw [hmk2] at hmk
  clear hA hrow hB hI hmk2 hi0 hrc hnn
  have hnz : ((n : Int) == 0) = false := by simp; omega
  have hn0 : (0 : Int) < (n : Int) := by omega
  go_enter Tryd.func52, Tryd.ntmps52
  go_wp2_with fail
  go_region
  obtain ⟨w1, hw1⟩ : ∃ w1, w1 = w.drew := ⟨_, rfl⟩
  have hx1 : Ext w w1 := by rw [hw1]; exact (Ext.refl _).drew
  rw [← hw1]
  clear hw1
  go_wp2_with fail
  refine (number_calls w1 1 (by decide)).mono ?_
  rintro e w2 ⟨a1, rfl, ha1, hB1, hx2⟩
  have hx12 := hx1.trans hx2
  go_wp2_with fail
  obtain ⟨t, ht⟩ : ∃ t, t = w2.heap.size := ⟨_, rfl⟩
  obtain ⟨w3, hw3⟩ : ∃ w3, w3 = (w2.alloc (Obj.cells #[.slice none 0 0, .slice none 0 0, .pointer (some ⟨a1, 0, none⟩)] 89)) := ⟨_, rfl⟩
  have hx3 : Ext w2 w3 := by rw [hw3]; exact (by repeat (first | exact Ext.refl _ | assumption | refine Ext.alloc ?_ _ | refine Ext.drewN ?_ _ | refine Ext.drew ?_))
  have hx13 := hx12.trans hx3
  have hH3 : Half w3 t n m A 0 (.slice none 0 0) (.slice none 0 0) [] := by
    refine ⟨by rw [hw3, ht]; simp, by rw [hw3, ht]; simp [go_sem], by rw [hw3, ht]; simp [go_sem], ⟨a1, by rw [hw3, ht]; simp [go_sem], hB1.ext hx3⟩, fun k _ => by rw [hw3, ht]; simp [go_sem], Own.nil _ _ _, fun k hk => absurd hk (by simp), Own.nil _ _ _, Off0.nil, Off0.nil, fun q hq => by simp [Value.ownBlock] at hq, fun _ => rfl, fun _ => rfl⟩
  rw [← hw3, ← ht]
  have htw : w.heap.size ≤ t := by have := hx12.size; omega
  clear hw3 ht hB1 ha1 hx1 hx2 hx3 hx12
  go_loopw [8] (fun iv wr => ∃ (i k : Nat) (rv bv : Value) (rvs : List Value), i ≤ n + 1 ∧ iv = .int .i64 i ∧ Hid (rvs.length = i ∧ k = min i n) ∧ Half wr t n m A k rv bv rvs ∧ Ext w wr) (fun iv _ => n + 1 - (intOf iv).toNat)
  case atStart => exact ⟨0, 0, _, _, _, by omega, rfl, Lib.hid ⟨rfl, by omega⟩, hH3, hx13⟩
  case round =>
    clear hH3 hx13
    obtain ⟨i, k, rv, bv, rvs, hin, rfl, HL, hH, hx⟩ := hrel
    by_cases hlt : i ≤ n
    · have hlt2 : (i : Int) ≤ (n : Int) := by omega
      go_wp2_with fail
      have hxa : Ext wr (wr.alloc (Obj.cells (Array.replicate (m + n + 1) (.pointer none)) 84)) := (by repeat (first | exact Ext.refl _ | assumption | refine Ext.alloc ?_ _ | refine Ext.drewN ?_ _ | refine Ext.drew ?_))
      have hNa := Lib.hid (RowN.made wr (m + n + 1) 84 ((GT.start n m A).R i))
      obtain ⟨nb, hnb⟩ : ∃ nb, nb = wr.heap.size := ⟨_, rfl⟩
      generalize hwa : (wr.alloc (Obj.cells (Array.replicate (m + n + 1) (.pointer none)) 84)) = wa at *
      rw [← hnb] at hNa ⊢
      have hnw : wr.heap.size ≤ nb := by omega
      have hlen : ((m + n + 1 : Nat) : Int) = (m : Int) + (n : Int) + 1 := by omega
      clear hwa hnb
      go_loopw [32] (fun q ws => ∃ c : Nat, c ≤ m + n + 1 ∧ q = .int .i64 c ∧ Ext wr ws ∧ Hid (RowN ws nb (m + n + 1) c ((GT.start n m A).R i))) (fun q _ => m + n + 1 - (intOf q).toNat)
      case atStart => exact ⟨0, by omega, rfl, hxa, hNa⟩
      case round =>
        rename World => ws
        obtain ⟨c, hc, rfl, hxs, HNs⟩ := hrel
        by_cases hcl : c < m + n + 1
        · have hcl2 : (c : Int) < (m : Int) + (n : Int) + 1 := by omega
          have hcl3 : (c : Int) < ((m + n + 1 : Nat) : Int) := by omega
          go_wp2_with fail
          refine (number_calls ws 0 (by decide)).mono ?_
          rintro e w4 ⟨a1, rfl, -, hB4, hx4⟩
          have hN4 := HNs.out.ext hx4
          obtain ⟨⟨pc, hpc⟩, hfc⟩ := hN4.all c hcl
          have hnl4 := hN4.lt
          by_cases hie : i = n
          · subst hie
            by_cases hcm : c < m
            · have hcm2 : (c : Int) < (m : Int) := by omega
              have HZ : Hid ((GT.start i m A).R i c = -1) := Lib.hid (by rw [startR_goal]; unfold cost0; rw [if_pos hcm])
              have hNt := hN4.touch hcl (some ⟨a1, 0, none⟩)
              have hx6 := (hxs.trans hx4).onto (grownBy_setCell w4 ⟨nb, c, none⟩ (.pointer (some ⟨a1, 0, none⟩))) (fun q hq => by simp only [Option.some.injEq] at hq; omega)
              go_wp2_with fail
              generalize hw6 : (w4.setCell ⟨nb, c, none⟩ (.pointer (some ⟨a1, 0, none⟩))) = w6 at *
              clear hw6
              refine (number_calls w6 (-1) (by omega)).mono ?_
              rintro e w7 ⟨a2, rfl, -, hB7, hx7⟩
              have hN7 := hNt.ext hx7
              obtain ⟨⟨pd, hpd⟩, hfd⟩ := hN7.all c hcl
              have hnl7 := hN7.lt
              have HNN := Lib.hid (hN7.put (a := a2) hcl (by rw [HZ.out]; exact hB7))
              have hxn := (hx6.trans hx7).onto (grownBy_setCell w7 ⟨nb, c, none⟩ (.pointer (some ⟨a2, 0, none⟩))) (fun q hq => by simp only [Option.some.injEq] at hq; omega)
              go_wp2_with fail
              exact ⟨⟨c + 1, by omega, rfl, hxn, HNN⟩, by simp only [intOf]; omega⟩
            · have hcm2 : ¬ (c : Int) < (m : Int) := by omega
              have HZ : Hid ((GT.start i m A).R i c = 0) := Lib.hid (by rw [startR_goal]; unfold cost0; rw [if_neg hcm])
              have HNN := Lib.hid (hN4.put (a := a1) hcl (by rw [HZ.out]; exact hB4))
              have hxn := (hxs.trans hx4).onto (grownBy_setCell w4 ⟨nb, c, none⟩ (.pointer (some ⟨a1, 0, none⟩))) (fun q hq => by simp only [Option.some.injEq] at hq; omega)
              go_wp2_with fail
              exact ⟨⟨c + 1, by omega, rfl, hxn, HNN⟩, by simp only [intOf]; omega⟩
          · have hie2 : ((i : Int) == (n : Int)) = false := by simp; omega
            have hie3 : (i : Int) < (n : Int) := by omega
            have hin2 : i < n := by omega
            by_cases hcm : c < m
            · have hcm2 : (c : Int) < (m : Int) := by omega
              have HZ : Hid ((GT.start n m A).R i c = entI g i c + add) := Lib.hid (by rw [startR_low hin2]; unfold ent0; rw [if_pos hcm, HA.out])
              have hbd := HB.out i c hin2 hcm
              obtain ⟨gb2, goff2, ro2, rc2, hge, hgl2, hgi, hrc2, hii⟩ := HI.out i (by rw [← HN.out]; exact hin2)
              simp only [Option.some.injEq, Addr.mk.injEq, and_true] at hge
              obtain ⟨rfl, rfl⟩ := hge
              rw [HR.out i hin2] at hgi
              obtain ⟨rb2, roff2, rfl, hrl2, hrc3⟩ := hii c (by rw [HR.out i hin2]; exact hcm)
              have hent : ith (rowI g i) c = entI g i c := rfl
              rw [hent] at hrc3
              have hx04 := (hx.trans hxs).trans hx4
              have q1 := (hx04.cell (p := ⟨gb, goff + i, none⟩) hgl2).trans hgi
              have q2 := (hx04.cell (p := ⟨rb2, roff2 + c, none⟩) hrl2).trans hrc3
              have hws := hx.size
              have n1 : gb ≠ nb := by omega
              have n2 : nb ≠ gb := by omega
              have n3 : rb2 ≠ nb := by omega
              have n4 : nb ≠ rb2 := by omega
              clear hent hrc3 hgi hii
              have hNt := hN4.touch hcl (some ⟨a1, 0, none⟩)
              have hx6 := (hxs.trans hx4).onto (grownBy_setCell w4 ⟨nb, c, none⟩ (.pointer (some ⟨a1, 0, none⟩))) (fun q hq => by simp only [Option.some.injEq] at hq; omega)
              go_wp2_with fail
              generalize hw6 : (w4.setCell ⟨nb, c, none⟩ (.pointer (some ⟨a1, 0, none⟩))) = w6 at *
              clear hw6
              refine (number_calls w6 (entI g i c + add) (by omega)).mono ?_
              rintro e w7 ⟨a2, rfl, -, hB7, hx7⟩
              have hN7 := hNt.ext hx7
              obtain ⟨⟨pd, hpd⟩, hfd⟩ := hN7.all c hcl
              have hnl7 := hN7.lt
              have HNN := Lib.hid (hN7.put (a := a2) hcl (by rw [HZ.out]; exact hB7))
              have hxn := (hx6.trans hx7).onto (grownBy_setCell w7 ⟨nb, c, none⟩ (.pointer (some ⟨a2, 0, none⟩))) (fun q hq => by simp only [Option.some.injEq] at hq; omega)
              go_wp2_with fail
              exact ⟨⟨c + 1, by omega, rfl, hxn, HNN⟩, by simp only [intOf]; omega⟩
            · have hcm2 : ¬ (c : Int) < (m : Int) := by omega
              by_cases hc1 : c = m + i
              · have hc1b : ((c : Int) == (m : Int) + (i : Int)) = true := by simp; omega
                have HZ : Hid ((GT.start n m A).R i c = 1) := Lib.hid (by rw [startR_low hin2]; unfold ent0; rw [if_neg hcm, if_neg (by omega), if_pos hc1])
                have HC := Lib.hid hc1
                clear hc1
                have hNt := hN4.touch hcl (some ⟨a1, 0, none⟩)
                have hx6 := (hxs.trans hx4).onto (grownBy_setCell w4 ⟨nb, c, none⟩ (.pointer (some ⟨a1, 0, none⟩))) (fun q hq => by simp only [Option.some.injEq] at hq; omega)
                go_wp2_with fail
                generalize hw6 : (w4.setCell ⟨nb, c, none⟩ (.pointer (some ⟨a1, 0, none⟩))) = w6 at *
                clear hw6
                refine (number_calls w6 (1) (by omega)).mono ?_
                rintro e w7 ⟨a2, rfl, -, hB7, hx7⟩
                have hN7 := hNt.ext hx7
                obtain ⟨⟨pd, hpd⟩, hfd⟩ := hN7.all c hcl
                have hnl7 := hN7.lt
                have HNN := Lib.hid (hN7.put (a := a2) hcl (by rw [HZ.out]; exact hB7))
                have hxn := (hx6.trans hx7).onto (grownBy_setCell w7 ⟨nb, c, none⟩ (.pointer (some ⟨a2, 0, none⟩))) (fun q hq => by simp only [Option.some.injEq] at hq; omega)
                go_wp2_with fail
                exact ⟨⟨c + 1, by omega, rfl, hxn, HNN⟩, by simp only [intOf]; omega⟩
              · have hc1b : ((c : Int) == (m : Int) + (i : Int)) = false := by simp; omega
                by_cases hc2 : c = m + n
                · have hc2b : ((c : Int) == (m : Int) + (n : Int)) = true := by simp; omega
                  have HZ : Hid ((GT.start n m A).R i c = 1) := Lib.hid (by rw [startR_low hin2]; unfold ent0; rw [if_neg hcm, if_pos hc2])
                  have HC := Lib.hid hc2
                  clear hc1 hc2
                  have hNt := hN4.touch hcl (some ⟨a1, 0, none⟩)
                  have hx6 := (hxs.trans hx4).onto (grownBy_setCell w4 ⟨nb, c, none⟩ (.pointer (some ⟨a1, 0, none⟩))) (fun q hq => by simp only [Option.some.injEq] at hq; omega)
                  go_wp2_with fail
                  generalize hw6 : (w4.setCell ⟨nb, c, none⟩ (.pointer (some ⟨a1, 0, none⟩))) = w6 at *
                  clear hw6
                  refine (number_calls w6 (1) (by omega)).mono ?_
                  rintro e w7 ⟨a2, rfl, -, hB7, hx7⟩
                  have hN7 := hNt.ext hx7
                  obtain ⟨⟨pd, hpd⟩, hfd⟩ := hN7.all c hcl
                  have hnl7 := hN7.lt
                  have HNN := Lib.hid (hN7.put (a := a2) hcl (by rw [HZ.out]; exact hB7))
                  have hxn := (hx6.trans hx7).onto (grownBy_setCell w7 ⟨nb, c, none⟩ (.pointer (some ⟨a2, 0, none⟩))) (fun q hq => by simp only [Option.some.injEq] at hq; omega)
                  go_wp2_with fail
                  exact ⟨⟨c + 1, by omega, rfl, hxn, HNN⟩, by simp only [intOf]; omega⟩
                · have hc2b : ((c : Int) == (m : Int) + (n : Int)) = false := by simp; omega
                  have HZ : Hid ((GT.start n m A).R i c = 0) := Lib.hid (by rw [startR_low hin2]; unfold ent0; rw [if_neg hcm, if_neg hc2, if_neg hc1])
                  clear hc1 hc2
                  have HNN := Lib.hid (hN4.put (a := a1) hcl (by rw [HZ.out]; exact hB4))
                  have hxn := (hxs.trans hx4).onto (grownBy_setCell w4 ⟨nb, c, none⟩ (.pointer (some ⟨a1, 0, none⟩))) (fun q hq => by simp only [Option.some.injEq] at hq; omega)
                  go_wp2_with fail
                  exact ⟨⟨c + 1, by omega, rfl, hxn, HNN⟩, by simp only [intOf]; omega⟩
        · obtain rfl : c = m + n + 1 := by omega
          have hHs := hH.ext hxs
          have hRB := Lib.hid HNs.out.full
          have hc0 := hHs.c0
          have hc1 := hHs.c1
          have htl := hHs.tl
          have hf0 := hHs.free 0 (by decide)
          have hf1 := hHs.free 1 (by decide)
          have hkl : rvs.length = i := HL.out.1
          have hnl := hRB.out.lt
          have htN : some t ≠ rv.ownBlock := hHs.tNe (.inl rfl)
          by_cases hie : i = n
          · replace hie := hie.symm
            subst hie
            go_wp2_with (at_builtin; refine wpList_append_Off _ rfl _ _ 87 rfl 83 j0 (.slice none 0 0) 1 24 Tryd.underlying87 hj hy0 hy1 hy2 rfl (by omega) (t + 1) rv rvs rfl (hHs.ro.ext (by repeat (first | exact Ext.refl _ | assumption | refine Ext.alloc ?_ _ | refine Ext.drewN ?_ _ | refine Ext.drew ?_))) (by simp; omega) _ 1 1 [.slice (some ⟨nb, 0, none⟩) (m + n + 1) (m + n + 1)] rfl rfl (one_cell _ _ _ _ rfl) (by simp [Value.oneCell']) (by simp; unfold maxLen; omega) (by simp; omega) ?_; intro v5 w5 ho5 hg5 hb5 f5; have hxA : Ext ws (ws.alloc (Obj.cells #[.slice (some ⟨nb, 0, none⟩) (m + n + 1) (m + n + 1)] 83)) := (by repeat (first | exact Ext.refl _ | assumption | refine Ext.alloc ?_ _ | refine Ext.drewN ?_ _ | refine Ext.drew ?_)); have hH5 := Lib.hid (hHs.addRow hxA hg5 ho5 hb5 f5 (by rw [hkl]; exact hRB.out.ext hxA)); have hg6 := grownBy_trans (hxA.grown rv.ownBlock) hg5; have k0 := (grownBy_cell (p := ⟨t, 0, none⟩) hg6 htl htN).trans hc0; have k1 := (grownBy_cell (p := ⟨t, 1, none⟩) hg6 htl htN).trans hc1; have kf := (grownBy_frozen (p := ⟨t, 0, none⟩) hg6 htl htN).trans hf0; have kf1 := (grownBy_frozen (p := ⟨t, 1, none⟩) hg6 htl htN).trans hf1; have hs5 := hg6.size; have htl5 := Nat.lt_of_lt_of_le htl hs5; obtain ⟨ro5, rn5, rc5, rfl, -⟩ := ho5.shapeCap; clear hg5 hb5 f5 ho5)
            have hx6 := (((hx.trans hxs).onto hg6 (fun q hq => by have := (hHs.ro.lt q hq).1; omega)).onto (grownBy_setCell w5 ⟨t, 0, none⟩ (.slice ro5 rn5 rc5)) (fun q hq => by simp only [Option.some.injEq] at hq; omega))
            exact ⟨⟨n + 1, k, _, _, _, by omega, rfl, Lib.hid ⟨by rw [List.length_append, hkl]; rfl, by have := HL.out.2; omega⟩, hH5.out, hx6⟩, by simp only [intOf]; omega⟩
          · have hin2 : (i : Int) < (n : Int) := by omega
            have hki : i = k := by have := HL.out.2; omega
            subst hki
            go_wp2_with (first | (at_builtin; refine wpList_append_Off _ rfl _ _ 87 rfl 83 j0 (.slice none 0 0) 1 24 Tryd.underlying87 hj hy0 hy1 hy2 rfl (by omega) (t + 1) rv rvs rfl (hHs.ro.ext (by repeat (first | exact Ext.refl _ | assumption | refine Ext.alloc ?_ _ | refine Ext.drewN ?_ _ | refine Ext.drew ?_))) (by simp; omega) _ 1 1 [.slice (some ⟨nb, 0, none⟩) (m + n + 1) (m + n + 1)] rfl rfl (one_cell _ _ _ _ rfl) (by simp [Value.oneCell']) (by simp; unfold maxLen; omega) (by simp; omega) ?_; intro v5 w5 ho5 hg5 hb5 f5; have hxA : Ext ws (ws.alloc (Obj.cells #[.slice (some ⟨nb, 0, none⟩) (m + n + 1) (m + n + 1)] 83)) := (by repeat (first | exact Ext.refl _ | assumption | refine Ext.alloc ?_ _ | refine Ext.drewN ?_ _ | refine Ext.drew ?_)); have hH5 := Lib.hid (hHs.addRow hxA hg5 ho5 hb5 f5 (by rw [hkl]; exact hRB.out.ext hxA)); have hg6 := grownBy_trans (hxA.grown rv.ownBlock) hg5; have k0 := (grownBy_cell (p := ⟨t, 0, none⟩) hg6 htl htN).trans hc0; have k1 := (grownBy_cell (p := ⟨t, 1, none⟩) hg6 htl htN).trans hc1; have kf := (grownBy_frozen (p := ⟨t, 0, none⟩) hg6 htl htN).trans hf0; have kf1 := (grownBy_frozen (p := ⟨t, 1, none⟩) hg6 htl htN).trans hf1; have hs5 := hg6.size; have htl5 := Nat.lt_of_lt_of_le htl hs5; obtain ⟨ro5, rn5, rc5, rfl, -⟩ := ho5.shapeCap; clear hg5 hb5 f5 ho5) | (at_builtin; refine wpList_append_Off _ rfl _ _ 30 rfl 3 i0 (.int .i64 0) 1 8 Tryd.underlying30 hi hz0 hz1 hz2 rfl (by omega) (t + 1) bv _ rfl (hH5.out.bo.ext (by repeat (first | exact Ext.refl _ | assumption | refine Ext.alloc ?_ _ | refine Ext.drewN ?_ _ | refine Ext.drew ?_))) (by simp; omega) _ 1 1 [.int .i64 ((m : Int) + (i : Int))] rfl rfl (one_cell _ _ _ _ (by simp)) (by simp [Value.oneCell']) (by simp [ints]; unfold maxLen; omega) (by simp [ints]; omega) ?_; intro v6 w6 ho6 hg7 hb6 f6; have hxB : Ext (w5.setCell ⟨t, 0, none⟩ (.slice ro5 rn5 rc5)) ((w5.setCell ⟨t, 0, none⟩ (.slice ro5 rn5 rc5)).alloc (Obj.cells #[.int .i64 ((m : Int) + (i : Int))] 3)) := (by repeat (first | exact Ext.refl _ | assumption | refine Ext.alloc ?_ _ | refine Ext.drewN ?_ _ | refine Ext.drew ?_)); have htN2 := hH5.out.tNe (.inr rfl); have htl6 := hH5.out.tl; have hH6 := Lib.hid (hH5.out.addBas hxB hg7 ho6 hb6 f6); have hg8 := grownBy_trans (hxB.grown bv.ownBlock) hg7; have j1 := (grownBy_cell (p := ⟨t, 1, none⟩) hg8 htl6 htN2).trans hH5.out.c1; have jf := (grownBy_frozen (p := ⟨t, 1, none⟩) hg8 htl6 htN2).trans (hH5.out.free 1 (by decide)); have htl7 := Nat.lt_of_lt_of_le htl6 hg8.size; obtain ⟨ro6, rn6, rc6, rfl, -⟩ := ho6.shapeCap; clear hg7 hb6 f6 ho6))
            have hx6 := (((hx.trans hxs).onto hg6 (fun q hq => by have := (hHs.ro.lt q hq).1; omega)).onto (grownBy_setCell w5 ⟨t, 0, none⟩ (.slice ro5 rn5 rc5)) (fun q hq => by simp only [Option.some.injEq] at hq; omega))
            have hx7 := (hx6.onto hg8 (fun q hq => by have := (hH5.out.bo.lt q hq).1; omega)).onto (grownBy_setCell w6 ⟨t, 1, none⟩ (.slice ro6 rn6 rc6)) (fun q hq => by simp only [Option.some.injEq] at hq; omega)
            exact ⟨⟨i + 1, i + 1, _, _, _, by omega, rfl, Lib.hid ⟨by rw [List.length_append, hkl]; rfl, by omega⟩, hH6.out, hx7⟩, by simp only [intOf]; omega⟩
    · obtain rfl : i = n + 1 := by omega
      have hkn : k = n := by have := HL.out.2; omega
      subst hkn
      obtain ⟨P, hP, hT⟩ := hH.done HL.out.1 hn.1 htw
      subst hP
      go_wp2_with fail
      go_ret
      exact ⟨P, rfl, hT, hx⟩
end Go.Proofs.YtefmioppamdceaaDoor
