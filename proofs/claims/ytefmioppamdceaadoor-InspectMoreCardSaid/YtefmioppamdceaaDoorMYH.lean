/- The specification's fractions: lowest. -/
import Derived.Test.YtefmioppamdceaaDoorMYE
namespace Go.Proofs.YtefmioppamdceaaDoor
--@optional
open Go.RowKit Go.Shelf

/-- A place for a fraction. -/
structure Spot4 (w : World) (b : Nat) : Prop where
  lt : b < w.heap.size
  some0 : (w.cell? ⟨b, 0, none⟩).isSome = true
  some1 : (w.cell? ⟨b, 1, none⟩).isSome = true
  some2 : (w.cell? ⟨b, 2, none⟩).isSome = true
  some3 : (w.cell? ⟨b, 3, none⟩).isSome = true
  free0 : w.frozen? ⟨b, 0, none⟩ = false
  free1 : w.frozen? ⟨b, 1, none⟩ = false
  free2 : w.frozen? ⟨b, 2, none⟩ = false
  free3 : w.frozen? ⟨b, 3, none⟩ = false
theorem Spot4.ext {w w' : World} {b : Nat} (h : Spot4 w b) (hx : Ext w w') : Spot4 w' b :=
  ⟨Nat.lt_of_lt_of_le h.lt hx.size, by rw [hx.cell h.lt]; exact h.some0, by rw [hx.cell h.lt]; exact h.some1, by rw [hx.cell h.lt]; exact h.some2, by rw [hx.cell h.lt]; exact h.some3, by rw [hx.frozen h.lt]; exact h.free0, by rw [hx.frozen h.lt]; exact h.free1, by rw [hx.frozen h.lt]; exact h.free2, by rw [hx.frozen h.lt]; exact h.free3⟩
theorem Spot4.grown {w w' : World} {b : Nat} {row : Option Nat} (h : Spot4 w b) (hg : w.grownBy w' row) (hne : some b ≠ row) : Spot4 w' b :=
  ⟨Nat.lt_of_lt_of_le h.lt hg.size, by rw [grownBy_cell hg h.lt hne]; exact h.some0, by rw [grownBy_cell hg h.lt hne]; exact h.some1, by rw [grownBy_cell hg h.lt hne]; exact h.some2, by rw [grownBy_cell hg h.lt hne]; exact h.some3, by rw [grownBy_frozen hg h.lt hne]; exact h.free0, by rw [grownBy_frozen hg h.lt hne]; exact h.free1, by rw [grownBy_frozen hg h.lt hne]; exact h.free2, by rw [grownBy_frozen hg h.lt hne]; exact h.free3⟩
theorem Spot4.put {w : World} {b : Nat} (h : Spot4 w b) (u v x y : Value) :
    ((((w.setCell ⟨b, 0, none⟩ u).setCell ⟨b, 1, none⟩ v).setCell ⟨b, 2, none⟩ x).setCell ⟨b, 3, none⟩ y).cell? ⟨b, 0, none⟩ = some u ∧ ((((w.setCell ⟨b, 0, none⟩ u).setCell ⟨b, 1, none⟩ v).setCell ⟨b, 2, none⟩ x).setCell ⟨b, 3, none⟩ y).cell? ⟨b, 1, none⟩ = some v ∧
    ((((w.setCell ⟨b, 0, none⟩ u).setCell ⟨b, 1, none⟩ v).setCell ⟨b, 2, none⟩ x).setCell ⟨b, 3, none⟩ y).cell? ⟨b, 2, none⟩ = some x ∧ ((((w.setCell ⟨b, 0, none⟩ u).setCell ⟨b, 1, none⟩ v).setCell ⟨b, 2, none⟩ x).setCell ⟨b, 3, none⟩ y).cell? ⟨b, 3, none⟩ = some y := by
  obtain ⟨c0, h0⟩ := Option.isSome_iff_exists.1 h.some0
  obtain ⟨c1, h1⟩ := Option.isSome_iff_exists.1 h.some1
  obtain ⟨c2, h2⟩ := Option.isSome_iff_exists.1 h.some2
  obtain ⟨c3, h3⟩ := Option.isSome_iff_exists.1 h.some3
  refine ⟨?_, ?_, ?_, ?_⟩
  · rw [World.cell?_setCell_other _ _ _ _ (by simp), World.cell?_setCell_other _ _ _ _ (by simp), World.cell?_setCell_other _ _ _ _ (by simp)]
    exact World.cell?_setCell_same _ _ _ h0
  · rw [World.cell?_setCell_other _ _ _ _ (by simp), World.cell?_setCell_other _ _ _ _ (by simp)]
    exact World.cell?_setCell_same _ _ _ (by rw [World.cell?_setCell_other _ _ _ _ (by simp)]; exact h1)
  · rw [World.cell?_setCell_other _ _ _ _ (by simp)]
    exact World.cell?_setCell_same _ _ _ (by rw [World.cell?_setCell_other _ _ _ _ (by simp), World.cell?_setCell_other _ _ _ _ (by simp)]; exact h2)
  · exact World.cell?_setCell_same _ _ _ (by rw [World.cell?_setCell_other _ _ _ _ (by simp), World.cell?_setCell_other _ _ _ _ (by simp), World.cell?_setCell_other _ _ _ _ (by simp)]; exact h3)
theorem grown_put4 (w : World) (b : Nat) (u v x y : Value) : w.grownBy ((((w.setCell ⟨b, 0, none⟩ u).setCell ⟨b, 1, none⟩ v).setCell ⟨b, 2, none⟩ x).setCell ⟨b, 3, none⟩ y) (some b) :=
  grownBy_trans (grownBy_trans (grownBy_trans (grownBy_setCell w ⟨b, 0, none⟩ u) (grownBy_setCell _ ⟨b, 1, none⟩ v)) (grownBy_setCell _ ⟨b, 2, none⟩ x)) (grownBy_setCell _ ⟨b, 3, none⟩ y)
theorem Num.grown {w w' : World} {z : Int} {nb : Bool} {zo : Option Addr} {A : Nat} {row : Option Nat} (h : Num w z nb zo A) (hg : w.grownBy w' row) (hb : ∀ a, zo = some a → some a.block ≠ row) : Num w' z nb zo A := ⟨h.neg, h.digs.len, h.digs.ints.grown hg hb⟩
theorem Spot.far {w w' : World} {b : Nat} {row : Option Nat} (h : Spot w b) (hg : w.grownBy w' row) (hne : some b ≠ row) : Spot w' b :=
  ⟨Nat.lt_of_lt_of_le h.lt hg.size, by rw [grownBy_cell hg h.lt hne]; exact h.some0, by rw [grownBy_cell hg h.lt hne]; exact h.some1, by rw [grownBy_frozen hg h.lt hne]; exact h.free0, by rw [grownBy_frozen hg h.lt hne]; exact h.free1⟩
/-- A fraction, in memory. -/
structure QNum (w : World) (q : Rat) (nb : Bool) (zo : Option Addr) (A : Nat) (mb : Bool) (yo : Option Addr) (B : Nat) : Prop where
  num : Num w q.num nb zo A
  den : Num w q.den mb yo B
theorem QNum.ext {w w' : World} {q : Rat} {nb mb : Bool} {zo yo : Option Addr} {A B : Nat} (h : QNum w q nb zo A mb yo B) (hx : Ext w w') : QNum w' q nb zo A mb yo B := ⟨h.num.ext hx, h.den.ext hx⟩
def QR (w : World) (q : Rat) (e : Ending) (w' : World) : Prop := ∃ nb zo A zc mb yo B yc, e = .returned (.agg #[.bool nb, .slice zo A zc, .bool mb, .slice yo B yc]) ∧ QNum w' q nb zo A mb yo B ∧ (∀ a, zo = some a → w.heap.size ≤ a.block) ∧ (∀ a, yo = some a → w.heap.size ≤ a.block) ∧ Ext w w'
theorem low_num {n d n' : Int} (hd : d ≠ 0) (hn : n' = d.sign * n) : (Rat.divInt n d).num = n' / ((Nat.gcd n'.natAbs d.natAbs : Nat) : Int) := by
  rw [Rat.num_divInt, hn]
  congr 2
  rw [Int.gcd, Nat.gcd_comm, Int.natAbs_mul]
  have : d.sign.natAbs = 1 := by rw [Int.natAbs_sign]; simp [hd]
  rw [this, Nat.one_mul]
theorem low_den {n d n' : Int} (hd : d ≠ 0) (hn : n' = d.sign * n) : (((Rat.divInt n d).den : Nat) : Int) = (d.natAbs : Int) / ((Nat.gcd n'.natAbs d.natAbs : Nat) : Int) := by
  rw [Rat.den_divInt, if_neg hd, hn]
  have : d.sign.natAbs = 1 := by rw [Int.natAbs_sign]; simp [hd]
  rw [Int.gcd, Nat.gcd_comm, Int.natAbs_mul, this, Nat.one_mul]
  exact Int.natCast_ediv _ _
set_option maxRecDepth 100000 in
set_option maxHeartbeats 2000000 in
theorem qlow_calls (w : World) (nb mb : Bool) (zo yo : Option Addr) (A zc B yc : Nat) (n d : Int) (hZ : Num w n nb zo A) (hY : Num w d mb yo B) (hA : A ≤ 2000) (hB : B ≤ 2000) (hd : d ≠ 0) :
    Calls Tryd.prog 30 #[.agg #[.bool nb, .slice zo A zc], .agg #[.bool mb, .slice yo B yc]] w (QR w (Rat.divInt n d)) := by
  obtain ⟨n', hn'⟩ : ∃ n', n' = d.sign * n := ⟨_, rfl⟩
  have HNUM := Lib.hid (low_num hd hn')
  have HDEN := Lib.hid (low_den hd hn')
  have hm := hY.neg
  cases mb with
  | false =>
    have hd0 : 0 < d := by
      have : ¬ d < 0 := by simpa using hm.symm
      omega
    have e : n' = n := by rw [hn', Int.sign_eq_one_of_pos hd0, Int.one_mul]
    have HE := Lib.hid e
    clear e hn' hm
    go_enter Tryd.func30, Tryd.ntmps30
    go_wp2_with fail
    have hx1 : Ext w (((w.alloc (.cells #[.bool nb, .slice zo A zc] 32)).alloc (.cells #[.bool false, .slice yo B yc] 32)).alloc (.cells #[.bool false, .slice none 0 0, .bool false, .slice none 0 0] 34)) := (by repeat (first | exact Ext.refl _ | assumption | refine Ext.alloc ?_ _ | refine Ext.drewN ?_ _ | refine Ext.drew ?_))
    have hb1 : NBox (((w.alloc (.cells #[.bool nb, .slice zo A zc] 32)).alloc (.cells #[.bool false, .slice yo B yc] 32)).alloc (.cells #[.bool false, .slice none 0 0, .bool false, .slice none 0 0] 34)) w.heap.size (.bool nb) (.slice zo A zc) := ⟨by simp [go_sem], by simp [go_sem], by first | (simp; done) | (simp; omega)⟩
    have hb2 : NBox (((w.alloc (.cells #[.bool nb, .slice zo A zc] 32)).alloc (.cells #[.bool false, .slice yo B yc] 32)).alloc (.cells #[.bool false, .slice none 0 0, .bool false, .slice none 0 0] 34)) (w.heap.size + 1) (.bool false) (.slice yo B yc) := ⟨by simp [go_sem], by simp [go_sem], by first | (simp; done) | (simp; omega)⟩
    have hs1 : Spot4 (((w.alloc (.cells #[.bool nb, .slice zo A zc] 32)).alloc (.cells #[.bool false, .slice yo B yc] 32)).alloc (.cells #[.bool false, .slice none 0 0, .bool false, .slice none 0 0] 34)) (w.heap.size + 1 + 1) := ⟨by simp, by simp [go_sem], by simp [go_sem], by simp [go_sem], by simp [go_sem], by simp [go_sem], by simp [go_sem], by simp [go_sem], by simp [go_sem]⟩
    have hp1 : Spot (((w.alloc (.cells #[.bool nb, .slice zo A zc] 32)).alloc (.cells #[.bool false, .slice yo B yc] 32)).alloc (.cells #[.bool false, .slice none 0 0, .bool false, .slice none 0 0] 34)) w.heap.size := ⟨by first | (simp; done) | (simp; omega), by simp [go_sem], by simp [go_sem], by simp [go_sem], by simp [go_sem]⟩
    have hp2 : Spot (((w.alloc (.cells #[.bool nb, .slice zo A zc] 32)).alloc (.cells #[.bool false, .slice yo B yc] 32)).alloc (.cells #[.bool false, .slice none 0 0, .bool false, .slice none 0 0] 34)) (w.heap.size + 1) := ⟨by first | (simp; done) | (simp; omega), by simp [go_sem], by simp [go_sem], by simp [go_sem], by simp [go_sem]⟩
    generalize (((w.alloc (.cells #[.bool nb, .slice zo A zc] 32)).alloc (.cells #[.bool false, .slice yo B yc] 32)).alloc (.cells #[.bool false, .slice none 0 0, .bool false, .slice none 0 0] 34)) = w1 at *
    obtain ⟨R, hR⟩ : ∃ R, R = w.heap.size := ⟨_, rfl⟩
    rw [← hR] at hb1 hb2 hs1 hp1 hp2 ⊢
    have hRw : w.heap.size ≤ R := by omega
    clear hR
    have hN1 : Num w1 n' nb zo A := by rw [HE.out]; exact hZ.ext hx1
    have hN2 : Num w1 (d.natAbs : Int) false yo B := by
      have e : (d.natAbs : Int) = d := by omega
      rw [e]; exact hY.ext hx1
    -- in w3: n' in the first box, the positive divisor in the second one
    obtain ⟨e0, e1, e2⟩ := id hb1
    obtain ⟨d0, d1, d2⟩ := id hb2
    go_wp2_with fail
    refine (gcdD_calls w1 zo yo zc yc A B n'.natAbs d.natAbs hN1.digs (by have := hN2.digs; rw [Int.natAbs_natCast] at this; exact this) (by omega) (by omega)).mono ?_
    rintro e w14 ⟨go, G, gc, rfl, hG, hx4⟩
    have hGl : G ≤ 2000 := by
      rw [← hG.many]
      refine Nat.le_trans (many_le (Nat.lt_of_le_of_lt (Nat.le_of_dvd (by omega) (Nat.gcd_dvd_right _ _)) (lt_many d.natAbs))) ?_
      have := hN2.digs.many
      rw [Int.natAbs_natCast] at this
      omega
    go_wp2_with fail
    refine (whole_digs w14 false go gc (Nat.gcd n'.natAbs d.natAbs) G ((Nat.gcd n'.natAbs d.natAbs : Nat) : Int) hG (by omega) (by simp)).mono ?_
    rintro e w15 ⟨gb, go2, G2, gc2, rfl, hGN, hbg, hx5⟩
    have hx35 := hx4.trans hx5
    clear e0 e1 e2 d0 d1 d2
    obtain ⟨e0, e1, e2⟩ := hb1.ext hx35
    obtain ⟨d0, d1, d2⟩ := hb2.ext hx35
    go_wp2_with fail
    have hx06 := hx1.trans hx35
    obtain ⟨g, hg⟩ : ∃ g, g = Nat.gcd n'.natAbs d.natAbs := ⟨_, rfl⟩
    have hg0 : 0 < g := by rw [hg]; exact Nat.gcd_pos_of_pos_right _ (by omega)
    have hgn : (g : Int) ∣ n' := Int.ofNat_dvd_left.2 (by rw [hg]; exact Nat.gcd_dvd_left _ _)
    have hgd : (g : Int) ∣ (d.natAbs : Int) := Int.natCast_dvd_natCast.2 (by rw [hg]; exact Nat.gcd_dvd_right _ _)
    rw [← hg] at HNUM HDEN hGN
    clear hg hG
    have hG2 : G2 ≤ 2000 := by
      rw [← hGN.digs.many, Int.natAbs_natCast]
      refine Nat.le_trans (many_le (Nat.lt_of_le_of_lt (Nat.le_of_dvd (by omega) (Int.natCast_dvd_natCast.1 hgd)) (lt_many d.natAbs))) ?_
      have := hN2.digs.many
      rw [Int.natAbs_natCast] at this
      omega
    have hxa : Ext w15 (w15.alloc (.cells #[.bool gb, .slice go2 G2 gc2] 32)) := (by repeat (first | exact Ext.refl _ | assumption | refine Ext.alloc ?_ _ | refine Ext.drewN ?_ _ | refine Ext.drew ?_))
    have hb5 := NBox.new w15 32 (.bool gb) (.slice go2 G2 gc2)
    obtain ⟨T, hT⟩ : ∃ T, T = w15.heap.size := ⟨_, rfl⟩
    generalize (w15.alloc (.cells #[.bool gb, .slice go2 G2 gc2] 32)) = w6 at *
    rw [← hT] at hb5 ⊢
    have hTw : w15.heap.size ≤ T := by omega
    clear hT e0 e1 e2 d0 d1 d2
    have hx36 := hx35.trans hxa
    refine (over_calls w6 nb gb zo go2 A zc G2 gc2 n' (g : Int) (hN1.ext hx36) (hGN.ext hxa) (by omega) (by omega) (by omega) hgn).mono ?_
    rintro e w7 ⟨nr, oo, OA, oc, u1, u2, u3, u4, rfl, hNN, hbN, hx7⟩
    have hx37 := hx36.trans hx7
    have hxn : Ext w7 ((w7.alloc (.cells #[.bool nr, .slice oo OA oc] 32)).alloc (.cells #[.bool u1, .slice u2 u3 u4] 32)) := (by repeat (first | exact Ext.refl _ | assumption | refine Ext.alloc ?_ _ | refine Ext.drewN ?_ _ | refine Ext.drew ?_))
    have hb6 : NBox ((w7.alloc (.cells #[.bool nr, .slice oo OA oc] 32)).alloc (.cells #[.bool u1, .slice u2 u3 u4] 32)) w7.heap.size (.bool nr) (.slice oo OA oc) := ⟨by simp [go_sem], by simp [go_sem], by first | (simp; done) | (simp; omega)⟩
    obtain ⟨d0, d1, d2⟩ := (hb2.ext hx37).ext hxn
    obtain ⟨f0, f1, f2⟩ := (hb5.ext hx7).ext hxn
    obtain ⟨T6, hT6⟩ : ∃ T6, T6 = w7.heap.size := ⟨_, rfl⟩
    go_wp2_with fail
    generalize ((w7.alloc (.cells #[.bool nr, .slice oo OA oc] 32)).alloc (.cells #[.bool u1, .slice u2 u3 u4] 32)) = w8 at *
    rw [← hT6] at hb6 ⊢
    have hT6w : w7.heap.size ≤ T6 := by omega
    clear hT6 d0 d1 d2 f0 f1 f2
    have hx38 := hx37.trans hxn
    have hx68 := hx7.trans hxn
    refine (over_calls w8 false gb yo go2 B yc G2 gc2 (d.natAbs : Int) (g : Int) (hN2.ext hx38) (hGN.ext (hxa.trans hx68)) (by omega) (by omega) (by omega) hgd).mono ?_
    rintro e w9 ⟨mr, po, PA, pc, v1, v2, v3, v4, rfl, hMM, hbM, hx9⟩
    have hx39 := hx38.trans hx9
    have hxm : Ext w9 ((w9.alloc (.cells #[.bool mr, .slice po PA pc] 32)).alloc (.cells #[.bool v1, .slice v2 v3 v4] 32)) := (by repeat (first | exact Ext.refl _ | assumption | refine Ext.alloc ?_ _ | refine Ext.drewN ?_ _ | refine Ext.drew ?_))
    have hb8 : NBox ((w9.alloc (.cells #[.bool mr, .slice po PA pc] 32)).alloc (.cells #[.bool v1, .slice v2 v3 v4] 32)) w9.heap.size (.bool mr) (.slice po PA pc) := ⟨by simp [go_sem], by simp [go_sem], by first | (simp; done) | (simp; omega)⟩
    have hx3m := hx39.trans hxm
    obtain ⟨d0, d1, d2⟩ := (hb6.ext hx9).ext hxm
    obtain ⟨f0, f1, f2⟩ := id hb8
    have hsp := hs1.ext hx3m
    obtain ⟨c0, hc0⟩ := Option.isSome_iff_exists.1 hsp.some0
    obtain ⟨c1, hc1⟩ := Option.isSome_iff_exists.1 hsp.some1
    obtain ⟨c2, hc2⟩ := Option.isSome_iff_exists.1 hsp.some2
    obtain ⟨c3, hc3⟩ := Option.isSome_iff_exists.1 hsp.some3
    have hf0 := hsp.free0
    have hf1 := hsp.free1
    have hf2 := hsp.free2
    have hf3 := hsp.free3
    go_wp2_with fail
    obtain ⟨r0, r1, r2, r3⟩ := hsp.put (.bool nr) (.slice oo OA oc) (.bool mr) (.slice po PA pc)
    refine bodyPost_ret (v := .agg #[.bool nr, .slice oo OA oc, .bool mr, .slice po PA pc]) (by simp [results, Tryd.results30, go_sem, r0, r1, r2, r3]) rfl ?_
    have z1 := hs1.lt
    have z2 := hx36.size
    have z3 := hx38.size
    have z4 := hx1.size
    have hxall := hx1.trans hx3m
    refine ⟨nr, oo, OA, oc, mr, po, PA, pc, rfl, ⟨?_, ?_⟩, fun a ha => ?_, fun a ha => ?_, hxall.onto (grown_put4 _ _ _ _ _ _) (fun q hq => by simp only [Option.some.injEq] at hq; omega)⟩
    · rw [HNUM.out]
      exact (((hNN.ext hxn).ext hx9).ext hxm).grown (grown_put4 _ _ _ _ _ _) (fun a ha e => by simp only [Option.some.injEq] at e; have := hbN a ha; omega)
    · rw [HDEN.out]
      exact (hMM.ext hxm).grown (grown_put4 _ _ _ _ _ _) (fun a ha e => by simp only [Option.some.injEq] at e; have := hbM a ha; omega)
    · have := hbN a ha; omega
    · have := hbM a ha; omega
  | true =>
    have hd0 : d < 0 := by simpa using hm.symm
    have e : n' = -n := by rw [hn', Int.sign_eq_neg_one_of_neg hd0, Int.neg_mul, Int.one_mul]
    have HE := Lib.hid e
    clear e hn' hm
    go_enter Tryd.func30, Tryd.ntmps30
    go_wp2_with fail
    have hx1 : Ext w (((w.alloc (.cells #[.bool nb, .slice zo A zc] 32)).alloc (.cells #[.bool true, .slice yo B yc] 32)).alloc (.cells #[.bool false, .slice none 0 0, .bool false, .slice none 0 0] 34)) := (by repeat (first | exact Ext.refl _ | assumption | refine Ext.alloc ?_ _ | refine Ext.drewN ?_ _ | refine Ext.drew ?_))
    have hb1 : NBox (((w.alloc (.cells #[.bool nb, .slice zo A zc] 32)).alloc (.cells #[.bool true, .slice yo B yc] 32)).alloc (.cells #[.bool false, .slice none 0 0, .bool false, .slice none 0 0] 34)) w.heap.size (.bool nb) (.slice zo A zc) := ⟨by simp [go_sem], by simp [go_sem], by first | (simp; done) | (simp; omega)⟩
    have hb2 : NBox (((w.alloc (.cells #[.bool nb, .slice zo A zc] 32)).alloc (.cells #[.bool true, .slice yo B yc] 32)).alloc (.cells #[.bool false, .slice none 0 0, .bool false, .slice none 0 0] 34)) (w.heap.size + 1) (.bool true) (.slice yo B yc) := ⟨by simp [go_sem], by simp [go_sem], by first | (simp; done) | (simp; omega)⟩
    have hs1 : Spot4 (((w.alloc (.cells #[.bool nb, .slice zo A zc] 32)).alloc (.cells #[.bool true, .slice yo B yc] 32)).alloc (.cells #[.bool false, .slice none 0 0, .bool false, .slice none 0 0] 34)) (w.heap.size + 1 + 1) := ⟨by simp, by simp [go_sem], by simp [go_sem], by simp [go_sem], by simp [go_sem], by simp [go_sem], by simp [go_sem], by simp [go_sem], by simp [go_sem]⟩
    have hp1 : Spot (((w.alloc (.cells #[.bool nb, .slice zo A zc] 32)).alloc (.cells #[.bool true, .slice yo B yc] 32)).alloc (.cells #[.bool false, .slice none 0 0, .bool false, .slice none 0 0] 34)) w.heap.size := ⟨by first | (simp; done) | (simp; omega), by simp [go_sem], by simp [go_sem], by simp [go_sem], by simp [go_sem]⟩
    have hp2 : Spot (((w.alloc (.cells #[.bool nb, .slice zo A zc] 32)).alloc (.cells #[.bool true, .slice yo B yc] 32)).alloc (.cells #[.bool false, .slice none 0 0, .bool false, .slice none 0 0] 34)) (w.heap.size + 1) := ⟨by first | (simp; done) | (simp; omega), by simp [go_sem], by simp [go_sem], by simp [go_sem], by simp [go_sem]⟩
    generalize (((w.alloc (.cells #[.bool nb, .slice zo A zc] 32)).alloc (.cells #[.bool true, .slice yo B yc] 32)).alloc (.cells #[.bool false, .slice none 0 0, .bool false, .slice none 0 0] 34)) = w1 at *
    obtain ⟨R, hR⟩ : ∃ R, R = w.heap.size := ⟨_, rfl⟩
    rw [← hR] at hb1 hb2 hs1 hp1 hp2 ⊢
    have hRw : w.heap.size ≤ R := by omega
    clear hR
    have hmA := hZ.digs.many
    have hmB := hY.digs.many
    refine (bneg_calls w1 nb zo A zc n (hZ.ext hx1) (by omega)).mono ?_
    rintro e w2 ⟨nb, zo, A, zc, rfl, hK, hbK, hx2⟩
    have hA : A ≤ 2000 := by rw [← hK.digs.many, Int.natAbs_neg, hmA]; exact hA
    obtain ⟨s0, hs0⟩ := Option.isSome_iff_exists.1 (hp1.ext hx2).some0
    obtain ⟨s1, hs1c⟩ := Option.isSome_iff_exists.1 (hp1.ext hx2).some1
    have hsf0 := (hp1.ext hx2).free0
    have hsf1 := (hp1.ext hx2).free1
    obtain ⟨d0, d1, d2⟩ := hb2.ext hx2
    go_wp2_with fail
    have hb1' : NBox ((w2.setCell ⟨R, 0, none⟩ (.bool nb)).setCell ⟨R, 1, none⟩ (.slice zo A zc)) R (.bool nb) (.slice zo A zc) := ⟨((hp1.ext hx2).put _ _).1, ((hp1.ext hx2).put _ _).2, by simpa [World.setCell] using (hp1.ext hx2).lt⟩
    have hb2' : NBox ((w2.setCell ⟨R, 0, none⟩ (.bool nb)).setCell ⟨R, 1, none⟩ (.slice zo A zc)) (R + 1) (.bool true) (.slice yo B yc) := ⟨by rw [cell_far _ _ _ _ _ _ (by omega)]; exact d0, by rw [cell_far _ _ _ _ _ _ (by omega)]; exact d1, by simpa [World.setCell] using d2⟩
    have hgr := grownBy_trans (grownBy_setCell w2 ⟨R, 0, none⟩ (.bool nb)) (grownBy_setCell (w2.setCell ⟨R, 0, none⟩ (.bool nb)) ⟨R, 1, none⟩ (.slice zo A zc))
    have hK' := hK.grown hgr (fun a ha e => by simp only [Option.some.injEq] at e; have := hbK a ha; have := hs1.lt; omega)
    have hp2' := (hp2.ext hx2).far hgr (by simp)
    have hs1' := (hs1.ext hx2).grown hgr (by simp; omega)
    have hx03 : Ext w ((w2.setCell ⟨R, 0, none⟩ (.bool nb)).setCell ⟨R, 1, none⟩ (.slice zo A zc)) := (hx1.trans hx2).onto hgr (fun q hq => by simp only [Option.some.injEq] at hq; omega)
    have hsz1 := hx2.size
    have hsz2 := hgr.size
    generalize ((w2.setCell ⟨R, 0, none⟩ (.bool nb)).setCell ⟨R, 1, none⟩ (.slice zo A zc)) = w3 at *
    clear hb1 hb2 hp1 hp2 d0 d1 d2
    refine (bneg_calls w3 true yo B yc d (hY.ext hx03) (by omega)).mono ?_
    rintro e w4 ⟨lb, yo, B, yc, rfl, hL, hbL, hx4⟩
    have hB : B ≤ 2000 := by rw [← hL.digs.many, Int.natAbs_neg, hmB]; exact hB
    have hlb : lb = false := by rw [hL.neg]; simp; omega
    subst hlb
    obtain ⟨s0, hs0⟩ := Option.isSome_iff_exists.1 (hp2'.ext hx4).some0
    obtain ⟨s1, hs1c⟩ := Option.isSome_iff_exists.1 (hp2'.ext hx4).some1
    have hsf0 := (hp2'.ext hx4).free0
    have hsf1 := (hp2'.ext hx4).free1
    obtain ⟨d0, d1, d2⟩ := hb1'.ext hx4
    go_wp2_with fail
    have hb2 : NBox ((w4.setCell ⟨R + 1, 0, none⟩ (.bool false)).setCell ⟨R + 1, 1, none⟩ (.slice yo B yc)) (R + 1) (.bool false) (.slice yo B yc) := ⟨((hp2'.ext hx4).put _ _).1, ((hp2'.ext hx4).put _ _).2, by simpa [World.setCell] using (hp2'.ext hx4).lt⟩
    have hb1 : NBox ((w4.setCell ⟨R + 1, 0, none⟩ (.bool false)).setCell ⟨R + 1, 1, none⟩ (.slice yo B yc)) R (.bool nb) (.slice zo A zc) := ⟨by rw [cell_far _ _ _ _ _ _ (by omega)]; exact d0, by rw [cell_far _ _ _ _ _ _ (by omega)]; exact d1, by simpa [World.setCell] using d2⟩
    have hgr2 := grownBy_trans (grownBy_setCell w4 ⟨R + 1, 0, none⟩ (.bool false)) (grownBy_setCell (w4.setCell ⟨R + 1, 0, none⟩ (.bool false)) ⟨R + 1, 1, none⟩ (.slice yo B yc))
    have hlts := hs1.lt
    have hN1 := (hK'.ext hx4).grown hgr2 (fun a ha e => by simp only [Option.some.injEq] at e; have := hbK a ha; omega)
    have hN2 := hL.grown hgr2 (fun a ha e => by simp only [Option.some.injEq] at e; have := hbL a ha; omega)
    rw [← HE.out] at hN1
    have en : -d = (d.natAbs : Int) := by omega
    rw [en] at hN2
    have hs1 := (hs1'.ext hx4).grown hgr2 (by simp)
    have hx05 : Ext w ((w4.setCell ⟨R + 1, 0, none⟩ (.bool false)).setCell ⟨R + 1, 1, none⟩ (.slice yo B yc)) := (hx03.trans hx4).onto hgr2 (fun q hq => by simp only [Option.some.injEq] at hq; omega)
    generalize ((w4.setCell ⟨R + 1, 0, none⟩ (.bool false)).setCell ⟨R + 1, 1, none⟩ (.slice yo B yc)) = w5 at *
    clear hb1' hb2' hp2' hs1' hK' hK hL d0 d1 d2 hbK hbL hgr hgr2 en
    -- in w3: n' in the first box, the positive divisor in the second one
    obtain ⟨e0, e1, e2⟩ := id hb1
    obtain ⟨d0, d1, d2⟩ := id hb2
    go_wp2_with fail
    refine (gcdD_calls w5 zo yo zc yc A B n'.natAbs d.natAbs hN1.digs (by have := hN2.digs; rw [Int.natAbs_natCast] at this; exact this) (by omega) (by omega)).mono ?_
    rintro e w14 ⟨go, G, gc, rfl, hG, hx4⟩
    have hGl : G ≤ 2000 := by
      rw [← hG.many]
      refine Nat.le_trans (many_le (Nat.lt_of_le_of_lt (Nat.le_of_dvd (by omega) (Nat.gcd_dvd_right _ _)) (lt_many d.natAbs))) ?_
      have := hN2.digs.many
      rw [Int.natAbs_natCast] at this
      omega
    go_wp2_with fail
    refine (whole_digs w14 false go gc (Nat.gcd n'.natAbs d.natAbs) G ((Nat.gcd n'.natAbs d.natAbs : Nat) : Int) hG (by omega) (by simp)).mono ?_
    rintro e w15 ⟨gb, go2, G2, gc2, rfl, hGN, hbg, hx5⟩
    have hx35 := hx4.trans hx5
    clear e0 e1 e2 d0 d1 d2
    obtain ⟨e0, e1, e2⟩ := hb1.ext hx35
    obtain ⟨d0, d1, d2⟩ := hb2.ext hx35
    go_wp2_with fail
    have hx06 := hx05.trans hx35
    obtain ⟨g, hg⟩ : ∃ g, g = Nat.gcd n'.natAbs d.natAbs := ⟨_, rfl⟩
    have hg0 : 0 < g := by rw [hg]; exact Nat.gcd_pos_of_pos_right _ (by omega)
    have hgn : (g : Int) ∣ n' := Int.ofNat_dvd_left.2 (by rw [hg]; exact Nat.gcd_dvd_left _ _)
    have hgd : (g : Int) ∣ (d.natAbs : Int) := Int.natCast_dvd_natCast.2 (by rw [hg]; exact Nat.gcd_dvd_right _ _)
    rw [← hg] at HNUM HDEN hGN
    clear hg hG
    have hG2 : G2 ≤ 2000 := by
      rw [← hGN.digs.many, Int.natAbs_natCast]
      refine Nat.le_trans (many_le (Nat.lt_of_le_of_lt (Nat.le_of_dvd (by omega) (Int.natCast_dvd_natCast.1 hgd)) (lt_many d.natAbs))) ?_
      have := hN2.digs.many
      rw [Int.natAbs_natCast] at this
      omega
    have hxa : Ext w15 (w15.alloc (.cells #[.bool gb, .slice go2 G2 gc2] 32)) := (by repeat (first | exact Ext.refl _ | assumption | refine Ext.alloc ?_ _ | refine Ext.drewN ?_ _ | refine Ext.drew ?_))
    have hb5 := NBox.new w15 32 (.bool gb) (.slice go2 G2 gc2)
    obtain ⟨T, hT⟩ : ∃ T, T = w15.heap.size := ⟨_, rfl⟩
    generalize (w15.alloc (.cells #[.bool gb, .slice go2 G2 gc2] 32)) = w6 at *
    rw [← hT] at hb5 ⊢
    have hTw : w15.heap.size ≤ T := by omega
    clear hT e0 e1 e2 d0 d1 d2
    have hx36 := hx35.trans hxa
    refine (over_calls w6 nb gb zo go2 A zc G2 gc2 n' (g : Int) (hN1.ext hx36) (hGN.ext hxa) (by omega) (by omega) (by omega) hgn).mono ?_
    rintro e w7 ⟨nr, oo, OA, oc, u1, u2, u3, u4, rfl, hNN, hbN, hx7⟩
    have hx37 := hx36.trans hx7
    have hxn : Ext w7 ((w7.alloc (.cells #[.bool nr, .slice oo OA oc] 32)).alloc (.cells #[.bool u1, .slice u2 u3 u4] 32)) := (by repeat (first | exact Ext.refl _ | assumption | refine Ext.alloc ?_ _ | refine Ext.drewN ?_ _ | refine Ext.drew ?_))
    have hb6 : NBox ((w7.alloc (.cells #[.bool nr, .slice oo OA oc] 32)).alloc (.cells #[.bool u1, .slice u2 u3 u4] 32)) w7.heap.size (.bool nr) (.slice oo OA oc) := ⟨by simp [go_sem], by simp [go_sem], by first | (simp; done) | (simp; omega)⟩
    obtain ⟨d0, d1, d2⟩ := (hb2.ext hx37).ext hxn
    obtain ⟨f0, f1, f2⟩ := (hb5.ext hx7).ext hxn
    obtain ⟨T6, hT6⟩ : ∃ T6, T6 = w7.heap.size := ⟨_, rfl⟩
    go_wp2_with fail
    generalize ((w7.alloc (.cells #[.bool nr, .slice oo OA oc] 32)).alloc (.cells #[.bool u1, .slice u2 u3 u4] 32)) = w8 at *
    rw [← hT6] at hb6 ⊢
    have hT6w : w7.heap.size ≤ T6 := by omega
    clear hT6 d0 d1 d2 f0 f1 f2
    have hx38 := hx37.trans hxn
    have hx68 := hx7.trans hxn
    refine (over_calls w8 false gb yo go2 B yc G2 gc2 (d.natAbs : Int) (g : Int) (hN2.ext hx38) (hGN.ext (hxa.trans hx68)) (by omega) (by omega) (by omega) hgd).mono ?_
    rintro e w9 ⟨mr, po, PA, pc, v1, v2, v3, v4, rfl, hMM, hbM, hx9⟩
    have hx39 := hx38.trans hx9
    have hxm : Ext w9 ((w9.alloc (.cells #[.bool mr, .slice po PA pc] 32)).alloc (.cells #[.bool v1, .slice v2 v3 v4] 32)) := (by repeat (first | exact Ext.refl _ | assumption | refine Ext.alloc ?_ _ | refine Ext.drewN ?_ _ | refine Ext.drew ?_))
    have hb8 : NBox ((w9.alloc (.cells #[.bool mr, .slice po PA pc] 32)).alloc (.cells #[.bool v1, .slice v2 v3 v4] 32)) w9.heap.size (.bool mr) (.slice po PA pc) := ⟨by simp [go_sem], by simp [go_sem], by first | (simp; done) | (simp; omega)⟩
    have hx3m := hx39.trans hxm
    obtain ⟨d0, d1, d2⟩ := (hb6.ext hx9).ext hxm
    obtain ⟨f0, f1, f2⟩ := id hb8
    have hsp := hs1.ext hx3m
    obtain ⟨c0, hc0⟩ := Option.isSome_iff_exists.1 hsp.some0
    obtain ⟨c1, hc1⟩ := Option.isSome_iff_exists.1 hsp.some1
    obtain ⟨c2, hc2⟩ := Option.isSome_iff_exists.1 hsp.some2
    obtain ⟨c3, hc3⟩ := Option.isSome_iff_exists.1 hsp.some3
    have hf0 := hsp.free0
    have hf1 := hsp.free1
    have hf2 := hsp.free2
    have hf3 := hsp.free3
    go_wp2_with fail
    obtain ⟨r0, r1, r2, r3⟩ := hsp.put (.bool nr) (.slice oo OA oc) (.bool mr) (.slice po PA pc)
    refine bodyPost_ret (v := .agg #[.bool nr, .slice oo OA oc, .bool mr, .slice po PA pc]) (by simp [results, Tryd.results30, go_sem, r0, r1, r2, r3]) rfl ?_
    have z1 := hs1.lt
    have z2 := hx36.size
    have z3 := hx38.size
    have z4 := hx05.size
    have hxall := hx05.trans hx3m
    refine ⟨nr, oo, OA, oc, mr, po, PA, pc, rfl, ⟨?_, ?_⟩, fun a ha => ?_, fun a ha => ?_, hxall.onto (grown_put4 _ _ _ _ _ _) (fun q hq => by simp only [Option.some.injEq] at hq; omega)⟩
    · rw [HNUM.out]
      exact (((hNN.ext hxn).ext hx9).ext hxm).grown (grown_put4 _ _ _ _ _ _) (fun a ha e => by simp only [Option.some.injEq] at e; have := hbN a ha; omega)
    · rw [HDEN.out]
      exact (hMM.ext hxm).grown (grown_put4 _ _ _ _ _ _) (fun a ha e => by simp only [Option.some.injEq] at e; have := hbM a ha; omega)
    · have := hbN a ha; omega
    · have := hbM a ha; omega
end Go.Proofs.YtefmioppamdceaaDoor
