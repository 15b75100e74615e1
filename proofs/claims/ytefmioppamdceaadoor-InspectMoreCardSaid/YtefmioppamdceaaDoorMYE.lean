/- The specification's whole numbers of any size: gcdD, Neg, Zero, Compare. -/
import Derived.Test.YtefmioppamdceaaDoorMYD
import Derived.Deep.RegionHeld3
namespace Go.Proofs.YtefmioppamdceaaDoor
--@optional
open Go.RowKit Go.Shelf

set_option maxRecDepth 100000 in
theorem gcdD_calls (w : World) (ao bo : Option Addr) (cap cap2 A B : Nat) (M N : Nat) (hI : DigsIn w ao M A) (hJ : DigsIn w bo N B) (hA : A ≤ 5000) (hB : B ≤ 5000) :
    Calls Tryd.prog 71 #[.slice ao A cap, .slice bo B cap2] w fun e w' => ∃ o D c, e = .returned (.slice o D c) ∧ DigsIn w' o (Nat.gcd M N) D ∧ Ext w w' := by
  go_enter Tryd.func71, Tryd.ntmps71
  go_wp2_with fail
  go_loopg [0, 1] N (fun q av bv wr => ∃ (m : Nat) (ao bo : Option Addr) (ca cb A B : Nat), av = .slice ao A ca ∧ bv = .slice bo B cb ∧ DigsIn wr ao m A ∧ DigsIn wr bo q B ∧ A ≤ 5000 ∧ B ≤ 5000 ∧ Hid (Nat.gcd m q = Nat.gcd M N) ∧ Ext w wr)
  case atStart => exact ⟨M, ao, bo, cap, cap2, A, B, rfl, rfl, hI, hJ, hA, hB, Lib.hid rfl, Ext.refl _⟩
  case round =>
    obtain ⟨m, ao, bo, ca, cb, A, B, rfl, rfl, hI, hJ, hA, hB, HG, hx⟩ := hrel
    rcases Nat.eq_zero_or_pos gk with h0 | h0
    · have hB0 : B = 0 := by rw [← hJ.many, h0, many_zero]
      have hg : m = Nat.gcd M N := by rw [← HG.out, h0, Nat.gcd_zero_right]
      have HGG := Lib.hid hg
      clear hg
      subst hB0
      go_wp2_with fail
      go_ret
      exact ⟨_, _, _, rfl, by rw [← HGG.out]; exact hI, hx⟩
    · have hB0 : 0 < B := by
        rcases Nat.eq_zero_or_pos B with h | h
        · have := hJ.many; rw [h, many_eq_zero] at this; omega
        · exact h
      have hml : many (m % gk) ≤ B := by rw [← hJ.many]; exact many_le (Nat.lt_trans (Nat.mod_lt _ h0) (lt_many gk))
      go_wp2_with fail
      refine (divD_calls wr ao bo ca cb A B m gk hI hJ hA hB h0).mono ?_
      rintro e w2 ⟨v, u, rfl, -, hu, hx2⟩
      obtain ⟨uo, uc, rfl, hUI, -⟩ := hu.intsShape
      obtain ⟨U, hU⟩ : ∃ U, (digs (m % gk)).length = U := ⟨_, rfl⟩
      have hU5 : U ≤ 5000 := by rw [← hU, digs_length]; omega
      have hud : DigsIn w2 uo (m % gk) U := ⟨hU, hUI⟩
      rw [hU]
      clear hu hUI hU
      have hlt := Nat.mod_lt m h0
      have HG2 : Hid (Nat.gcd gk (m % gk) = Nat.gcd M N) := Lib.hid (by rw [← HG.out, Nat.gcd_comm m gk, Nat.gcd_rec gk m, Nat.gcd_comm])
      go_wp2_with fail
      go_roundg (m % gk)
      case measure => omega
      case rel => exact ⟨gk, bo, uo, cb, uc, B, U, rfl, rfl, hJ.ext hx2, hud, hB, hU5, HG2, hx.trans hx2⟩
/-- A whole number of the specification's, in memory. -/
structure Num (w : World) (z : Int) (nb : Bool) (zo : Option Addr) (A : Nat) : Prop where
  neg : nb = decide (z < 0)
  digs : DigsIn w zo z.natAbs A
theorem Num.ext {w w' : World} {z : Int} {nb : Bool} {zo : Option Addr} {A : Nat} (h : Num w z nb zo A) (hx : Ext w w') : Num w' z nb zo A := ⟨h.neg, h.digs.ext hx⟩
def BgR (w : World) (z : Int) (e : Ending) (w' : World) : Prop := ∃ nb zo A zc, e = .returned (.agg #[.bool nb, .slice zo A zc]) ∧ Num w' z nb zo A ∧ (∀ a, zo = some a → w.heap.size ≤ a.block) ∧ Ext w w'
theorem Bg.res {w w' : World} {z : Int} {e : Ending} (h : Bg w z e w') : BgR w z e w' := by
  obtain ⟨v, rfl, ho, hx⟩ := h
  obtain ⟨o, c, rfl, hI, hb⟩ := ho.intsShape
  exact ⟨_, o, _, c, rfl, ⟨rfl, rfl, hI⟩, fun a ha => (hb a ha).1, hx⟩
/-- A box with a whole number in it. -/
structure NBox (w : World) (B : Nat) (u v : Value) : Prop where
  c0 : w.cell? ⟨B, 0, none⟩ = some u
  c1 : w.cell? ⟨B, 1, none⟩ = some v
  lt : B < w.heap.size
theorem NBox.ext {w w' : World} {B : Nat} {u v : Value} (h : NBox w B u v) (hx : Ext w w') : NBox w' B u v :=
  ⟨(hx.cell (p := ⟨B, 0, none⟩) h.lt).trans h.c0, (hx.cell (p := ⟨B, 1, none⟩) h.lt).trans h.c1, Nat.lt_of_lt_of_le h.lt hx.size⟩
theorem NBox.new (w : World) (t : TypeId) (u v : Value) : NBox (w.alloc (.cells #[u, v] t)) w.heap.size u v := ⟨by simp [go_sem], by simp [go_sem], by simp⟩
theorem whole_num (w : World) (neg : Bool) (ao : Option Addr) (cap : Nat) (l : List Int) (A : Nat) (z : Int) (hI : IntsIn w ao l) (hD : Digits l) (hA : l.length = A) (hl : A ≤ 100000) (hz : z = if neg = true then -(worth l) else worth l) :
    Calls Tryd.prog 68 #[.bool neg, .slice ao A cap] w (BgR w z) := by
  have := whole_calls w neg ao cap l hI hD (by omega)
  rw [hA, ← hz] at this
  exact this.mono (fun _ _ h => h.res)
theorem whole_digs (w : World) (neg : Bool) (ao : Option Addr) (cap n A : Nat) (z : Int) (hI : DigsIn w ao n A) (hl : A ≤ 100000) (hz : z = if neg = true then -(n : Int) else n) :
    Calls Tryd.prog 68 #[.bool neg, .slice ao A cap] w (BgR w z) :=
  whole_num w neg ao cap (digs n) A z hI.ints (digits_digs n) hI.len hl (by rw [worth_digs]; exact hz)
theorem Num.put {w : World} {z : Int} {nb : Bool} {zo : Option Addr} {A R : Nat} {u v : Value} (h : Num w z nb zo A) (hb : ∀ a, zo = some a → a.block ≠ R) : Num ((w.setCell ⟨R, 0, none⟩ u).setCell ⟨R, 1, none⟩ v) z nb zo A :=
  ⟨h.neg, h.digs.len, (h.digs.ints.grown (grownBy_setCell w ⟨R, 0, none⟩ u) (fun a ha e => hb a ha (by simpa using e))).grown (grownBy_setCell _ ⟨R, 1, none⟩ v) (fun a ha e => hb a ha (by simpa using e))⟩
/-- A result's place, filled. -/
theorem num_done {w w3 w4 : World} {z : Int} {nb : Bool} {zo : Option Addr} {A zc R : Nat} {u v : Value} (hx : Ext w w4) (hR : w.heap.size ≤ R) (hR3 : R < w3.heap.size) (hw3 : w.heap.size ≤ w3.heap.size) (h : Num w4 z nb zo A) (hb : ∀ a, zo = some a → w3.heap.size ≤ a.block) :
    BgR w z (.returned (.agg #[.bool nb, .slice zo A zc])) ((w4.setCell ⟨R, 0, none⟩ u).setCell ⟨R, 1, none⟩ v) :=
  ⟨nb, zo, A, zc, rfl, h.put (fun a ha e => by have := hb a ha; omega), fun a ha => Nat.le_trans hw3 (hb a ha), (hx.setOwn _ _ hR).setOwn _ _ hR⟩
set_option maxRecDepth 100000 in
theorem bneg_calls (w : World) (nb : Bool) (zo : Option Addr) (A zc : Nat) (z : Int) (hZ : Num w z nb zo A) (hA : A ≤ 100000) :
    Calls Tryd.prog 70 #[.agg #[.bool nb, .slice zo A zc]] w (BgR w (-z)) := by
  go_enter Tryd.func70, Tryd.ntmps70
  go_wp2_with fail
  have hx1 : Ext w ((w.alloc (.cells #[.bool nb, .slice zo A zc] 32)).alloc (.cells #[.bool false, .slice none 0 0] 32)) := (by repeat (first | exact Ext.refl _ | assumption | refine Ext.alloc ?_ _ | refine Ext.drewN ?_ _ | refine Ext.drew ?_))
  have hb1 : NBox ((w.alloc (.cells #[.bool nb, .slice zo A zc] 32)).alloc (.cells #[.bool false, .slice none 0 0] 32)) w.heap.size (.bool nb) (.slice zo A zc) := ⟨by simp [go_sem], by simp [go_sem], by simp; omega⟩
  have hs1 : Spot ((w.alloc (.cells #[.bool nb, .slice zo A zc] 32)).alloc (.cells #[.bool false, .slice none 0 0] 32)) (w.heap.size + 1) := ⟨by simp, by simp [go_sem], by simp [go_sem], by simp [go_sem], by simp [go_sem]⟩
  generalize ((w.alloc (.cells #[.bool nb, .slice zo A zc] 32)).alloc (.cells #[.bool false, .slice none 0 0] 32)) = w1 at *
  obtain ⟨B, hB⟩ : ∃ B, B = w.heap.size := ⟨_, rfl⟩
  rw [← hB] at hb1 hs1 ⊢
  have hBw : w.heap.size ≤ B := by omega
  clear hB
  refine (whole_digs w1 (!nb) zo zc z.natAbs A (-z) (hZ.digs.ext hx1) hA (by rw [hZ.neg]; by_cases h : z < 0 <;> simp [h] <;> omega)).mono ?_
  rintro e w2 ⟨nr, oo, OA, oc, rfl, hN, hbk, hx2⟩
  have hsb := (hs1.ext hx2)
  obtain ⟨c0, hc0⟩ := Option.isSome_iff_exists.1 hsb.some0
  obtain ⟨c1, hc1⟩ := Option.isSome_iff_exists.1 hsb.some1
  have hf0 := hsb.free0
  have hf1 := hsb.free1
  go_wp2_with fail
  obtain ⟨r0, r1⟩ := hsb.put (.bool nr) (.slice oo OA oc)
  refine bodyPost_ret (v := .agg #[.bool nr, .slice oo OA oc]) (by simp [results, Tryd.results70, go_sem, r0, r1]) rfl ?_
  exact num_done (hx1.trans hx2) (by omega) hs1.lt hx1.size hN hbk
theorem cmpD_digs (w : World) (ao bo : Option Addr) (cap cap2 A B m n : Nat) (hI : DigsIn w ao m A) (hJ : DigsIn w bo n B) (hA : A ≤ 100000) (hB : B ≤ 100000) :
    Calls Tryd.prog 67 #[.slice ao A cap, .slice bo B cap2] w fun e w' => e = .returned (.int .i64 (cmpZ m n)) ∧ Ext w w' := by
  have := cmpD_calls w ao bo cap cap2 m n hI.ints hJ.ints (by rw [hI.len]; exact hA) (by rw [hJ.len]; exact hB)
  rw [hI.len, hJ.len] at this
  exact this
set_option maxRecDepth 100000 in
theorem compare_calls (w : World) (nb mb : Bool) (zo yo : Option Addr) (A zc B yc : Nat) (z y : Int) (hZ : Num w z nb zo A) (hY : Num w y mb yo B) (hA : A ≤ 100000) (hB : B ≤ 100000) :
    Calls Tryd.prog 28 #[.agg #[.bool nb, .slice zo A zc], .agg #[.bool mb, .slice yo B yc]] w fun e w' => e = .returned (.int .i64 (cmpZ z y)) ∧ Ext w w' := by
  have hn := hZ.neg
  have hm := hY.neg
  have hc := fun W (h : Ext w W) => cmpD_digs W zo yo zc yc A B z.natAbs y.natAbs (hZ.digs.ext h) (hY.digs.ext h) hA hB
  clear hZ hY
  cases nb with
  | true =>
    have hz : z < 0 := by simpa using hn.symm
    cases mb with
    | true =>
      have hy : y < 0 := by simpa using hm.symm
      have HC : Hid (-(cmpZ (z.natAbs : Int) (y.natAbs : Int)) = cmpZ z y) := Lib.hid (by unfold cmpZ; split <;> (try split) <;> (try split) <;> (try split) <;> omega)
      obtain ⟨c, hcc, hcb⟩ : ∃ c, cmpZ (z.natAbs : Int) (y.natAbs : Int) = c ∧ (-1 ≤ c ∧ c ≤ 1) := ⟨_, rfl, by unfold cmpZ; split <;> (try split) <;> omega⟩
      rw [hcc] at HC hc
      clear hn hm hcc hz hy
      go_enter Tryd.func28, Tryd.ntmps28
      go_wp2_with fail
      have hx1 : Ext w ((w.alloc (.cells #[.bool true, .slice zo A zc] 32)).alloc (.cells #[.bool true, .slice yo B yc] 32)) := (by repeat (first | exact Ext.refl _ | assumption | refine Ext.alloc ?_ _ | refine Ext.drewN ?_ _ | refine Ext.drew ?_))
      have hb1 : NBox ((w.alloc (.cells #[.bool true, .slice zo A zc] 32)).alloc (.cells #[.bool true, .slice yo B yc] 32)) w.heap.size (.bool true) (.slice zo A zc) := ⟨by simp [go_sem], by simp [go_sem], by simp; omega⟩
      have hb2 : NBox ((w.alloc (.cells #[.bool true, .slice zo A zc] 32)).alloc (.cells #[.bool true, .slice yo B yc] 32)) (w.heap.size + 1) (.bool true) (.slice yo B yc) := ⟨by simp [go_sem], by simp [go_sem], by simp⟩
      generalize ((w.alloc (.cells #[.bool true, .slice zo A zc] 32)).alloc (.cells #[.bool true, .slice yo B yc] 32)) = w1 at *
      obtain ⟨R, hR⟩ : ∃ R, R = w.heap.size := ⟨_, rfl⟩
      rw [← hR] at hb1 hb2 ⊢
      have hRw : w.heap.size ≤ R := by omega
      clear hR
      refine (hc _ hx1).mono ?_
      rintro e w2 ⟨rfl, hx2⟩
      obtain ⟨c0, c1, lt⟩ := hb1.ext hx2
      go_wp2_with fail
      go_ret
      exact ⟨ret_int HC.out, hx1.trans hx2⟩
    | false =>
      have hy : ¬ y < 0 := by simpa using hm.symm
      have HC : Hid (-1 = cmpZ z y) := Lib.hid (by unfold cmpZ; rw [if_pos (by omega)])
      clear hn hm hz hy hc
      go_enter Tryd.func28, Tryd.ntmps28
      go_wp2_with fail
      go_ret
      exact ⟨ret_int HC.out, (by repeat (first | exact Ext.refl _ | assumption | refine Ext.alloc ?_ _ | refine Ext.drewN ?_ _ | refine Ext.drew ?_))⟩
  | false =>
    have hz : ¬ z < 0 := by simpa using hn.symm
    cases mb with
    | true =>
      have hy : y < 0 := by simpa using hm.symm
      have HC : Hid (1 = cmpZ z y) := Lib.hid (by unfold cmpZ; rw [if_neg (by omega), if_pos (by omega)])
      clear hn hm hz hy hc
      go_enter Tryd.func28, Tryd.ntmps28
      go_wp2_with fail
      go_ret
      exact ⟨ret_int HC.out, (by repeat (first | exact Ext.refl _ | assumption | refine Ext.alloc ?_ _ | refine Ext.drewN ?_ _ | refine Ext.drew ?_))⟩
    | false =>
      have hy : ¬ y < 0 := by simpa using hm.symm
      have HC : Hid (cmpZ (z.natAbs : Int) (y.natAbs : Int) = cmpZ z y) := Lib.hid (by unfold cmpZ; split <;> (try split) <;> (try split) <;> (try split) <;> omega)
      obtain ⟨c, hcc, hcb⟩ : ∃ c, cmpZ (z.natAbs : Int) (y.natAbs : Int) = c ∧ (-1 ≤ c ∧ c ≤ 1) := ⟨_, rfl, by unfold cmpZ; split <;> (try split) <;> omega⟩
      rw [hcc] at HC hc
      clear hn hm hcc hz hy
      go_enter Tryd.func28, Tryd.ntmps28
      go_wp2_with fail
      have hx1 : Ext w ((w.alloc (.cells #[.bool false, .slice zo A zc] 32)).alloc (.cells #[.bool false, .slice yo B yc] 32)) := (by repeat (first | exact Ext.refl _ | assumption | refine Ext.alloc ?_ _ | refine Ext.drewN ?_ _ | refine Ext.drew ?_))
      have hb1 : NBox ((w.alloc (.cells #[.bool false, .slice zo A zc] 32)).alloc (.cells #[.bool false, .slice yo B yc] 32)) w.heap.size (.bool false) (.slice zo A zc) := ⟨by simp [go_sem], by simp [go_sem], by simp; omega⟩
      have hb2 : NBox ((w.alloc (.cells #[.bool false, .slice zo A zc] 32)).alloc (.cells #[.bool false, .slice yo B yc] 32)) (w.heap.size + 1) (.bool false) (.slice yo B yc) := ⟨by simp [go_sem], by simp [go_sem], by simp⟩
      generalize ((w.alloc (.cells #[.bool false, .slice zo A zc] 32)).alloc (.cells #[.bool false, .slice yo B yc] 32)) = w1 at *
      obtain ⟨R, hR⟩ : ∃ R, R = w.heap.size := ⟨_, rfl⟩
      rw [← hR] at hb1 hb2 ⊢
      have hRw : w.heap.size ≤ R := by omega
      clear hR
      refine (hc _ hx1).mono ?_
      rintro e w2 ⟨rfl, hx2⟩
      obtain ⟨c0, c1, lt⟩ := hb1.ext hx2
      go_wp2_with fail
      go_ret
      exact ⟨ret_int HC.out, hx1.trans hx2⟩
end Go.Proofs.YtefmioppamdceaaDoor

/- The specification's whole numbers of any size: Times, Plus, Minus. -/
namespace Go.Proofs.YtefmioppamdceaaDoor
--@optional
open Go.RowKit Go.Shelf

theorem cell_far (w : World) (R b o : Nat) (u v : Value) {o' o'' : Nat} (h : b ≠ R) : ((w.setCell ⟨R, o', none⟩ u).setCell ⟨R, o'', none⟩ v).cell? ⟨b, o, none⟩ = w.cell? ⟨b, o, none⟩ := by
  rw [World.cell?_setCell_other _ _ _ _ (fun e => h (by simp only [Addr.mk.injEq] at e; exact e.1.symm)), World.cell?_setCell_other _ _ _ _ (fun e => h (by simp only [Addr.mk.injEq] at e; exact e.1.symm))]
theorem mul_lt {w : World} {zo yo : Option Addr} {A B m n : Nat} (h : DigsIn w zo m A) (k : DigsIn w yo n B) : m * n < 10000 ^ (A + B) := by
  have h1 := lt_many m
  have h2 := lt_many n
  rw [h.many] at h1
  rw [k.many] at h2
  rw [Nat.pow_add]
  exact Nat.mul_lt_mul'' h1 h2
theorem sign_mul {z y : Int} {nb mb : Bool} (h : nb = decide (z < 0)) (k : mb = decide (y < 0)) : z * y = if (nb != mb) = true then -(worth (digs (z.natAbs * y.natAbs))) else worth (digs (z.natAbs * y.natAbs)) := by
  rw [worth_digs, h, k, Int.natCast_mul]
  by_cases h1 : z < 0
  · have e1 : (z.natAbs : Int) = -z := by omega
    by_cases h2 : y < 0
    · have e2 : (y.natAbs : Int) = -y := by omega
      simp [h1, h2, e1, e2, Int.neg_mul_neg]
    · have e2 : (y.natAbs : Int) = y := by omega
      simp [h1, h2, e1, e2, Int.neg_mul]
  · have e1 : (z.natAbs : Int) = z := by omega
    by_cases h2 : y < 0
    · have e2 : (y.natAbs : Int) = -y := by omega
      simp [h1, h2, e1, e2, Int.mul_neg]
    · have e2 : (y.natAbs : Int) = y := by omega
      simp [h1, h2, e1, e2]
set_option maxRecDepth 100000 in
set_option maxHeartbeats 2000000 in
theorem times_calls (w : World) (nb mb : Bool) (zo yo : Option Addr) (A zc B yc : Nat) (z y : Int) (hZ : Num w z nb zo A) (hY : Num w y mb yo B) (hA : A ≤ 10000) (hB : B ≤ 10000) :
    Calls Tryd.prog 29 #[.agg #[.bool nb, .slice zo A zc], .agg #[.bool mb, .slice yo B yc]] w (BgR w (z * y)) := by
  go_enter Tryd.func29, Tryd.ntmps29
  go_wp2_with fail
  have hx1 : Ext w (((w.alloc (.cells #[.bool nb, .slice zo A zc] 32)).alloc (.cells #[.bool mb, .slice yo B yc] 32)).alloc (.cells #[.bool false, .slice none 0 0] 32)) := (by repeat (first | exact Ext.refl _ | assumption | refine Ext.alloc ?_ _ | refine Ext.drewN ?_ _ | refine Ext.drew ?_))
  have hb1 : NBox (((w.alloc (.cells #[.bool nb, .slice zo A zc] 32)).alloc (.cells #[.bool mb, .slice yo B yc] 32)).alloc (.cells #[.bool false, .slice none 0 0] 32)) w.heap.size (.bool nb) (.slice zo A zc) := ⟨by simp [go_sem], by simp [go_sem], by simp; omega⟩
  have hb2 : NBox (((w.alloc (.cells #[.bool nb, .slice zo A zc] 32)).alloc (.cells #[.bool mb, .slice yo B yc] 32)).alloc (.cells #[.bool false, .slice none 0 0] 32)) (w.heap.size + 1) (.bool mb) (.slice yo B yc) := ⟨by simp [go_sem], by simp [go_sem], by simp⟩
  have hs1 : Spot (((w.alloc (.cells #[.bool nb, .slice zo A zc] 32)).alloc (.cells #[.bool mb, .slice yo B yc] 32)).alloc (.cells #[.bool false, .slice none 0 0] 32)) (w.heap.size + 1 + 1) := ⟨by simp, by simp [go_sem], by simp [go_sem], by simp [go_sem], by simp [go_sem]⟩
  generalize (((w.alloc (.cells #[.bool nb, .slice zo A zc] 32)).alloc (.cells #[.bool mb, .slice yo B yc] 32)).alloc (.cells #[.bool false, .slice none 0 0] 32)) = w1 at *
  obtain ⟨R, hR⟩ : ∃ R, R = w.heap.size := ⟨_, rfl⟩
  rw [← hR] at hb1 hb2 hs1 ⊢
  have hRw : w.heap.size ≤ R := by omega
  clear hR
  have hZ1 := hZ.ext hx1
  have hY1 := hY.ext hx1
  obtain ⟨e0, e1, e2⟩ := id hb1
  obtain ⟨d0, d1, d2⟩ := id hb2
  have hsb := hs1
  obtain ⟨c0, hc0⟩ := Option.isSome_iff_exists.1 hsb.some0
  obtain ⟨c1, hc1⟩ := Option.isSome_iff_exists.1 hsb.some1
  have hf0 := hsb.free0
  have hf1 := hsb.free1
  have hlt := hsb.lt
  go_region_held3 (fun w' => (w'.cell? ⟨R, 0, none⟩ = some (.bool nb)) ∧ (w'.cell? ⟨R, 1, none⟩ = some (.slice zo A zc)) ∧ (w'.cell? ⟨R + 1, 0, none⟩ = some (.bool mb)) ∧ (w'.cell? ⟨R + 1, 1, none⟩ = some (.slice yo B yc)))
    (first | exact ⟨q0, q1, q2, q3⟩ | exact ⟨(cell_far _ _ _ _ _ _ (by omega)).trans q0, (cell_far _ _ _ _ _ _ (by omega)).trans q1, (cell_far _ _ _ _ _ _ (by omega)).trans q2, (cell_far _ _ _ _ _ _ (by omega)).trans q3⟩ | (refine ⟨?_, ?_, ?_, ?_⟩ <;> go_keep) | exact ⟨(hxk2.cell (p := ⟨R, 0, none⟩) e2).trans e0, (hxk2.cell (p := ⟨R, 1, none⟩) e2).trans e1, (hxk2.cell (p := ⟨R + 1, 0, none⟩) d2).trans d0, (hxk2.cell (p := ⟨R + 1, 1, none⟩) d2).trans d1⟩ | exact ⟨(hxk.cell (p := ⟨R, 0, none⟩) e2).trans e0, (hxk.cell (p := ⟨R, 1, none⟩) e2).trans e1, (hxk.cell (p := ⟨R + 1, 0, none⟩) d2).trans d0, (hxk.cell (p := ⟨R + 1, 1, none⟩) d2).trans d1⟩)
    ((first
      | (go_at_call 69; refine (mulD_calls _ zo yo zc yc A B z.natAbs y.natAbs (hZ1.digs.ext (Ext.refl _).drew) (hY1.digs.ext (Ext.refl _).drew) hA hB).mono ?_; rintro e w4 ⟨v, rfl, ho4, hx4⟩; obtain ⟨po, pc, rfl, hPI, -⟩ := ho4.intsShape; have hxk : Ext w1 w4 := Ext.trans (by repeat (first | exact Ext.refl _ | assumption | refine Ext.alloc ?_ _ | refine Ext.drewN ?_ _ | refine Ext.drew ?_)) hx4)
      | (go_at_call 68; refine (whole_num _ (nb != mb) po pc (digs (z.natAbs * y.natAbs)) _ (z * y) hPI (digits_digs _) rfl (by rw [digs_length]; exact Nat.le_trans (many_le (mul_lt hZ.digs hY.digs)) (by omega)) (sign_mul hZ.neg hY.neg)).mono ?_; rintro e w5 ⟨nr, oo, OA, oc, rfl, hN, hbk, hx5⟩; have hxk2 : Ext w1 w5 := hxk.trans (Ext.trans (by repeat (first | exact Ext.refl _ | assumption | refine Ext.alloc ?_ _ | refine Ext.drewN ?_ _ | refine Ext.drew ?_)) hx5); obtain ⟨g0, hg0⟩ := Option.isSome_iff_exists.1 (hs1.ext hxk2).some0; obtain ⟨g1, hg1⟩ := Option.isSome_iff_exists.1 (hs1.ext hxk2).some1; have hg2 := (hs1.ext hxk2).free0; have hg3 := (hs1.ext hxk2).free1; have q0 := (hb1.ext hxk2).c0; have q1 := (hb1.ext hxk2).c1; have q2 := (hb2.ext hxk2).c0; have q3 := (hb2.ext hxk2).c1)))
  go_wp2_with fail
  obtain ⟨r0, r1⟩ := (hs1.ext hxk2).put (.bool nr) (.slice oo OA oc)
  refine bodyPost_ret (v := .agg #[.bool nr, .slice oo OA oc]) (by simp [results, Tryd.results29, go_sem, r0, r1]) rfl ?_
  exact num_done (hx1.trans hxk2) (by omega) (Nat.lt_of_lt_of_le hs1.lt hxk.size) (Nat.le_trans hx1.size hxk.size) hN hbk
end Go.Proofs.YtefmioppamdceaaDoor

/- The specification's Over, where nothing is left over; lowest terms; fractions. -/
namespace Go.Proofs.YtefmioppamdceaaDoor
--@optional
open Go.RowKit Go.Shelf

/-- Two whole numbers are handed back. -/
def OvR (w : World) (z : Int) (e : Ending) (w' : World) : Prop := ∃ nb zo A zc mb mo M mc, e = .returned (.tuple #[.agg #[.bool nb, .slice zo A zc], .agg #[.bool mb, .slice mo M mc]]) ∧ Num w' z nb zo A ∧ (∀ a, zo = some a → w.heap.size ≤ a.block) ∧ Ext w w'
theorem Spot.put2 {w : World} {b c : Nat} (h : Spot w b) (k : Spot w c) (hbc : b ≠ c) (u v x y : Value) :
    ((((w.setCell ⟨b, 0, none⟩ u).setCell ⟨b, 1, none⟩ v).setCell ⟨c, 0, none⟩ x).setCell ⟨c, 1, none⟩ y).cell? ⟨b, 0, none⟩ = some u ∧ ((((w.setCell ⟨b, 0, none⟩ u).setCell ⟨b, 1, none⟩ v).setCell ⟨c, 0, none⟩ x).setCell ⟨c, 1, none⟩ y).cell? ⟨b, 1, none⟩ = some v ∧
    ((((w.setCell ⟨b, 0, none⟩ u).setCell ⟨b, 1, none⟩ v).setCell ⟨c, 0, none⟩ x).setCell ⟨c, 1, none⟩ y).cell? ⟨c, 0, none⟩ = some x ∧ ((((w.setCell ⟨b, 0, none⟩ u).setCell ⟨b, 1, none⟩ v).setCell ⟨c, 0, none⟩ x).setCell ⟨c, 1, none⟩ y).cell? ⟨c, 1, none⟩ = some y := by
  have h1 := h.put u v
  have k' : Spot ((w.setCell ⟨b, 0, none⟩ u).setCell ⟨b, 1, none⟩ v) c := ⟨by simpa [World.setCell] using k.lt, by rw [cell_far _ _ _ _ _ _ hbc.symm]; exact k.some0, by rw [cell_far _ _ _ _ _ _ hbc.symm]; exact k.some1, by rw [World.frozen?_setCell, World.frozen?_setCell]; exact k.free0, by rw [World.frozen?_setCell, World.frozen?_setCell]; exact k.free1⟩
  have k1 := k'.put x y
  exact ⟨by rw [cell_far _ _ _ _ _ _ hbc]; exact h1.1, by rw [cell_far _ _ _ _ _ _ hbc]; exact h1.2, k1.1, k1.2⟩
set_option maxRecDepth 100000 in
set_option maxHeartbeats 2000000 in
theorem over_calls (w : World) (nb mb : Bool) (zo yo : Option Addr) (A zc B yc : Nat) (z y : Int) (hZ : Num w z nb zo A) (hY : Num w y mb yo B) (hA : A ≤ 5000) (hB : B ≤ 5000) (hy : 0 < y) (hd : y ∣ z) :
    Calls Tryd.prog 72 #[.agg #[.bool nb, .slice zo A zc], .agg #[.bool mb, .slice yo B yc]] w (OvR w (z / y)) := by
  have hn := hZ.neg
  have hqm : z.natAbs % y.natAbs = 0 := Nat.mod_eq_zero_of_dvd (Int.natAbs_dvd_natAbs.2 hd)
  have hdiv := fun W (h : Ext w W) => divD_calls W zo yo zc yc A B z.natAbs y.natAbs (hZ.digs.ext h) (hY.digs.ext h) hA hB (by omega)
  rw [hqm] at hdiv
  have hQ : Hid (z / y = if nb = true then -((z.natAbs / y.natAbs : Nat) : Int) else ((z.natAbs / y.natAbs : Nat) : Int)) := Lib.hid (by
    rw [hn]
    obtain ⟨c, rfl⟩ := hd
    rw [Int.mul_ediv_cancel_left _ (by omega), Int.natAbs_mul, Nat.mul_div_cancel_left _ (by omega)]
    by_cases h1 : y * c < 0
    · have hc : c < 0 := by
        rcases Int.lt_or_le c 0 with h | h
        · exact h
        · have := Int.mul_nonneg (Int.le_of_lt hy) h; omega
      simp [h1]; omega
    · have hc : 0 ≤ c := by
        rcases Int.lt_or_le c 0 with h | h
        · have := Int.mul_neg_of_pos_of_neg hy h; omega
        · exact h
      simp [h1]; omega)
  have hql : many (z.natAbs / y.natAbs) ≤ A := by
    rw [← hZ.digs.many]
    exact many_le (Nat.lt_of_le_of_lt (Nat.div_le_self _ _) (lt_many _))
  clear hn hqm hd hy
  cases nb with
  | false =>
    go_enter Tryd.func72, Tryd.ntmps72
    go_wp2_with fail
    have hx1 : Ext w ((((w.alloc (.cells #[.bool false, .slice zo A zc] 32)).alloc (.cells #[.bool mb, .slice yo B yc] 32)).alloc (.cells #[.bool false, .slice none 0 0] 32)).alloc (.cells #[.bool false, .slice none 0 0] 32)) := (by repeat (first | exact Ext.refl _ | assumption | refine Ext.alloc ?_ _ | refine Ext.drewN ?_ _ | refine Ext.drew ?_))
    have hb1 : NBox ((((w.alloc (.cells #[.bool false, .slice zo A zc] 32)).alloc (.cells #[.bool mb, .slice yo B yc] 32)).alloc (.cells #[.bool false, .slice none 0 0] 32)).alloc (.cells #[.bool false, .slice none 0 0] 32)) w.heap.size (.bool false) (.slice zo A zc) := ⟨by simp [go_sem], by simp [go_sem], by first | (simp; done) | (simp; omega)⟩
    have hb2 : NBox ((((w.alloc (.cells #[.bool false, .slice zo A zc] 32)).alloc (.cells #[.bool mb, .slice yo B yc] 32)).alloc (.cells #[.bool false, .slice none 0 0] 32)).alloc (.cells #[.bool false, .slice none 0 0] 32)) (w.heap.size + 1) (.bool mb) (.slice yo B yc) := ⟨by simp [go_sem], by simp [go_sem], by first | (simp; done) | (simp; omega)⟩
    have hs1 : Spot ((((w.alloc (.cells #[.bool false, .slice zo A zc] 32)).alloc (.cells #[.bool mb, .slice yo B yc] 32)).alloc (.cells #[.bool false, .slice none 0 0] 32)).alloc (.cells #[.bool false, .slice none 0 0] 32)) (w.heap.size + 1 + 1) := ⟨by simp, by simp [go_sem], by simp [go_sem], by simp [go_sem], by simp [go_sem]⟩
    have hs2 : Spot ((((w.alloc (.cells #[.bool false, .slice zo A zc] 32)).alloc (.cells #[.bool mb, .slice yo B yc] 32)).alloc (.cells #[.bool false, .slice none 0 0] 32)).alloc (.cells #[.bool false, .slice none 0 0] 32)) (w.heap.size + 1 + 1 + 1) := ⟨by simp, by simp [go_sem], by simp [go_sem], by simp [go_sem], by simp [go_sem]⟩
    generalize ((((w.alloc (.cells #[.bool false, .slice zo A zc] 32)).alloc (.cells #[.bool mb, .slice yo B yc] 32)).alloc (.cells #[.bool false, .slice none 0 0] 32)).alloc (.cells #[.bool false, .slice none 0 0] 32)) = w1 at *
    obtain ⟨R, hR⟩ : ∃ R, R = w.heap.size := ⟨_, rfl⟩
    rw [← hR] at hb1 hb2 hs1 hs2 ⊢
    have hRw : w.heap.size ≤ R := by omega
    clear hR
    refine (hdiv w1 hx1).mono ?_
    rintro e w2 ⟨v, u, rfl, hov, hou, hx2⟩
    obtain ⟨qo, qc, rfl, hQI, -⟩ := hov.intsShape
    obtain ⟨ro, rc, rfl, hRI, -⟩ := hou.intsShape
    obtain ⟨e0, e1, e2⟩ := hb1.ext hx2
    have hx02 := hx1.trans hx2
    have hw1 := fun W (h : Ext w2 W) => whole_digs W false qo qc (z.natAbs / y.natAbs) _ (z / y) ⟨rfl, hQI.ext h⟩ (by rw [digs_length]; omega) hQ.out
    have hw2 := fun W (h : Ext w2 W) => whole_digs W false ro rc 0 _ 0 ⟨rfl, hRI.ext h⟩ (by rw [digs_length, many_zero]; omega) (by simp)
    clear hdiv hov hou
    obtain ⟨QA, hQA⟩ : ∃ QA, (digs (z.natAbs / y.natAbs)).length = QA := ⟨_, rfl⟩
    obtain ⟨RA, hRA⟩ : ∃ RA, (digs 0).length = RA := ⟨_, rfl⟩
    rw [hQA] at hw1 ⊢
    rw [hRA] at hw2 ⊢
    clear hQA hRA
    go_wp2_with fail
    refine (hw1 _ (Ext.refl _)).mono ?_
    rintro e w3 ⟨nr, oo, OA, oc, rfl, hN, hbk, hx3⟩
    go_wp2_with fail
    refine (hw2 _ hx3).mono ?_
    rintro e w4 ⟨mr, po, PA, pc, rfl, hM, hbm, hx4⟩
    have hx34 := hx3.trans hx4
    have hx24 := hx2.trans hx34
    obtain ⟨c0, hc0⟩ := Option.isSome_iff_exists.1 (hs1.ext hx24).some0
    obtain ⟨c1, hc1⟩ := Option.isSome_iff_exists.1 (hs1.ext hx24).some1
    have hf0 := (hs1.ext hx24).free0
    have hf1 := (hs1.ext hx24).free1
    obtain ⟨c2, hc2⟩ := Option.isSome_iff_exists.1 (hs2.ext hx24).some0
    obtain ⟨c3, hc3⟩ := Option.isSome_iff_exists.1 (hs2.ext hx24).some1
    have hf2 := (hs2.ext hx24).free0
    have hf3 := (hs2.ext hx24).free1
    go_wp2_with fail
    obtain ⟨r0, r1, r2, r3⟩ := (hs1.ext hx24).put2 (hs2.ext hx24) (by omega) (.bool nr) (.slice oo OA oc) (.bool mr) (.slice po PA pc)
    refine bodyPost_ret (v := .tuple #[.agg #[.bool nr, .slice oo OA oc], .agg #[.bool mr, .slice po PA pc]]) (by simp [results, Tryd.results72, go_sem, r0, r1, r2, r3]) rfl ?_
    have hsz := hx2.size
    have hsz1 := hx1.size
    have hlt := hs2.lt
    refine ⟨nr, oo, OA, oc, _, _, _, _, rfl, ((hN.ext hx4).put (fun a ha e => ?_)).put (fun a ha e => ?_), fun a ha => ?_, ?_⟩
    · have := hbk a ha; omega
    · have := hbk a ha; omega
    · have := hbk a ha; omega
    · exact ((((hx1.trans hx24).setOwn _ _ (by simp; omega)).setOwn _ _ (by simp; omega)).setOwn _ _ (by simp; omega)).setOwn _ _ (by simp; omega)
  | true =>
    go_enter Tryd.func72, Tryd.ntmps72
    go_wp2_with fail
    have hx1 : Ext w ((((w.alloc (.cells #[.bool true, .slice zo A zc] 32)).alloc (.cells #[.bool mb, .slice yo B yc] 32)).alloc (.cells #[.bool false, .slice none 0 0] 32)).alloc (.cells #[.bool false, .slice none 0 0] 32)) := (by repeat (first | exact Ext.refl _ | assumption | refine Ext.alloc ?_ _ | refine Ext.drewN ?_ _ | refine Ext.drew ?_))
    have hb1 : NBox ((((w.alloc (.cells #[.bool true, .slice zo A zc] 32)).alloc (.cells #[.bool mb, .slice yo B yc] 32)).alloc (.cells #[.bool false, .slice none 0 0] 32)).alloc (.cells #[.bool false, .slice none 0 0] 32)) w.heap.size (.bool true) (.slice zo A zc) := ⟨by simp [go_sem], by simp [go_sem], by first | (simp; done) | (simp; omega)⟩
    have hb2 : NBox ((((w.alloc (.cells #[.bool true, .slice zo A zc] 32)).alloc (.cells #[.bool mb, .slice yo B yc] 32)).alloc (.cells #[.bool false, .slice none 0 0] 32)).alloc (.cells #[.bool false, .slice none 0 0] 32)) (w.heap.size + 1) (.bool mb) (.slice yo B yc) := ⟨by simp [go_sem], by simp [go_sem], by first | (simp; done) | (simp; omega)⟩
    have hs1 : Spot ((((w.alloc (.cells #[.bool true, .slice zo A zc] 32)).alloc (.cells #[.bool mb, .slice yo B yc] 32)).alloc (.cells #[.bool false, .slice none 0 0] 32)).alloc (.cells #[.bool false, .slice none 0 0] 32)) (w.heap.size + 1 + 1) := ⟨by simp, by simp [go_sem], by simp [go_sem], by simp [go_sem], by simp [go_sem]⟩
    have hs2 : Spot ((((w.alloc (.cells #[.bool true, .slice zo A zc] 32)).alloc (.cells #[.bool mb, .slice yo B yc] 32)).alloc (.cells #[.bool false, .slice none 0 0] 32)).alloc (.cells #[.bool false, .slice none 0 0] 32)) (w.heap.size + 1 + 1 + 1) := ⟨by simp, by simp [go_sem], by simp [go_sem], by simp [go_sem], by simp [go_sem]⟩
    generalize ((((w.alloc (.cells #[.bool true, .slice zo A zc] 32)).alloc (.cells #[.bool mb, .slice yo B yc] 32)).alloc (.cells #[.bool false, .slice none 0 0] 32)).alloc (.cells #[.bool false, .slice none 0 0] 32)) = w1 at *
    obtain ⟨R, hR⟩ : ∃ R, R = w.heap.size := ⟨_, rfl⟩
    rw [← hR] at hb1 hb2 hs1 hs2 ⊢
    have hRw : w.heap.size ≤ R := by omega
    clear hR
    refine (hdiv w1 hx1).mono ?_
    rintro e w2 ⟨v, u, rfl, hov, hou, hx2⟩
    obtain ⟨qo, qc, rfl, hQI, -⟩ := hov.intsShape
    obtain ⟨ro, rc, rfl, hRI, -⟩ := hou.intsShape
    obtain ⟨e0, e1, e2⟩ := hb1.ext hx2
    have hx02 := hx1.trans hx2
    have hw1 := fun W (h : Ext w2 W) => whole_digs W true qo qc (z.natAbs / y.natAbs) _ (z / y) ⟨rfl, hQI.ext h⟩ (by rw [digs_length]; omega) hQ.out
    clear hdiv hov hou
    obtain ⟨QA, hQA⟩ : ∃ QA, (digs (z.natAbs / y.natAbs)).length = QA := ⟨_, rfl⟩
    rw [hQA] at hw1 ⊢
    have hz0 : (digs 0).length = 0 := by rw [digs_length, many_zero]
    rw [hz0]
    clear hQA hz0
    go_wp2_with fail
    refine (hw1 _ (Ext.refl _)).mono ?_
    rintro e w4 ⟨nr, oo, OA, oc, rfl, hN, hbk, hx4⟩
    have hx24 := hx2.trans hx4
    obtain ⟨c0, hc0⟩ := Option.isSome_iff_exists.1 (hs1.ext hx24).some0
    obtain ⟨c1, hc1⟩ := Option.isSome_iff_exists.1 (hs1.ext hx24).some1
    have hf0 := (hs1.ext hx24).free0
    have hf1 := (hs1.ext hx24).free1
    obtain ⟨c2, hc2⟩ := Option.isSome_iff_exists.1 (hs2.ext hx24).some0
    obtain ⟨c3, hc3⟩ := Option.isSome_iff_exists.1 (hs2.ext hx24).some1
    have hf2 := (hs2.ext hx24).free0
    have hf3 := (hs2.ext hx24).free1
    go_wp2_with fail
    obtain ⟨r0, r1, r2, r3⟩ := (hs1.ext hx24).put2 (hs2.ext hx24) (by omega) (.bool nr) (.slice oo OA oc) (.bool false) (.slice none 0 0)
    refine bodyPost_ret (v := .tuple #[.agg #[.bool nr, .slice oo OA oc], .agg #[.bool false, .slice none 0 0]]) (by simp [results, Tryd.results72, go_sem, r0, r1, r2, r3]) rfl ?_
    have hsz := hx2.size
    have hsz1 := hx1.size
    have hlt := hs2.lt
    refine ⟨nr, oo, OA, oc, _, _, _, _, rfl, (hN.put (fun a ha e => ?_)).put (fun a ha e => ?_), fun a ha => ?_, ?_⟩
    · have := hbk a ha; omega
    · have := hbk a ha; omega
    · have := hbk a ha; omega
    · exact ((((hx1.trans hx24).setOwn _ _ (by simp; omega)).setOwn _ _ (by simp; omega)).setOwn _ _ (by simp; omega)).setOwn _ _ (by simp; omega)
end Go.Proofs.YtefmioppamdceaaDoor
