/- The specification's whole numbers of any size: gcdD, Neg, Zero, Compare. -/
import Derived.Test.YtcngecibljgndaaMBD
namespace Go.Proofs.Ytcngecibljgndaa
open Go.RowKit Go.Shelf

set_option maxRecDepth 100000 in
theorem gcdD_calls (w : World) (ao bo : Option Addr) (cap cap2 A B : Nat) (M N : Nat) (hI : DigsIn w ao M A) (hJ : DigsIn w bo N B) (hA : A ≤ 5000) (hB : B ≤ 5000) :
    Calls Try.prog 113 #[.slice ao A cap, .slice bo B cap2] w fun e w' => ∃ o D c, e = .returned (.slice o D c) ∧ DigsIn w' o (Nat.gcd M N) D ∧ Ext w w' := by
  go_enter Try.func113, Try.ntmps113
  go_wp2_with fail
  go_loopg [0, 1] N (fun q av bv wr => ∃ (m : Nat) (ao bo : Option Addr) (ca cb A B : Nat), av = .slice ao A ca ∧ bv = .slice bo B cb ∧ DigsIn wr ao m A ∧ DigsIn wr bo q B ∧ A ≤ 5000 ∧ B ≤ 5000 ∧ Hid (Nat.gcd m q = Nat.gcd M N) ∧ Ext w wr)
  case atStart => exact ⟨M, ao, bo, cap, cap2, A, B, rfl, rfl, hI, hJ, hA, hB, Lib.hid rfl, Ext.refl _⟩
  case round =>
    obtain ⟨m, ao, bo, ca, cb, A, B, rfl, rfl, hI, hJ, hA, hB, HG, hx⟩ := hrel
    rcases Nat.eq_zero_or_pos gk with h0 | h0
    · have hB0 : B = 0 := by rw [← hJ.many, h0, many_zero]
      have hg : m = Nat.gcd M N := by rw [← HG.out, h0, Nat.gcd_zero_right]
      have HGG := Lib.hid hg
      clear hg
      subst hB0
      go_wp2_with fail
      go_ret
      exact ⟨_, _, _, rfl, by rw [← HGG.out]; exact hI, hx⟩
    · have hB0 : 0 < B := by
        rcases Nat.eq_zero_or_pos B with h | h
        · have := hJ.many; rw [h, many_eq_zero] at this; omega
        · exact h
      have hml : many (m % gk) ≤ B := by rw [← hJ.many]; exact many_le (Nat.lt_trans (Nat.mod_lt _ h0) (lt_many gk))
      go_wp2_with fail
      refine (divD_calls wr ao bo ca cb A B m gk hI hJ hA hB h0).mono ?_
      rintro e w2 ⟨v, u, rfl, -, hu, hx2⟩
      obtain ⟨uo, uc, rfl, hUI, -⟩ := hu.intsShape
      obtain ⟨U, hU⟩ : ∃ U, (digs (m % gk)).length = U := ⟨_, rfl⟩
      have hU5 : U ≤ 5000 := by rw [← hU, digs_length]; omega
      have hud : DigsIn w2 uo (m % gk) U := ⟨hU, hUI⟩
      rw [hU]
      clear hu hUI hU
      have hlt := Nat.mod_lt m h0
      have HG2 : Hid (Nat.gcd gk (m % gk) = Nat.gcd M N) := Lib.hid (by rw [← HG.out, Nat.gcd_comm m gk, Nat.gcd_rec gk m, Nat.gcd_comm])
      go_wp2_with fail
      go_roundg (m % gk)
      case measure => omega
      case rel => exact ⟨gk, bo, uo, cb, uc, B, U, rfl, rfl, hJ.ext hx2, hud, hB, hU5, HG2, hx.trans hx2⟩
/-- A whole number of the specification's, in memory. -/
structure Num (w : World) (z : Int) (nb : Bool) (zo : Option Addr) (A : Nat) : Prop where
  neg : nb = decide (z < 0)
  digs : DigsIn w zo z.natAbs A
theorem Num.ext {w w' : World} {z : Int} {nb : Bool} {zo : Option Addr} {A : Nat} (h : Num w z nb zo A) (hx : Ext w w') : Num w' z nb zo A := ⟨h.neg, h.digs.ext hx⟩
def BgR (w : World) (z : Int) (e : Ending) (w' : World) : Prop := ∃ nb zo A zc, e = .returned (.agg #[.bool nb, .slice zo A zc]) ∧ Num w' z nb zo A ∧ (∀ a, zo = some a → w.heap.size ≤ a.block) ∧ Ext w w'
theorem Bg.res {w w' : World} {z : Int} {e : Ending} (h : Bg w z e w') : BgR w z e w' := by
  obtain ⟨v, rfl, ho, hx⟩ := h
  obtain ⟨o, c, rfl, hI, hb⟩ := ho.intsShape
  exact ⟨_, o, _, c, rfl, ⟨rfl, rfl, hI⟩, fun a ha => (hb a ha).1, hx⟩
/-- A box with a whole number in it. -/
structure NBox (w : World) (B : Nat) (u v : Value) : Prop where
  c0 : w.cell? ⟨B, 0, none⟩ = some u
  c1 : w.cell? ⟨B, 1, none⟩ = some v
  lt : B < w.heap.size
theorem NBox.ext {w w' : World} {B : Nat} {u v : Value} (h : NBox w B u v) (hx : Ext w w') : NBox w' B u v :=
  ⟨(hx.cell (p := ⟨B, 0, none⟩) h.lt).trans h.c0, (hx.cell (p := ⟨B, 1, none⟩) h.lt).trans h.c1, Nat.lt_of_lt_of_le h.lt hx.size⟩
theorem NBox.new (w : World) (t : TypeId) (u v : Value) : NBox (w.alloc (.cells #[u, v] t)) w.heap.size u v := ⟨by simp [go_sem], by simp [go_sem], by simp⟩
theorem whole_num (w : World) (neg : Bool) (ao : Option Addr) (cap : Nat) (l : List Int) (A : Nat) (z : Int) (hI : IntsIn w ao l) (hD : Digits l) (hA : l.length = A) (hl : A ≤ 100000) (hz : z = if neg = true then -(worth l) else worth l) :
    Calls Try.prog 110 #[.bool neg, .slice ao A cap] w (BgR w z) := by
  have := whole_calls w neg ao cap l hI hD (by omega)
  rw [hA, ← hz] at this
  exact this.mono (fun _ _ h => h.res)
theorem whole_digs (w : World) (neg : Bool) (ao : Option Addr) (cap n A : Nat) (z : Int) (hI : DigsIn w ao n A) (hl : A ≤ 100000) (hz : z = if neg = true then -(n : Int) else n) :
    Calls Try.prog 110 #[.bool neg, .slice ao A cap] w (BgR w z) :=
  whole_num w neg ao cap (digs n) A z hI.ints (digits_digs n) hI.len hl (by rw [worth_digs]; exact hz)
theorem Num.put {w : World} {z : Int} {nb : Bool} {zo : Option Addr} {A R : Nat} {u v : Value} (h : Num w z nb zo A) (hb : ∀ a, zo = some a → a.block ≠ R) : Num ((w.setCell ⟨R, 0, none⟩ u).setCell ⟨R, 1, none⟩ v) z nb zo A :=
  ⟨h.neg, h.digs.len, (h.digs.ints.grown (grownBy_setCell w ⟨R, 0, none⟩ u) (fun a ha e => hb a ha (by simpa using e))).grown (grownBy_setCell _ ⟨R, 1, none⟩ v) (fun a ha e => hb a ha (by simpa using e))⟩
/-- A result's place, filled. -/
theorem num_done {w w3 w4 : World} {z : Int} {nb : Bool} {zo : Option Addr} {A zc R : Nat} {u v : Value} (hx : Ext w w4) (hR : w.heap.size ≤ R) (hR3 : R < w3.heap.size) (hw3 : w.heap.size ≤ w3.heap.size) (h : Num w4 z nb zo A) (hb : ∀ a, zo = some a → w3.heap.size ≤ a.block) :
    BgR w z (.returned (.agg #[.bool nb, .slice zo A zc])) ((w4.setCell ⟨R, 0, none⟩ u).setCell ⟨R, 1, none⟩ v) :=
  ⟨nb, zo, A, zc, rfl, h.put (fun a ha e => by have := hb a ha; omega), fun a ha => Nat.le_trans hw3 (hb a ha), (hx.setOwn _ _ hR).setOwn _ _ hR⟩
set_option maxRecDepth 100000 in
theorem bneg_calls (w : World) (nb : Bool) (zo : Option Addr) (A zc : Nat) (z : Int) (hZ : Num w z nb zo A) (hA : A ≤ 100000) :
    Calls Try.prog 112 #[.agg #[.bool nb, .slice zo A zc]] w (BgR w (-z)) := by
  go_enter Try.func112, Try.ntmps112
  go_wp2_with fail
  have hx1 : Ext w ((w.alloc (.cells #[.bool nb, .slice zo A zc] 39)).alloc (.cells #[.bool false, .slice none 0 0] 39)) := (by repeat (first | exact Ext.refl _ | assumption | refine Ext.alloc ?_ _ | refine Ext.drewN ?_ _ | refine Ext.drew ?_))
  have hb1 : NBox ((w.alloc (.cells #[.bool nb, .slice zo A zc] 39)).alloc (.cells #[.bool false, .slice none 0 0] 39)) w.heap.size (.bool nb) (.slice zo A zc) := ⟨by simp [go_sem], by simp [go_sem], by simp; omega⟩
  have hs1 : Spot ((w.alloc (.cells #[.bool nb, .slice zo A zc] 39)).alloc (.cells #[.bool false, .slice none 0 0] 39)) (w.heap.size + 1) := ⟨by simp, by simp [go_sem], by simp [go_sem], by simp [go_sem], by simp [go_sem]⟩
  generalize ((w.alloc (.cells #[.bool nb, .slice zo A zc] 39)).alloc (.cells #[.bool false, .slice none 0 0] 39)) = w1 at *
  obtain ⟨B, hB⟩ : ∃ B, B = w.heap.size := ⟨_, rfl⟩
  rw [← hB] at hb1 hs1 ⊢
  have hBw : w.heap.size ≤ B := by omega
  clear hB
  refine (whole_digs w1 (!nb) zo zc z.natAbs A (-z) (hZ.digs.ext hx1) hA (by rw [hZ.neg]; by_cases h : z < 0 <;> simp [h] <;> omega)).mono ?_
  rintro e w2 ⟨nr, oo, OA, oc, rfl, hN, hbk, hx2⟩
  have hsb := (hs1.ext hx2)
  obtain ⟨c0, hc0⟩ := Option.isSome_iff_exists.1 hsb.some0
  obtain ⟨c1, hc1⟩ := Option.isSome_iff_exists.1 hsb.some1
  have hf0 := hsb.free0
  have hf1 := hsb.free1
  go_wp2_with fail
  obtain ⟨r0, r1⟩ := hsb.put (.bool nr) (.slice oo OA oc)
  refine bodyPost_ret (v := .agg #[.bool nr, .slice oo OA oc]) (by simp [results, Try.results112, go_sem, r0, r1]) rfl ?_
  exact num_done (hx1.trans hx2) (by omega) hs1.lt hx1.size hN hbk
theorem zero_calls (w : World) (nb : Bool) (zo : Option Addr) (A zc : Nat) (z : Int) (hZ : Num w z nb zo A) :
    Calls Try.prog 92 #[.agg #[.bool nb, .slice zo A zc]] w fun e w' => e = .returned (.bool (decide (z = 0))) ∧ Ext w w' := by
  have hm := hZ.digs.many
  by_cases h0 : A = 0
  · have hz : z = 0 := by rw [h0, many_eq_zero] at hm; omega
    subst h0
    have HZ := Lib.hid hz
    clear hz hm
    go_enter Try.func92, Try.ntmps92
    go_wp2_with fail
    go_ret
    exact ⟨ret_bool (by rw [decide_eq_true HZ.out]), (by repeat (first | exact Ext.refl _ | assumption | refine Ext.alloc ?_ _ | refine Ext.drewN ?_ _ | refine Ext.drew ?_))⟩
  · have hz : z ≠ 0 := by
      intro h
      rw [h, Int.natAbs_zero, many_zero] at hm
      omega
    have HZ := Lib.hid hz
    have hab : ((A : Int) == 0) = false := by simp; omega
    clear hz hm
    go_enter Try.func92, Try.ntmps92
    go_wp2_with fail
    go_ret
    exact ⟨ret_bool (by rw [decide_eq_false HZ.out]), (by repeat (first | exact Ext.refl _ | assumption | refine Ext.alloc ?_ _ | refine Ext.drewN ?_ _ | refine Ext.drew ?_))⟩
theorem cmpD_digs (w : World) (ao bo : Option Addr) (cap cap2 A B m n : Nat) (hI : DigsIn w ao m A) (hJ : DigsIn w bo n B) (hA : A ≤ 100000) (hB : B ≤ 100000) :
    Calls Try.prog 109 #[.slice ao A cap, .slice bo B cap2] w fun e w' => e = .returned (.int .i64 (cmpZ m n)) ∧ Ext w w' := by
  have := cmpD_calls w ao bo cap cap2 m n hI.ints hJ.ints (by rw [hI.len]; exact hA) (by rw [hJ.len]; exact hB)
  rw [hI.len, hJ.len] at this
  exact this
set_option maxRecDepth 100000 in
theorem compare_calls (w : World) (nb mb : Bool) (zo yo : Option Addr) (A zc B yc : Nat) (z y : Int) (hZ : Num w z nb zo A) (hY : Num w y mb yo B) (hA : A ≤ 100000) (hB : B ≤ 100000) :
    Calls Try.prog 69 #[.agg #[.bool nb, .slice zo A zc], .agg #[.bool mb, .slice yo B yc]] w fun e w' => e = .returned (.int .i64 (cmpZ z y)) ∧ Ext w w' := by
  have hn := hZ.neg
  have hm := hY.neg
  have hc := fun W (h : Ext w W) => cmpD_digs W zo yo zc yc A B z.natAbs y.natAbs (hZ.digs.ext h) (hY.digs.ext h) hA hB
  clear hZ hY
  cases nb with
  | true =>
    have hz : z < 0 := by simpa using hn.symm
    cases mb with
    | true =>
      have hy : y < 0 := by simpa using hm.symm
      have HC : Hid (-(cmpZ (z.natAbs : Int) (y.natAbs : Int)) = cmpZ z y) := Lib.hid (by unfold cmpZ; split <;> (try split) <;> (try split) <;> (try split) <;> omega)
      obtain ⟨c, hcc, hcb⟩ : ∃ c, cmpZ (z.natAbs : Int) (y.natAbs : Int) = c ∧ (-1 ≤ c ∧ c ≤ 1) := ⟨_, rfl, by unfold cmpZ; split <;> (try split) <;> omega⟩
      rw [hcc] at HC hc
      clear hn hm hcc hz hy
      go_enter Try.func69, Try.ntmps69
      go_wp2_with fail
      have hx1 : Ext w ((w.alloc (.cells #[.bool true, .slice zo A zc] 39)).alloc (.cells #[.bool true, .slice yo B yc] 39)) := (by repeat (first | exact Ext.refl _ | assumption | refine Ext.alloc ?_ _ | refine Ext.drewN ?_ _ | refine Ext.drew ?_))
      have hb1 : NBox ((w.alloc (.cells #[.bool true, .slice zo A zc] 39)).alloc (.cells #[.bool true, .slice yo B yc] 39)) w.heap.size (.bool true) (.slice zo A zc) := ⟨by simp [go_sem], by simp [go_sem], by simp; omega⟩
      have hb2 : NBox ((w.alloc (.cells #[.bool true, .slice zo A zc] 39)).alloc (.cells #[.bool true, .slice yo B yc] 39)) (w.heap.size + 1) (.bool true) (.slice yo B yc) := ⟨by simp [go_sem], by simp [go_sem], by simp⟩
      generalize ((w.alloc (.cells #[.bool true, .slice zo A zc] 39)).alloc (.cells #[.bool true, .slice yo B yc] 39)) = w1 at *
      obtain ⟨R, hR⟩ : ∃ R, R = w.heap.size := ⟨_, rfl⟩
      rw [← hR] at hb1 hb2 ⊢
      have hRw : w.heap.size ≤ R := by omega
      clear hR
      refine (hc _ hx1).mono ?_
      rintro e w2 ⟨rfl, hx2⟩
      obtain ⟨c0, c1, lt⟩ := hb1.ext hx2
      go_wp2_with fail
      go_ret
      exact ⟨ret_int HC.out, hx1.trans hx2⟩
    | false =>
      have hy : ¬ y < 0 := by simpa using hm.symm
      have HC : Hid (-1 = cmpZ z y) := Lib.hid (by unfold cmpZ; rw [if_pos (by omega)])
      clear hn hm hz hy hc
      go_enter Try.func69, Try.ntmps69
      go_wp2_with fail
      go_ret
      exact ⟨ret_int HC.out, (by repeat (first | exact Ext.refl _ | assumption | refine Ext.alloc ?_ _ | refine Ext.drewN ?_ _ | refine Ext.drew ?_))⟩
  | false =>
    have hz : ¬ z < 0 := by simpa using hn.symm
    cases mb with
    | true =>
      have hy : y < 0 := by simpa using hm.symm
      have HC : Hid (1 = cmpZ z y) := Lib.hid (by unfold cmpZ; rw [if_neg (by omega), if_pos (by omega)])
      clear hn hm hz hy hc
      go_enter Try.func69, Try.ntmps69
      go_wp2_with fail
      go_ret
      exact ⟨ret_int HC.out, (by repeat (first | exact Ext.refl _ | assumption | refine Ext.alloc ?_ _ | refine Ext.drewN ?_ _ | refine Ext.drew ?_))⟩
    | false =>
      have hy : ¬ y < 0 := by simpa using hm.symm
      have HC : Hid (cmpZ (z.natAbs : Int) (y.natAbs : Int) = cmpZ z y) := Lib.hid (by unfold cmpZ; split <;> (try split) <;> (try split) <;> (try split) <;> omega)
      obtain ⟨c, hcc, hcb⟩ : ∃ c, cmpZ (z.natAbs : Int) (y.natAbs : Int) = c ∧ (-1 ≤ c ∧ c ≤ 1) := ⟨_, rfl, by unfold cmpZ; split <;> (try split) <;> omega⟩
      rw [hcc] at HC hc
      clear hn hm hcc hz hy
      go_enter Try.func69, Try.ntmps69
      go_wp2_with fail
      have hx1 : Ext w ((w.alloc (.cells #[.bool false, .slice zo A zc] 39)).alloc (.cells #[.bool false, .slice yo B yc] 39)) := (by repeat (first | exact Ext.refl _ | assumption | refine Ext.alloc ?_ _ | refine Ext.drewN ?_ _ | refine Ext.drew ?_))
      have hb1 : NBox ((w.alloc (.cells #[.bool false, .slice zo A zc] 39)).alloc (.cells #[.bool false, .slice yo B yc] 39)) w.heap.size (.bool false) (.slice zo A zc) := ⟨by simp [go_sem], by simp [go_sem], by simp; omega⟩
      have hb2 : NBox ((w.alloc (.cells #[.bool false, .slice zo A zc] 39)).alloc (.cells #[.bool false, .slice yo B yc] 39)) (w.heap.size + 1) (.bool false) (.slice yo B yc) := ⟨by simp [go_sem], by simp [go_sem], by simp⟩
      generalize ((w.alloc (.cells #[.bool false, .slice zo A zc] 39)).alloc (.cells #[.bool false, .slice yo B yc] 39)) = w1 at *
      obtain ⟨R, hR⟩ : ∃ R, R = w.heap.size := ⟨_, rfl⟩
      rw [← hR] at hb1 hb2 ⊢
      have hRw : w.heap.size ≤ R := by omega
      clear hR
      refine (hc _ hx1).mono ?_
      rintro e w2 ⟨rfl, hx2⟩
      obtain ⟨c0, c1, lt⟩ := hb1.ext hx2
      go_wp2_with fail
      go_ret
      exact ⟨ret_int HC.out, hx1.trans hx2⟩
end Go.Proofs.Ytcngecibljgndaa
