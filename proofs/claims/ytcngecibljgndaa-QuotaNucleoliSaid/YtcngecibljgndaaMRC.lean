/- The specification's garment. -/
import Derived.Test.YtcngecibljgndaaMBK
import Derived.Test.YtcngecibljgndaaMQW
import Derived.Test.YtcngecibljgndaaMQPC
import Derived.Deep.DeepCutAuto
namespace Go.Proofs.Ytcngecibljgndaa
open Go.RowKit Go.Shelf

/-- Two fractions that a call hands back. -/
def QR2 (w : World) (p q : Rat) (e : Ending) (w' : World) : Prop := ∃ nb zo A zc mb yo B yc kb xo C xc lb vo D vc,
  e = .returned (.tuple #[.agg #[.bool nb, .slice zo A zc, .bool mb, .slice yo B yc], .agg #[.bool kb, .slice xo C xc, .bool lb, .slice vo D vc]]) ∧
  QNum w' p nb zo A mb yo B ∧ QNum w' q kb xo C lb vo D ∧ (∀ a, zo = some a → w.heap.size ≤ a.block) ∧ (∀ a, yo = some a → w.heap.size ≤ a.block) ∧ (∀ a, xo = some a → w.heap.size ≤ a.block) ∧ (∀ a, vo = some a → w.heap.size ≤ a.block) ∧ Ext w w'
abbrev put4 (w : World) (C : Nat) (u v x y : Value) : World := (((w.setCell ⟨C, 0, none⟩ u).setCell ⟨C, 1, none⟩ v).setCell ⟨C, 2, none⟩ x).setCell ⟨C, 3, none⟩ y
theorem cmp_zero {x d : Int} (hd : 0 < d) : cmpQ (Rat.divInt x d) (Rat.divInt 0 1) = if x < 0 then -1 else if 0 < x then 1 else 0 := by
  have e : ∀ y : Int, cmpQ (Rat.divInt x d) (Rat.divInt y d) = if x < y then -1 else if y < x then 1 else 0 := fun y => by
    unfold cmpQ
    have h1 : ∀ a b : Int, (Rat.divInt a d < Rat.divInt b d) ↔ a < b := fun a b => by
      constructor
      · intro h
        rcases Int.lt_or_le a b with h2 | h2
        · exact h2
        · exact absurd (divInt_le hd hd (Int.mul_le_mul_of_nonneg_right h2 (by omega))) (Rat.not_le.2 h)
      · intro h
        refine Rat.not_le.1 fun h2 => ?_
        have h3 := divInt_le (a := a) (b := d) (c := b) (d := d) hd hd (Int.mul_le_mul_of_nonneg_right (by omega) (by omega))
        have h4 := Rat.le_antisymm h3 h2
        have h5 := (Rat.divInt_eq_divInt_iff (by omega) (by omega)).1 h4
        have := Int.eq_of_mul_eq_mul_right (show d ≠ 0 by omega) h5
        omega
    simp only [h1]
  have h0 : Rat.divInt 0 1 = Rat.divInt 0 d := (Rat.divInt_eq_divInt_iff (by omega) (by omega)).2 (by simp)
  rw [h0, e]
theorem divInt_sub_same {a b d : Int} (h : d ≠ 0) : Rat.divInt a d - Rat.divInt b d = Rat.divInt (a - b) d := by
  rw [Rat.divInt_sub_divInt _ _ h h, ← Int.sub_mul]
  exact (Rat.divInt_eq_divInt_iff (Int.mul_ne_zero h h) h).2 (by ac_rfl)
theorem divInt_add_same {a b d : Int} (h : d ≠ 0) : Rat.divInt a d + Rat.divInt b d = Rat.divInt (a + b) d := by
  rw [Rat.divInt_add_divInt _ _ h h, ← Int.add_mul]
  exact (Rat.divInt_eq_divInt_iff (Int.mul_ne_zero h h) h).2 (by ac_rfl)
theorem q12put {w : World} {B C D R : Nat} {u v x y u' v' x' y' u2 v2 x2 y2 p q r s : Value}
    (h : (w.cell? ⟨B, 0, none⟩ = some u) ∧ (w.cell? ⟨B, 1, none⟩ = some v) ∧ (w.cell? ⟨B, 2, none⟩ = some x) ∧ (w.cell? ⟨B, 3, none⟩ = some y) ∧ (w.cell? ⟨C, 0, none⟩ = some u') ∧ (w.cell? ⟨C, 1, none⟩ = some v') ∧ (w.cell? ⟨C, 2, none⟩ = some x') ∧ (w.cell? ⟨C, 3, none⟩ = some y') ∧ (w.cell? ⟨D, 0, none⟩ = some u2) ∧ (w.cell? ⟨D, 1, none⟩ = some v2) ∧ (w.cell? ⟨D, 2, none⟩ = some x2) ∧ (w.cell? ⟨D, 3, none⟩ = some y2))
    (hB : B ≠ R) (hC : C ≠ R) (hD : D ≠ R) :
    ((put4 w R p q r s).cell? ⟨B, 0, none⟩ = some u) ∧ ((put4 w R p q r s).cell? ⟨B, 1, none⟩ = some v) ∧ ((put4 w R p q r s).cell? ⟨B, 2, none⟩ = some x) ∧ ((put4 w R p q r s).cell? ⟨B, 3, none⟩ = some y) ∧ ((put4 w R p q r s).cell? ⟨C, 0, none⟩ = some u') ∧ ((put4 w R p q r s).cell? ⟨C, 1, none⟩ = some v') ∧ ((put4 w R p q r s).cell? ⟨C, 2, none⟩ = some x') ∧ ((put4 w R p q r s).cell? ⟨C, 3, none⟩ = some y') ∧ ((put4 w R p q r s).cell? ⟨D, 0, none⟩ = some u2) ∧ ((put4 w R p q r s).cell? ⟨D, 1, none⟩ = some v2) ∧ ((put4 w R p q r s).cell? ⟨D, 2, none⟩ = some x2) ∧ ((put4 w R p q r s).cell? ⟨D, 3, none⟩ = some y2) := by
  simp only [put4, far4 _ _ _ _ _ _ _ _ hB, far4 _ _ _ _ _ _ _ _ hC, far4 _ _ _ _ _ _ _ _ hD]
  exact h
theorem Spot4.new (w : World) (t : TypeId) : Spot4 (w.alloc (Obj.cells #[.bool false, .slice none 0 0, .bool false, .slice none 0 0] t)) w.heap.size := ⟨by simp, by simp [go_sem], by simp [go_sem], by simp [go_sem], by simp [go_sem], by simp [go_sem], by simp [go_sem], by simp [go_sem], by simp [go_sem]⟩
theorem Spot4.old2 (w : World) (t : TypeId) : Spot4 ((w.alloc (Obj.cells #[.bool false, .slice none 0 0, .bool false, .slice none 0 0] t)).alloc (Obj.cells #[.bool false, .slice none 0 0, .bool false, .slice none 0 0] t)) w.heap.size := (Spot4.new w t).ext ((Ext.refl _).alloc _)
theorem Spot4.new2 (w : World) (t : TypeId) : Spot4 ((w.alloc (Obj.cells #[.bool false, .slice none 0 0, .bool false, .slice none 0 0] t)).alloc (Obj.cells #[.bool false, .slice none 0 0, .bool false, .slice none 0 0] t)) (w.heap.size + 1) := by
  have := Spot4.new (w.alloc (Obj.cells #[.bool false, .slice none 0 0, .bool false, .slice none 0 0] t)) t
  rw [World.size_alloc] at this
  exact this
theorem q12 {w w' : World} {B C D : Nat} {u v x y u' v' x' y' u2 v2 x2 y2 : Value} (h : QBox w B u v x y) (k : QBox w C u' v' x' y') (m : QBox w D u2 v2 x2 y2) (hx : Ext w w') :
    (w'.cell? ⟨B, 0, none⟩ = some u) ∧ (w'.cell? ⟨B, 1, none⟩ = some v) ∧ (w'.cell? ⟨B, 2, none⟩ = some x) ∧ (w'.cell? ⟨B, 3, none⟩ = some y) ∧ (w'.cell? ⟨C, 0, none⟩ = some u') ∧ (w'.cell? ⟨C, 1, none⟩ = some v') ∧ (w'.cell? ⟨C, 2, none⟩ = some x') ∧ (w'.cell? ⟨C, 3, none⟩ = some y') ∧
    (w'.cell? ⟨D, 0, none⟩ = some u2) ∧ (w'.cell? ⟨D, 1, none⟩ = some v2) ∧ (w'.cell? ⟨D, 2, none⟩ = some x2) ∧ (w'.cell? ⟨D, 3, none⟩ = some y2) :=
  ⟨(h.ext hx).c0, (h.ext hx).c1, (h.ext hx).c2, (h.ext hx).c3, (k.ext hx).c0, (k.ext hx).c1, (k.ext hx).c2, (k.ext hx).c3, (m.ext hx).c0, (m.ext hx).c1, (m.ext hx).c2, (m.ext hx).c3⟩
/-- A number's digits do not lie in a block. -/
def Off (zo : Option Addr) (A C : Nat) : Prop := A ≠ 0 → ∀ a, zo = some a → a.block ≠ C
theorem DigsIn.far {w w' : World} {zo : Option Addr} {n A C : Nat} (h : DigsIn w zo n A) (hg : w.grownBy w' (some C)) (ho : Off zo A C) : DigsIn w' zo n A := by
  by_cases hA : A = 0
  · refine ⟨h.len, fun k hk => ?_⟩
    have := h.len
    omega
  · exact ⟨h.len, h.ints.grown hg (fun a ha e => ho hA a ha (by simpa using e))⟩
theorem QNum.far {w w' : World} {q : Rat} {nb mb : Bool} {zo yo : Option Addr} {A B C : Nat} (h : QNum w q nb zo A mb yo B) (hg : w.grownBy w' (some C)) (hz : Off zo A C) (hy : Off yo B C) : QNum w' q nb zo A mb yo B :=
  ⟨⟨h.num.neg, h.num.digs.far hg hz⟩, ⟨h.den.neg, h.den.digs.far hg hy⟩⟩
theorem DigsIn.lt {w : World} {zo : Option Addr} {n A : Nat} (h : DigsIn w zo n A) (hA : A ≠ 0) : ∀ a, zo = some a → a.block < w.heap.size := by
  intro a ha
  obtain ⟨b, off, he, hb, -⟩ := h.at_ 0 (by omega)
  rw [ha, Option.some.injEq] at he
  subst he
  exact hb
/-- A box with a fraction in it, that may be filled anew. -/
structure BoxQ (w : World) (C : Nat) (q : Rat) (nb : Bool) (zo : Option Addr) (A zc : Nat) (mb : Bool) (yo : Option Addr) (B yc : Nat) : Prop where
  box : QBox w C (.bool nb) (.slice zo A zc) (.bool mb) (.slice yo B yc)
  spot : Spot4 w C
  num : QNum w q nb zo A mb yo B
theorem BoxQ.ext {w w' : World} {C : Nat} {q : Rat} {nb mb : Bool} {zo yo : Option Addr} {A zc B yc : Nat} (h : BoxQ w C q nb zo A zc mb yo B yc) (hx : Ext w w') : BoxQ w' C q nb zo A zc mb yo B yc := ⟨h.box.ext hx, h.spot.ext hx, h.num.ext hx⟩
theorem BoxQ.put {w : World} {C : Nat} {q : Rat} {nb mb : Bool} {zo yo : Option Addr} {A zc B yc : Nat} (hs : Spot4 w C) (h : QNum w q nb zo A mb yo B) (hz : Off zo A C) (hy : Off yo B C) : BoxQ (put4 w C (.bool nb) (.slice zo A zc) (.bool mb) (.slice yo B yc)) C q nb zo A zc mb yo B yc := by
  obtain ⟨r0, r1, r2, r3⟩ := hs.put (.bool nb) (.slice zo A zc) (.bool mb) (.slice yo B yc)
  refine ⟨⟨r0, r1, r2, r3, by simpa [World.setCell] using hs.lt⟩, ?_, h.far (grown_put4 _ _ _ _ _ _) hz hy⟩
  refine ⟨by simpa [World.setCell] using hs.lt, by rw [r0]; rfl, by rw [r1]; rfl, by rw [r2]; rfl, by rw [r3]; rfl, ?_, ?_, ?_, ?_⟩
  all_goals simp only [put4, World.frozen?_setCell]
  · exact hs.free0
  · exact hs.free1
  · exact hs.free2
  · exact hs.free3
theorem BoxQ.far {w : World} {C R : Nat} {q : Rat} {nb mb : Bool} {zo yo : Option Addr} {A zc B yc : Nat} (h : BoxQ w C q nb zo A zc mb yo B yc) (hne : C ≠ R) (hz : Off zo A R) (hy : Off yo B R) (u v x y : Value) : BoxQ (put4 w R u v x y) C q nb zo A zc mb yo B yc :=
  ⟨⟨by rw [far4 _ _ _ _ _ _ _ _ hne]; exact h.box.c0, by rw [far4 _ _ _ _ _ _ _ _ hne]; exact h.box.c1, by rw [far4 _ _ _ _ _ _ _ _ hne]; exact h.box.c2, by rw [far4 _ _ _ _ _ _ _ _ hne]; exact h.box.c3, by simpa [World.setCell] using h.box.lt⟩,
    h.spot.grown (grown_put4 _ _ _ _ _ _) (by simpa using hne), h.num.far (grown_put4 _ _ _ _ _ _) hz hy⟩
theorem BoxQ.made {w : World} (t : TypeId) {q : Rat} {nb mb : Bool} {zo yo : Option Addr} {A zc B yc : Nat} (h : QNum w q nb zo A mb yo B) : BoxQ (w.alloc (.cells #[.bool nb, .slice zo A zc, .bool mb, .slice yo B yc] t)) w.heap.size q nb zo A zc mb yo B yc :=
  ⟨⟨by simp [go_sem], by simp [go_sem], by simp [go_sem], by simp [go_sem], by simp⟩, ⟨by simp, by simp [go_sem], by simp [go_sem], by simp [go_sem], by simp [go_sem], by simp [go_sem], by simp [go_sem], by simp [go_sem], by simp [go_sem]⟩, h.ext ((Ext.refl _).alloc _)⟩
/-- Two boxes with a fraction each. -/
def TwoQ (w0 wx : World) (C D : Nat) (p q : Rat) : Prop := ∃ nb zo A zc mb yo B yc kb xo P xc lb vo N vc,
  C ≠ D ∧ w0.heap.size ≤ C ∧ w0.heap.size ≤ D ∧ BoxQ wx C p nb zo A zc mb yo B yc ∧ BoxQ wx D q kb xo P xc lb vo N vc ∧ (Off zo A C ∧ Off yo B C ∧ Off zo A D ∧ Off yo B D) ∧ (Off xo P C ∧ Off vo N C ∧ Off xo P D ∧ Off vo N D) ∧ Ext w0 wx
section
variable {w0 v : World} {C D : Nat} {p q : Rat} {nb mb kb lb : Bool} {zo yo xo vo : Option Addr} {A zc B yc P xc N vc : Nat}
theorem TwoQ.stored (hCD : C ≠ D) (hC : w0.heap.size ≤ C) (hD : w0.heap.size ≤ D) (sC : Spot4 v C) (sD : Spot4 v D) (hp : QNum v p nb zo A mb yo B) (hq : QNum v q kb xo P lb vo N)
    (h1 : Off zo A C ∧ Off yo B C ∧ Off zo A D ∧ Off yo B D) (h2 : Off xo P C ∧ Off vo N C ∧ Off xo P D ∧ Off vo N D) (hx : Ext w0 v) :
    TwoQ w0 (put4 (put4 v C (.bool nb) (.slice zo A zc) (.bool mb) (.slice yo B yc)) D (.bool kb) (.slice xo P xc) (.bool lb) (.slice vo N vc)) C D p q := by
  refine ⟨nb, zo, A, zc, mb, yo, B, yc, kb, xo, P, xc, lb, vo, N, vc, hCD, hC, hD, ?_, ?_, h1, h2, ?_⟩
  · exact (BoxQ.put sC hp h1.1 h1.2.1).far hCD h1.2.2.1 h1.2.2.2 _ _ _ _
  · exact BoxQ.put (sD.grown (grown_put4 _ _ _ _ _ _) (by simpa using hCD.symm)) (hq.far (grown_put4 _ _ _ _ _ _) h2.1 h2.2.1) h2.2.2.1 h2.2.2.2
  · exact (hx.onto (grown_put4 _ _ _ _ _ _) (fun k hk => by simp only [Option.some.injEq] at hk; omega)).onto (grown_put4 _ _ _ _ _ _) (fun k hk => by simp only [Option.some.injEq] at hk; omega)
theorem TwoQ.half (t : TypeId) (hC : w0.heap.size ≤ C) (sC : Spot4 v C) (hp : QNum v p nb zo A mb yo B) (hq : QNum v q kb xo P lb vo N)
    (h1 : Off zo A C ∧ Off yo B C ∧ Off zo A v.heap.size ∧ Off yo B v.heap.size) (h2 : Off xo P C ∧ Off vo N C ∧ Off xo P v.heap.size ∧ Off vo N v.heap.size) (hx : Ext w0 v) :
    TwoQ w0 ((put4 v C (.bool nb) (.slice zo A zc) (.bool mb) (.slice yo B yc)).alloc (.cells #[.bool kb, .slice xo P xc, .bool lb, .slice vo N vc] t)) C v.heap.size p q := by
  have hxp : Ext w0 (put4 v C (.bool nb) (.slice zo A zc) (.bool mb) (.slice yo B yc)) := hx.onto (grown_put4 _ _ _ _ _ _) (fun k hk => by simp only [Option.some.injEq] at hk; omega)
  have hsz : (put4 v C (.bool nb) (.slice zo A zc) (.bool mb) (.slice yo B yc)).heap.size = v.heap.size := by simp [World.setCell]
  refine ⟨nb, zo, A, zc, mb, yo, B, yc, kb, xo, P, xc, lb, vo, N, vc, by have := sC.lt; omega, hC, by have := hx.size; omega, ?_, ?_, h1, h2, hxp.alloc _⟩
  · exact (BoxQ.put sC hp h1.1 h1.2.1).ext ((Ext.refl _).alloc _)
  · have := BoxQ.made (w := put4 v C (.bool nb) (.slice zo A zc) (.bool mb) (.slice yo B yc)) t (zc := xc) (yc := vc) (hq.far (grown_put4 _ _ _ _ _ _) h2.1 h2.2.1)
    rw [hsz] at this
    exact this
theorem TwoQ.both (t : TypeId) (hp : QNum v p nb zo A mb yo B) (hq : QNum v q kb xo P lb vo N)
    (h1 : Off zo A v.heap.size ∧ Off yo B v.heap.size ∧ Off zo A (v.heap.size + 1) ∧ Off yo B (v.heap.size + 1)) (h2 : Off xo P v.heap.size ∧ Off vo N v.heap.size ∧ Off xo P (v.heap.size + 1) ∧ Off vo N (v.heap.size + 1)) (hx : Ext w0 v) :
    TwoQ w0 ((v.alloc (.cells #[.bool nb, .slice zo A zc, .bool mb, .slice yo B yc] t)).alloc (.cells #[.bool kb, .slice xo P xc, .bool lb, .slice vo N vc] t)) v.heap.size (v.heap.size + 1) p q := by
  refine ⟨nb, zo, A, zc, mb, yo, B, yc, kb, xo, P, xc, lb, vo, N, vc, by omega, hx.size, by have := hx.size; omega, ?_, ?_, h1, h2, (hx.alloc _).alloc _⟩
  · exact (BoxQ.made t hp).ext ((Ext.refl _).alloc _)
  · have := BoxQ.made (w := v.alloc (.cells #[.bool nb, .slice zo A zc, .bool mb, .slice yo B yc] t)) t (zc := xc) (yc := vc) (hq.ext ((Ext.refl _).alloc _))
    rw [World.size_alloc] at this
    exact this
end
theorem TwoQ.swap {w0 v : World} {C D : Nat} {p q : Rat} (h : TwoQ w0 v C D p q) : TwoQ w0 v D C q p := by
  obtain ⟨nb, zo, A, zc, mb, yo, B, yc, kb, xo, P, xc, lb, vo, N, vc, h1, h2, h3, h4, h5, ⟨a1, a2, a3, a4⟩, ⟨b1, b2, b3, b4⟩, h6⟩ := h
  exact ⟨kb, xo, P, xc, lb, vo, N, vc, nb, zo, A, zc, mb, yo, B, yc, h1.symm, h3, h2, h5, h4, ⟨b3, b4, b1, b2⟩, ⟨a3, a4, a1, a2⟩, h6⟩
theorem TwoQ.fill {w0 w : World} {C D : Nat} {p q r : Rat} {nb mb : Bool} {zo yo : Option Addr} {A zc B yc : Nat} (h : TwoQ w0 w C D p q) (hr : QNum w0 r nb zo A mb yo B) :
    TwoQ w0 (put4 w C (.bool nb) (.slice zo A zc) (.bool mb) (.slice yo B yc)) C D r q := by
  obtain ⟨_, _, _, _, _, _, _, _, kb, xo, P, xc, lb, vo, N, vc, h1, h2, h3, h4, h5, -, ⟨b1, b2, b3, b4⟩, h6⟩ := h
  have o1 : ∀ {X : Nat}, w0.heap.size ≤ X → Off zo A X := fun hX hA a ha e => by have := hr.num.digs.lt hA a ha; omega
  have o2 : ∀ {X : Nat}, w0.heap.size ≤ X → Off yo B X := fun hX hA a ha e => by have := hr.den.digs.lt hA a ha; omega
  refine ⟨nb, zo, A, zc, mb, yo, B, yc, kb, xo, P, xc, lb, vo, N, vc, h1, h2, h3, BoxQ.put h4.spot (hr.ext h6) (o1 h2) (o2 h2), h5.far h1.symm b1 b2 _ _ _ _, ⟨o1 h2, o2 h2, o1 h3, o2 h3⟩, ⟨b1, b2, b3, b4⟩, ?_⟩
  exact h6.onto (grown_put4 _ _ _ _ _ _) (fun k hk => by simp only [Option.some.injEq] at hk; omega)
theorem TwoQ.ext {w0 w w' : World} {C D : Nat} {p q : Rat} (h : TwoQ w0 w C D p q) (hx : Ext w w') : TwoQ w0 w' C D p q := by
  obtain ⟨nb, zo, A, zc, mb, yo, B, yc, kb, xo, P, xc, lb, vo, N, vc, h1, h2, h3, h4, h5, h6, h7, h8⟩ := h
  exact ⟨nb, zo, A, zc, mb, yo, B, yc, kb, xo, P, xc, lb, vo, N, vc, h1, h2, h3, h4.ext hx, h5.ext hx, h6, h7, h8.trans hx⟩
set_option maxRecDepth 100000 in
set_option maxHeartbeats 4000000 in
theorem garment_calls (w : World) (nb1 mb1 nb2 mb2 nb3 mb3 : Bool) (zo1 yo1 zo2 yo2 zo3 yo3 : Option Addr) (A1 zc1 B1 yc1 A2 zc2 B2 yc2 A3 zc3 B3 yc3 : Nat) (E a b D' : Int)
    (h1 : QNum w (Rat.divInt E D') nb1 zo1 A1 mb1 yo1 B1) (h2 : QNum w (Rat.divInt a D') nb2 zo2 A2 mb2 yo2 B2) (h3 : QNum w (Rat.divInt b D') nb3 zo3 A3 mb3 yo3 B3)
    (hD : 0 < D' ∧ D' ≤ 100000000000000) (hE : -100000000000000 ≤ E ∧ E ≤ 100000000000000) (ha : -100000000000000 ≤ a ∧ a ≤ 100000000000000) (hb : -100000000000000 ≤ b ∧ b ≤ 100000000000000) :
    Calls Try.prog 76 #[.agg #[.bool nb1, .slice zo1 A1 zc1, .bool mb1, .slice yo1 B1 yc1], .agg #[.bool nb2, .slice zo2 A2 zc2, .bool mb2, .slice yo2 B2 yc2], .agg #[.bool nb3, .slice zo3 A3 zc3, .bool mb3, .slice yo3 B3 yc3]] w
      (QR2 w (Rat.divInt (contP E a b) (2 * D')) (Rat.divInt (2 * E - contP E a b) (2 * D'))) := by
  go_enter Try.func76, Try.ntmps76
  go_wp2_with fail
  have hx1 : Ext w (((((w.alloc (Obj.cells #[.bool nb1, .slice zo1 A1 zc1, .bool mb1, .slice yo1 B1 yc1] 41)).alloc (Obj.cells #[.bool nb2, .slice zo2 A2 zc2, .bool mb2, .slice yo2 B2 yc2] 41)).alloc (Obj.cells #[.bool nb3, .slice zo3 A3 zc3, .bool mb3, .slice yo3 B3 yc3] 41)).alloc (Obj.cells #[.bool false, .slice none 0 0, .bool false, .slice none 0 0] 41)).alloc (Obj.cells #[.bool false, .slice none 0 0, .bool false, .slice none 0 0] 41)) := (by repeat (first | exact Ext.refl _ | assumption | refine Ext.alloc ?_ _ | refine Ext.drewN ?_ _ | refine Ext.drew ?_))
  have hb1 : QBox (((((w.alloc (Obj.cells #[.bool nb1, .slice zo1 A1 zc1, .bool mb1, .slice yo1 B1 yc1] 41)).alloc (Obj.cells #[.bool nb2, .slice zo2 A2 zc2, .bool mb2, .slice yo2 B2 yc2] 41)).alloc (Obj.cells #[.bool nb3, .slice zo3 A3 zc3, .bool mb3, .slice yo3 B3 yc3] 41)).alloc (Obj.cells #[.bool false, .slice none 0 0, .bool false, .slice none 0 0] 41)).alloc (Obj.cells #[.bool false, .slice none 0 0, .bool false, .slice none 0 0] 41)) w.heap.size (.bool nb1) (.slice zo1 A1 zc1) (.bool mb1) (.slice yo1 B1 yc1) := ⟨by simp [go_sem], by simp [go_sem], by simp [go_sem], by simp [go_sem], by first | (simp; done) | (simp; omega)⟩
  have hb2 : QBox (((((w.alloc (Obj.cells #[.bool nb1, .slice zo1 A1 zc1, .bool mb1, .slice yo1 B1 yc1] 41)).alloc (Obj.cells #[.bool nb2, .slice zo2 A2 zc2, .bool mb2, .slice yo2 B2 yc2] 41)).alloc (Obj.cells #[.bool nb3, .slice zo3 A3 zc3, .bool mb3, .slice yo3 B3 yc3] 41)).alloc (Obj.cells #[.bool false, .slice none 0 0, .bool false, .slice none 0 0] 41)).alloc (Obj.cells #[.bool false, .slice none 0 0, .bool false, .slice none 0 0] 41)) (w.heap.size + 1) (.bool nb2) (.slice zo2 A2 zc2) (.bool mb2) (.slice yo2 B2 yc2) := ⟨by simp [go_sem], by simp [go_sem], by simp [go_sem], by simp [go_sem], by first | (simp; done) | (simp; omega)⟩
  have hb3 : QBox (((((w.alloc (Obj.cells #[.bool nb1, .slice zo1 A1 zc1, .bool mb1, .slice yo1 B1 yc1] 41)).alloc (Obj.cells #[.bool nb2, .slice zo2 A2 zc2, .bool mb2, .slice yo2 B2 yc2] 41)).alloc (Obj.cells #[.bool nb3, .slice zo3 A3 zc3, .bool mb3, .slice yo3 B3 yc3] 41)).alloc (Obj.cells #[.bool false, .slice none 0 0, .bool false, .slice none 0 0] 41)).alloc (Obj.cells #[.bool false, .slice none 0 0, .bool false, .slice none 0 0] 41)) (w.heap.size + 1 + 1) (.bool nb3) (.slice zo3 A3 zc3) (.bool mb3) (.slice yo3 B3 yc3) := ⟨by simp [go_sem], by simp [go_sem], by simp [go_sem], by simp [go_sem], by first | (simp; done) | (simp; omega)⟩
  have hs4 : Spot4 (((((w.alloc (Obj.cells #[.bool nb1, .slice zo1 A1 zc1, .bool mb1, .slice yo1 B1 yc1] 41)).alloc (Obj.cells #[.bool nb2, .slice zo2 A2 zc2, .bool mb2, .slice yo2 B2 yc2] 41)).alloc (Obj.cells #[.bool nb3, .slice zo3 A3 zc3, .bool mb3, .slice yo3 B3 yc3] 41)).alloc (Obj.cells #[.bool false, .slice none 0 0, .bool false, .slice none 0 0] 41)).alloc (Obj.cells #[.bool false, .slice none 0 0, .bool false, .slice none 0 0] 41)) (w.heap.size + 1 + 1 + 1) := ⟨by first | (simp; done) | (simp; omega), by simp [go_sem], by simp [go_sem], by simp [go_sem], by simp [go_sem], by simp [go_sem], by simp [go_sem], by simp [go_sem], by simp [go_sem]⟩
  have hs5 : Spot4 (((((w.alloc (Obj.cells #[.bool nb1, .slice zo1 A1 zc1, .bool mb1, .slice yo1 B1 yc1] 41)).alloc (Obj.cells #[.bool nb2, .slice zo2 A2 zc2, .bool mb2, .slice yo2 B2 yc2] 41)).alloc (Obj.cells #[.bool nb3, .slice zo3 A3 zc3, .bool mb3, .slice yo3 B3 yc3] 41)).alloc (Obj.cells #[.bool false, .slice none 0 0, .bool false, .slice none 0 0] 41)).alloc (Obj.cells #[.bool false, .slice none 0 0, .bool false, .slice none 0 0] 41)) (w.heap.size + 1 + 1 + 1 + 1) := ⟨by first | (simp; done) | (simp; omega), by simp [go_sem], by simp [go_sem], by simp [go_sem], by simp [go_sem], by simp [go_sem], by simp [go_sem], by simp [go_sem], by simp [go_sem]⟩
  generalize (((((w.alloc (Obj.cells #[.bool nb1, .slice zo1 A1 zc1, .bool mb1, .slice yo1 B1 yc1] 41)).alloc (Obj.cells #[.bool nb2, .slice zo2 A2 zc2, .bool mb2, .slice yo2 B2 yc2] 41)).alloc (Obj.cells #[.bool nb3, .slice zo3 A3 zc3, .bool mb3, .slice yo3 B3 yc3] 41)).alloc (Obj.cells #[.bool false, .slice none 0 0, .bool false, .slice none 0 0] 41)).alloc (Obj.cells #[.bool false, .slice none 0 0, .bool false, .slice none 0 0] 41)) = w1 at *
  obtain ⟨R, hR⟩ : ∃ R, R = w.heap.size := ⟨_, rfl⟩
  rw [← hR] at hb1 hb2 hb3 hs4 hs5 ⊢
  have hRw : w.heap.size ≤ R := by omega
  clear hR
  replace h1 := h1.ext hx1
  replace h2 := h2.ext hx1
  replace h3 := h3.ext hx1
  refine (frac_calls w1 0 1 (by omega) (by omega) (by omega)).mono ?_
  rintro e w2 ⟨nb4, zo4, A4, zc4, mb4, yo4, B4, yc4, rfl, h4, hbk, hbm, hx2⟩
  clear hbk hbm
  have hb1' := hb1.ext hx2
  have hb2' := hb2.ext hx2
  have hb3' := hb3.ext hx2
  go_wp2_with fail
  obtain ⟨N, hN⟩ : ∃ N, N = w2.heap.size := ⟨_, rfl⟩
  have hbn : QBox (w2.alloc (Obj.cells #[.bool nb4, .slice zo4 A4 zc4, .bool mb4, .slice yo4 B4 yc4] 41)) w2.heap.size (.bool nb4) (.slice zo4 A4 zc4) (.bool mb4) (.slice yo4 B4 yc4) := ⟨by simp [go_sem], by simp [go_sem], by simp [go_sem], by simp [go_sem], by simp⟩
  have hx3 : Ext w2 (w2.alloc (Obj.cells #[.bool nb4, .slice zo4 A4 zc4, .bool mb4, .slice yo4 B4 yc4] 41)) := (Ext.refl _).alloc _
  generalize (w2.alloc (Obj.cells #[.bool nb4, .slice zo4 A4 zc4, .bool mb4, .slice yo4 B4 yc4] 41)) = w3 at *
  rw [← hN] at hbn ⊢
  clear hN
  replace hb1' := hb1'.ext hx3
  replace hb2' := hb2'.ext hx3
  replace hb3' := hb3'.ext hx3
  have hx13 := hx2.trans hx3
  replace h1 := h1.ext hx13
  replace h2 := h2.ext hx13
  replace h3 := h3.ext hx13
  replace h4 := h4.ext hx3
  have f1 : Fine (Rat.divInt E D') := fine_small (by omega) (by omega) (by omega)
  have f2 : Fine (Rat.divInt a D') := fine_small (by omega) (by omega) (by omega)
  have f3 : Fine (Rat.divInt b D') := fine_small (by omega) (by omega) (by omega)
  have k1 := fun W h h' => sub_calls W nb1 mb1 nb3 mb3 zo1 yo1 zo3 yo3 A1 zc1 B1 yc1 A3 zc3 B3 yc3 _ _ h h' f1 f3
  have k2 := fun W h h' => sub_calls W nb1 mb1 nb2 mb2 zo1 yo1 zo2 yo2 A1 zc1 B1 yc1 A2 zc2 B2 yc2 _ _ h h' f1 f2
  go_cut [9, 10] (fun s9 s10 wx => ∃ C D, s9 = .pointer (some ⟨C, 0, none⟩) ∧ s10 = .pointer (some ⟨D, 0, none⟩) ∧ TwoQ w3 wx C D (Rat.divInt E D' - Rat.divInt b D') (Rat.divInt E D' - Rat.divInt a D'))
  case first =>
    go_region_held3 (fun w' => (w'.cell? ⟨R, 0, none⟩ = some (.bool nb1)) ∧ (w'.cell? ⟨R, 1, none⟩ = some (.slice zo1 A1 zc1)) ∧ (w'.cell? ⟨R, 2, none⟩ = some (.bool mb1)) ∧ (w'.cell? ⟨R, 3, none⟩ = some (.slice yo1 B1 yc1)) ∧ (w'.cell? ⟨R + 1, 0, none⟩ = some (.bool nb2)) ∧ (w'.cell? ⟨R + 1, 1, none⟩ = some (.slice zo2 A2 zc2)) ∧ (w'.cell? ⟨R + 1, 2, none⟩ = some (.bool mb2)) ∧ (w'.cell? ⟨R + 1, 3, none⟩ = some (.slice yo2 B2 yc2)) ∧ (w'.cell? ⟨R + 1 + 1, 0, none⟩ = some (.bool nb3)) ∧ (w'.cell? ⟨R + 1 + 1, 1, none⟩ = some (.slice zo3 A3 zc3)) ∧ (w'.cell? ⟨R + 1 + 1, 2, none⟩ = some (.bool mb3)) ∧ (w'.cell? ⟨R + 1 + 1, 3, none⟩ = some (.slice yo3 B3 yc3)))
      (exact q12 hb1' hb2' hb3' (by repeat (with_reducible first | exact Ext.refl _ | assumption | refine Ext.alloc ?_ _ | refine Ext.drew ?_ | (refine Ext.setOwn ?_ _ _ (by first | exact Nat.le_refl _ | exact hxk1.size | exact hxk2.size | exact hxk3.size | exact hxk4.size | exact Nat.le_succ _ | exact Nat.le_succ_of_le hxk1.size | exact Nat.le_succ_of_le hxk2.size)))))
      ((first
        | (go_at_call 89; refine (k2 _ (h1.ext (hxk1.trans (by repeat (with_reducible first | exact Ext.refl _ | assumption | refine Ext.alloc ?_ _ | refine Ext.drew ?_ | (refine Ext.setOwn ?_ _ _ (by first | exact Nat.le_refl _ | exact hxk1.size | exact hxk2.size | exact hxk3.size | exact hxk4.size | exact Nat.le_succ _ | exact Nat.le_succ_of_le hxk1.size | exact Nat.le_succ_of_le hxk2.size)))))) (h2.ext (hxk1.trans (by repeat (with_reducible first | exact Ext.refl _ | assumption | refine Ext.alloc ?_ _ | refine Ext.drew ?_ | (refine Ext.setOwn ?_ _ _ (by first | exact Nat.le_refl _ | exact hxk1.size | exact hxk2.size | exact hxk3.size | exact hxk4.size | exact Nat.le_succ _ | exact Nat.le_succ_of_le hxk1.size | exact Nat.le_succ_of_le hxk2.size))))))).mono ?_; rintro e v2 ⟨nb6, zo6, A6, zc6, mb6, yo6, B6, yc6, rfl, hR2, hbk2, hbm2, hx12⟩; have hxv2 : Ext v1 v2 := Ext.trans (by repeat (with_reducible first | exact Ext.refl _ | assumption | refine Ext.alloc ?_ _ | refine Ext.drew ?_ | (refine Ext.setOwn ?_ _ _ (by first | exact Nat.le_refl _ | exact hxk1.size | exact hxk2.size | exact hxk3.size | exact hxk4.size | exact Nat.le_succ _ | exact Nat.le_succ_of_le hxk1.size | exact Nat.le_succ_of_le hxk2.size)))) hx12; have hxk2 : Ext w3 v2 := hxk1.trans hxv2; (first | (have spc := ((Spot4.old2 v1 41).ext ((Ext.refl _).drew)).ext hx12; have spd := ((Spot4.new2 v1 41).ext ((Ext.refl _).drew)).ext hx12; obtain ⟨c0spc, hc0spc⟩ := Option.isSome_iff_exists.1 spc.some0; obtain ⟨c1spc, hc1spc⟩ := Option.isSome_iff_exists.1 spc.some1; obtain ⟨c2spc, hc2spc⟩ := Option.isSome_iff_exists.1 spc.some2; obtain ⟨c3spc, hc3spc⟩ := Option.isSome_iff_exists.1 spc.some3; have hf0spc := spc.free0; have hf1spc := spc.free1; have hf2spc := spc.free2; have hf3spc := spc.free3; have hl0spc := spc.lt; obtain ⟨c0spd, hc0spd⟩ := Option.isSome_iff_exists.1 spd.some0; obtain ⟨c1spd, hc1spd⟩ := Option.isSome_iff_exists.1 spd.some1; obtain ⟨c2spd, hc2spd⟩ := Option.isSome_iff_exists.1 spd.some2; obtain ⟨c3spd, hc3spd⟩ := Option.isSome_iff_exists.1 spd.some3; have hf0spd := spd.free0; have hf1spd := spd.free1; have hf2spd := spd.free2; have hf3spd := spd.free3; have hl0spd := spd.lt) | (have spc := ((Spot4.new v1 41).ext ((Ext.refl _).drew)).ext hx12; obtain ⟨c0spc, hc0spc⟩ := Option.isSome_iff_exists.1 spc.some0; obtain ⟨c1spc, hc1spc⟩ := Option.isSome_iff_exists.1 spc.some1; obtain ⟨c2spc, hc2spc⟩ := Option.isSome_iff_exists.1 spc.some2; obtain ⟨c3spc, hc3spc⟩ := Option.isSome_iff_exists.1 spc.some3; have hf0spc := spc.free0; have hf1spc := spc.free1; have hf2spc := spc.free2; have hf3spc := spc.free3; have hl0spc := spc.lt) | (have spc := (Spot4.old2 v1 41).ext hx12; have spd := (Spot4.new2 v1 41).ext hx12; obtain ⟨c0spc, hc0spc⟩ := Option.isSome_iff_exists.1 spc.some0; obtain ⟨c1spc, hc1spc⟩ := Option.isSome_iff_exists.1 spc.some1; obtain ⟨c2spc, hc2spc⟩ := Option.isSome_iff_exists.1 spc.some2; obtain ⟨c3spc, hc3spc⟩ := Option.isSome_iff_exists.1 spc.some3; have hf0spc := spc.free0; have hf1spc := spc.free1; have hf2spc := spc.free2; have hf3spc := spc.free3; have hl0spc := spc.lt; obtain ⟨c0spd, hc0spd⟩ := Option.isSome_iff_exists.1 spd.some0; obtain ⟨c1spd, hc1spd⟩ := Option.isSome_iff_exists.1 spd.some1; obtain ⟨c2spd, hc2spd⟩ := Option.isSome_iff_exists.1 spd.some2; obtain ⟨c3spd, hc3spd⟩ := Option.isSome_iff_exists.1 spd.some3; have hf0spd := spd.free0; have hf1spd := spd.free1; have hf2spd := spd.free2; have hf3spd := spd.free3; have hl0spd := spd.lt) | (have spc := (Spot4.new v1 41).ext hx12; obtain ⟨c0spc, hc0spc⟩ := Option.isSome_iff_exists.1 spc.some0; obtain ⟨c1spc, hc1spc⟩ := Option.isSome_iff_exists.1 spc.some1; obtain ⟨c2spc, hc2spc⟩ := Option.isSome_iff_exists.1 spc.some2; obtain ⟨c3spc, hc3spc⟩ := Option.isSome_iff_exists.1 spc.some3; have hf0spc := spc.free0; have hf1spc := spc.free1; have hf2spc := spc.free2; have hf3spc := spc.free3; have hl0spc := spc.lt) | skip); (try (have spe := spa.ext hxv2; obtain ⟨c0spe, hc0spe⟩ := Option.isSome_iff_exists.1 spe.some0; obtain ⟨c1spe, hc1spe⟩ := Option.isSome_iff_exists.1 spe.some1; obtain ⟨c2spe, hc2spe⟩ := Option.isSome_iff_exists.1 spe.some2; obtain ⟨c3spe, hc3spe⟩ := Option.isSome_iff_exists.1 spe.some3; have hf0spe := spe.free0; have hf1spe := spe.free1; have hf2spe := spe.free2; have hf3spe := spe.free3; have hl0spe := spe.lt)); (try (have spf := spb.ext hxv2; obtain ⟨c0spf, hc0spf⟩ := Option.isSome_iff_exists.1 spf.some0; obtain ⟨c1spf, hc1spf⟩ := Option.isSome_iff_exists.1 spf.some1; obtain ⟨c2spf, hc2spf⟩ := Option.isSome_iff_exists.1 spf.some2; obtain ⟨c3spf, hc3spf⟩ := Option.isSome_iff_exists.1 spf.some3; have hf0spf := spf.free0; have hf1spf := spf.free1; have hf2spf := spf.free2; have hf3spf := spf.free3; have hl0spf := spf.lt)))
        | (go_at_call 89; refine (k1 _ (h1.ext (by repeat (with_reducible first | exact Ext.refl _ | assumption | refine Ext.alloc ?_ _ | refine Ext.drew ?_ | (refine Ext.setOwn ?_ _ _ (by first | exact Nat.le_refl _ | exact hxk1.size | exact hxk2.size | exact hxk3.size | exact hxk4.size | exact Nat.le_succ _ | exact Nat.le_succ_of_le hxk1.size | exact Nat.le_succ_of_le hxk2.size))))) (h3.ext (by repeat (with_reducible first | exact Ext.refl _ | assumption | refine Ext.alloc ?_ _ | refine Ext.drew ?_ | (refine Ext.setOwn ?_ _ _ (by first | exact Nat.le_refl _ | exact hxk1.size | exact hxk2.size | exact hxk3.size | exact hxk4.size | exact Nat.le_succ _ | exact Nat.le_succ_of_le hxk1.size | exact Nat.le_succ_of_le hxk2.size)))))).mono ?_; rintro e v1 ⟨nb5, zo5, A5, zc5, mb5, yo5, B5, yc5, rfl, hR1, hbk1, hbm1, hx11⟩; have hxk1 : Ext w3 v1 := Ext.trans (by repeat (with_reducible first | exact Ext.refl _ | assumption | refine Ext.alloc ?_ _ | refine Ext.drew ?_ | (refine Ext.setOwn ?_ _ _ (by first | exact Nat.le_refl _ | exact hxk1.size | exact hxk2.size | exact hxk3.size | exact hxk4.size | exact Nat.le_succ _ | exact Nat.le_succ_of_le hxk1.size | exact Nat.le_succ_of_le hxk2.size)))) hx11; (first | (have spa := ((Spot4.old2 w3 41).ext ((Ext.refl _).drew)).ext hx11; have spb := ((Spot4.new2 w3 41).ext ((Ext.refl _).drew)).ext hx11; obtain ⟨c0spa, hc0spa⟩ := Option.isSome_iff_exists.1 spa.some0; obtain ⟨c1spa, hc1spa⟩ := Option.isSome_iff_exists.1 spa.some1; obtain ⟨c2spa, hc2spa⟩ := Option.isSome_iff_exists.1 spa.some2; obtain ⟨c3spa, hc3spa⟩ := Option.isSome_iff_exists.1 spa.some3; have hf0spa := spa.free0; have hf1spa := spa.free1; have hf2spa := spa.free2; have hf3spa := spa.free3; have hl0spa := spa.lt; obtain ⟨c0spb, hc0spb⟩ := Option.isSome_iff_exists.1 spb.some0; obtain ⟨c1spb, hc1spb⟩ := Option.isSome_iff_exists.1 spb.some1; obtain ⟨c2spb, hc2spb⟩ := Option.isSome_iff_exists.1 spb.some2; obtain ⟨c3spb, hc3spb⟩ := Option.isSome_iff_exists.1 spb.some3; have hf0spb := spb.free0; have hf1spb := spb.free1; have hf2spb := spb.free2; have hf3spb := spb.free3; have hl0spb := spb.lt) | (have spa := ((Spot4.new w3 41).ext ((Ext.refl _).drew)).ext hx11; obtain ⟨c0spa, hc0spa⟩ := Option.isSome_iff_exists.1 spa.some0; obtain ⟨c1spa, hc1spa⟩ := Option.isSome_iff_exists.1 spa.some1; obtain ⟨c2spa, hc2spa⟩ := Option.isSome_iff_exists.1 spa.some2; obtain ⟨c3spa, hc3spa⟩ := Option.isSome_iff_exists.1 spa.some3; have hf0spa := spa.free0; have hf1spa := spa.free1; have hf2spa := spa.free2; have hf3spa := spa.free3; have hl0spa := spa.lt) | (have spa := (Spot4.old2 w3 41).ext hx11; have spb := (Spot4.new2 w3 41).ext hx11; obtain ⟨c0spa, hc0spa⟩ := Option.isSome_iff_exists.1 spa.some0; obtain ⟨c1spa, hc1spa⟩ := Option.isSome_iff_exists.1 spa.some1; obtain ⟨c2spa, hc2spa⟩ := Option.isSome_iff_exists.1 spa.some2; obtain ⟨c3spa, hc3spa⟩ := Option.isSome_iff_exists.1 spa.some3; have hf0spa := spa.free0; have hf1spa := spa.free1; have hf2spa := spa.free2; have hf3spa := spa.free3; have hl0spa := spa.lt; obtain ⟨c0spb, hc0spb⟩ := Option.isSome_iff_exists.1 spb.some0; obtain ⟨c1spb, hc1spb⟩ := Option.isSome_iff_exists.1 spb.some1; obtain ⟨c2spb, hc2spb⟩ := Option.isSome_iff_exists.1 spb.some2; obtain ⟨c3spb, hc3spb⟩ := Option.isSome_iff_exists.1 spb.some3; have hf0spb := spb.free0; have hf1spb := spb.free1; have hf2spb := spb.free2; have hf3spb := spb.free3; have hl0spb := spb.lt) | (have spa := (Spot4.new w3 41).ext hx11; obtain ⟨c0spa, hc0spa⟩ := Option.isSome_iff_exists.1 spa.some0; obtain ⟨c1spa, hc1spa⟩ := Option.isSome_iff_exists.1 spa.some1; obtain ⟨c2spa, hc2spa⟩ := Option.isSome_iff_exists.1 spa.some2; obtain ⟨c3spa, hc3spa⟩ := Option.isSome_iff_exists.1 spa.some3; have hf0spa := spa.free0; have hf1spa := spa.free1; have hf2spa := spa.free2; have hf3spa := spa.free3; have hl0spa := spa.lt) | skip))))
    all_goals
      have e1 := hx11.size
      have e2 := hx12.size
      have l1 := hR1.num.digs.lt
      have l2 := hR1.den.digs.lt
      have l3 := hR2.num.digs.lt
      have l4 := hR2.den.digs.lt
      try simp only [World.size_drew, World.size_alloc] at e1 e2 hbk1 hbm1 hbk2 hbm2
      have hpx := hR1.ext hxv2
      go_wp2_with fail
      go_meet
      refine ⟨_, _, rfl, rfl, ?_⟩
      with_reducible first
        | refine TwoQ.stored ?_ ?_ ?_ ?_ ?_ hpx hR2 ?_ ?_ hxk2
        | refine TwoQ.half _ ?_ ?_ hpx hR2 ?_ ?_ hxk2
        | refine TwoQ.swap (TwoQ.half _ ?_ ?_ hR2 hpx ?_ ?_ hxk2)
        | refine TwoQ.both _ hpx hR2 ?_ ?_ hxk2
        | refine TwoQ.swap (TwoQ.both _ hR2 hpx ?_ ?_ hxk2)
      all_goals first
        | assumption
        | omega
        | (refine ⟨?_, ?_, ?_, ?_⟩ <;> intro hA a ha <;> first
            | (have g1 := hbk1 a ha; have g2 := l1 hA a ha; omega)
            | (have g1 := hbm1 a ha; have g2 := l2 hA a ha; omega)
            | (have g1 := hbk2 a ha; have g2 := l3 hA a ha; omega)
            | (have g1 := hbm2 a ha; have g2 := l4 hA a ha; omega))
  case rest =>
    obtain ⟨C, F, rfl, rfl, hT⟩ := hcut
    rw [divInt_sub_same (by omega), divInt_sub_same (by omega)] at hT
    clear k1 k2 f1 f2 f3 hb1' hb2' hb3' h2 h3
    obtain ⟨xe, hxe⟩ : ∃ xe, E - b = xe := ⟨_, rfl⟩
    obtain ⟨ye, hye⟩ : ∃ ye, E - a = ye := ⟨_, rfl⟩
    rw [hxe, hye] at hT
    have hcx := cmp_zero (x := xe) hD.1
    have hcy := cmp_zero (x := ye) hD.1
    have HZ : Hid (Rat.divInt 0 1 = Rat.divInt 0 D') := Lib.hid ((Rat.divInt_eq_divInt_iff (by omega) (by omega)).2 (by simp))
    have HX := Lib.hid hxe
    have HY := Lib.hid hye
    clear hxe hye
    have hxb : -200000000000000 ≤ xe ∧ xe ≤ 200000000000000 := by have := HX.out; omega
    have hyb : -200000000000000 ≤ ye ∧ ye ≤ 200000000000000 := by have := HY.out; omega
    have hT2 := hT
    obtain ⟨nb5, zo5, A5, zc5, mb5, yo5, B5, yc5, nb6, zo6, A6, zc6, mb6, yo6, B6, yc6, hCF, hC3, hF3, hbC, hbF, hoC, hoF, hx4⟩ := hT
    obtain ⟨x0, x1, x2, x3, xl⟩ := id hbC.box
    obtain ⟨n0, n1, n2, n3, nl⟩ := hbn.ext hx4
    obtain ⟨cz, hcz⟩ : ∃ cz, cmpQ (Rat.divInt xe D') (Rat.divInt 0 1) = cz := ⟨_, rfl⟩
    have HC : Hid (cz = if xe < 0 then -1 else if 0 < xe then 1 else 0) := Lib.hid (by rw [← hcz]; exact hcx)
    have hk := fun W h h' => cmp_calls W nb5 mb5 nb4 mb4 zo5 yo5 zo4 yo4 A5 zc5 B5 yc5 A4 zc4 B4 yc4 (Rat.divInt xe D') (Rat.divInt 0 1) h h' (fine_small (by omega) (by omega) (by omega)) (fine_small (by omega) (by omega) (by omega))
    rw [hcz] at hk
    clear hcz hcx
    go_wp2_with fail
    refine (hk _ hbC.num (h4.ext hx4)).mono ?_
    rintro e w6 ⟨rfl, hx6⟩
    have hT3 := hT2.ext hx6
    have hbn6 := hbn.ext (hx4.trans hx6)
    have hbC6 := hbC.ext hx6
    clear n0 n1 n2 n3 nl x0 x1 x2 x3 xl hk hbC hbF hoC hoF hT2
    go_upto_if 22 with fail
    go_cut [] (fun wx => TwoQ w3 wx C F (Rat.divInt (max xe 0) D') (Rat.divInt ye D'))
    case first =>
      obtain ⟨s0, s1, s2, s3, s4, s5, s6, s7, s8⟩ := hbC6.spot
      obtain ⟨c0, hc0⟩ := Option.isSome_iff_exists.1 s1
      obtain ⟨c1, hc1⟩ := Option.isSome_iff_exists.1 s2
      obtain ⟨c2, hc2⟩ := Option.isSome_iff_exists.1 s3
      obtain ⟨c3, hc3⟩ := Option.isSome_iff_exists.1 s4
      obtain ⟨n0, n1, n2, n3, nl⟩ := hbn6
      clear s1 s2 s3 s4
      by_cases hX0 : xe < 0
      · have hcz : cz < 0 := by rw [HC.out, if_pos hX0]; omega
        have hT4 := hT3.fill (zc := zc4) (yc := yc4) h4
        rw [HZ.out, ← show max xe 0 = 0 by omega] at hT4
        clear hT3
        go_wp2_with fail
        go_meet
        exact hT4
      · have hcz : 0 ≤ cz := by rw [HC.out, if_neg hX0]; split <;> omega
        have hT4 := hT3
        rw [← show max xe 0 = xe by omega] at hT4
        clear hT3
        go_wp2_with fail
        go_meet
        exact hT4
    case rest =>
    clear hCF hC3 hF3 hT3 hbC6 hbn6 hx4 hx6 HC
    have hT := hcut
    clear hcut
    have hxe : 0 ≤ max xe 0 ∧ max xe 0 ≤ 200000000000000 := by omega
    have HX2 : Hid (max (E - b) 0 = max xe 0) := Lib.hid (by rw [HX.out])
    generalize max xe 0 = X at *
    have hT2 := hT
    obtain ⟨nb5, zo5, A5, zc5, mb5, yo5, B5, yc5, nb6, zo6, A6, zc6, mb6, yo6, B6, yc6, hCF, hC3, hF3, hbC, hbF, hoC, hoF, hx4⟩ := hT
    obtain ⟨x0, x1, x2, x3, xl⟩ := id hbF.box
    obtain ⟨n0, n1, n2, n3, nl⟩ := hbn.ext hx4
    obtain ⟨cz, hcz⟩ : ∃ cz, cmpQ (Rat.divInt ye D') (Rat.divInt 0 1) = cz := ⟨_, rfl⟩
    have HC : Hid (cz = if ye < 0 then -1 else if 0 < ye then 1 else 0) := Lib.hid (by rw [← hcz]; exact hcy)
    have hk := fun W h h' => cmp_calls W nb6 mb6 nb4 mb4 zo6 yo6 zo4 yo4 A6 zc6 B6 yc6 A4 zc4 B4 yc4 (Rat.divInt ye D') (Rat.divInt 0 1) h h' (fine_small (by omega) (by omega) (by omega)) (fine_small (by omega) (by omega) (by omega))
    rw [hcz] at hk
    clear hcz hcy
    go_wp2_with fail
    refine (hk _ hbF.num (h4.ext hx4)).mono ?_
    rintro e w6 ⟨rfl, hx6⟩
    have hT3 := hT2.ext hx6
    have hbn6 := hbn.ext (hx4.trans hx6)
    have hbF6 := hbF.ext hx6
    clear n0 n1 n2 n3 nl x0 x1 x2 x3 xl hk hbC hbF hoC hoF hT2
    go_upto_if 27 with fail
    go_cut [] (fun wx => TwoQ w3 wx C F (Rat.divInt X D') (Rat.divInt (max ye 0) D'))
    case first =>
      obtain ⟨s0, s1, s2, s3, s4, s5, s6, s7, s8⟩ := hbF6.spot
      obtain ⟨c0, hc0⟩ := Option.isSome_iff_exists.1 s1
      obtain ⟨c1, hc1⟩ := Option.isSome_iff_exists.1 s2
      obtain ⟨c2, hc2⟩ := Option.isSome_iff_exists.1 s3
      obtain ⟨c3, hc3⟩ := Option.isSome_iff_exists.1 s4
      obtain ⟨n0, n1, n2, n3, nl⟩ := hbn6
      clear s1 s2 s3 s4
      by_cases hX0 : ye < 0
      · have hcz : cz < 0 := by rw [HC.out, if_pos hX0]; omega
        have hT4 := (hT3.swap.fill (zc := zc4) (yc := yc4) h4).swap
        rw [HZ.out, ← show max ye 0 = 0 by omega] at hT4
        clear hT3
        go_wp2_with fail
        go_meet
        exact hT4
      · have hcz : 0 ≤ cz := by rw [HC.out, if_neg hX0]; split <;> omega
        have hT4 := hT3
        rw [← show max ye 0 = ye by omega] at hT4
        clear hT3
        go_wp2_with fail
        go_meet
        exact hT4
    case rest =>
    clear hCF hC3 hF3 hT3 hbF6 hbn6 hx4 hx6 HC
    have hT := hcut
    clear hcut
    have hye : 0 ≤ max ye 0 ∧ max ye 0 ≤ 200000000000000 := by omega
    have HY2 : Hid (max (E - a) 0 = max ye 0) := Lib.hid (by rw [HY.out])
    generalize max ye 0 = Y at *
    obtain ⟨nb5, zo5, A5, zc5, mb5, yo5, B5, yc5, nb6, zo6, A6, zc6, mb6, yo6, B6, yc6, hCF, hC3, hF3, hbC, hbF, -, -, hx4⟩ := hT
    have hx14 := hx13.trans hx4
    replace hb1 := hb1.ext hx14
    replace h1 := h1.ext hx4
    have f1 : Fine (Rat.divInt E D') := fine_small (by omega) (by omega) (by omega)
    have f2 : Fine (Rat.divInt X D') := fine_small (by omega) (by omega) (by omega)
    have f3 : Fine (Rat.divInt Y D') := fine_small (by omega) (by omega) (by omega)
    have f4 : Fine (Rat.divInt (X + Y) D') := fine_small (by omega) (by omega) (by omega)
    have f5 : Fine (Rat.divInt (E - (X + Y)) D') := fine_small (by omega) (by omega) (by omega)
    have f6 : Fine (Rat.divInt 1 2) := fine_small (by omega) (by omega) (by omega)
    go_upto_region 7 with fail
    go_cut [11] (fun s11 wx => ∃ H nb zo A zc mb yo B yc, s11 = .pointer (some ⟨H, 0, none⟩) ∧ wc.heap.size ≤ H ∧ BoxQ wx H (Rat.divInt (E - (X + Y)) D' * Rat.divInt 1 2) nb zo A zc mb yo B yc ∧ Ext wc wx)
    case first =>
      go_region_held3 (fun w' => (w'.cell? ⟨R, 0, none⟩ = some (.bool nb1)) ∧ (w'.cell? ⟨R, 1, none⟩ = some (.slice zo1 A1 zc1)) ∧ (w'.cell? ⟨R, 2, none⟩ = some (.bool mb1)) ∧ (w'.cell? ⟨R, 3, none⟩ = some (.slice yo1 B1 yc1)) ∧ (w'.cell? ⟨C, 0, none⟩ = some (.bool nb5)) ∧ (w'.cell? ⟨C, 1, none⟩ = some (.slice zo5 A5 zc5)) ∧ (w'.cell? ⟨C, 2, none⟩ = some (.bool mb5)) ∧ (w'.cell? ⟨C, 3, none⟩ = some (.slice yo5 B5 yc5)) ∧ (w'.cell? ⟨F, 0, none⟩ = some (.bool nb6)) ∧ (w'.cell? ⟨F, 1, none⟩ = some (.slice zo6 A6 zc6)) ∧ (w'.cell? ⟨F, 2, none⟩ = some (.bool mb6)) ∧ (w'.cell? ⟨F, 3, none⟩ = some (.slice yo6 B6 yc6)))
        (exact q12 hb1 hbC.box hbF.box (by repeat (with_reducible first | exact Ext.refl _ | assumption | refine Ext.alloc ?_ _ | refine Ext.drew ?_ | (refine Ext.setOwn ?_ _ _ (by first | exact Nat.le_refl _ | exact hxk1.size | exact hxk2.size | exact hxk3.size | exact hxk4.size | exact Nat.le_succ _ | exact Nat.le_succ_of_le hxk1.size | exact Nat.le_succ_of_le hxk2.size)))))
        ((first
          | (go_at_call 86; refine (mul_calls _ nb8 mb8 nb9 mb9 zo8 yo8 zo9 yo9 A8 zc8 B8 yc8 A9 zc9 B9 yc9 _ _ (hR8.ext (hxv9.trans (by repeat (with_reducible first | exact Ext.refl _ | assumption | refine Ext.alloc ?_ _ | refine Ext.drew ?_ | (refine Ext.setOwn ?_ _ _ (by first | exact Nat.le_refl _ | exact hxk1.size | exact hxk2.size | exact hxk3.size | exact hxk4.size | exact Nat.le_succ _ | exact Nat.le_succ_of_le hxk1.size | exact Nat.le_succ_of_le hxk2.size)))))) (hR9.ext (by repeat (with_reducible first | exact Ext.refl _ | assumption | refine Ext.alloc ?_ _ | refine Ext.drew ?_ | (refine Ext.setOwn ?_ _ _ (by first | exact Nat.le_refl _ | exact hxk1.size | exact hxk2.size | exact hxk3.size | exact hxk4.size | exact Nat.le_succ _ | exact Nat.le_succ_of_le hxk1.size | exact Nat.le_succ_of_le hxk2.size))))) f5 f6).mono ?_; rintro e v10 ⟨nb0, zo0, A0, zc0, mb0, yo0, B0, yc0, rfl, hR0, hbk0, hbm0, hx20⟩; have hxv10 : Ext v9 v10 := Ext.trans (by repeat (with_reducible first | exact Ext.refl _ | assumption | refine Ext.alloc ?_ _ | refine Ext.drew ?_ | (refine Ext.setOwn ?_ _ _ (by first | exact Nat.le_refl _ | exact hxk1.size | exact hxk2.size | exact hxk3.size | exact hxk4.size | exact Nat.le_succ _ | exact Nat.le_succ_of_le hxk1.size | exact Nat.le_succ_of_le hxk2.size)))) hx20; have hxk4 : Ext wc v10 := hxk3.trans hxv10; (first | (have sq4 := ((Spot4.new v9 41).ext ((Ext.refl _).drew)).ext hx20; obtain ⟨c0sq4, hc0sq4⟩ := Option.isSome_iff_exists.1 sq4.some0; obtain ⟨c1sq4, hc1sq4⟩ := Option.isSome_iff_exists.1 sq4.some1; obtain ⟨c2sq4, hc2sq4⟩ := Option.isSome_iff_exists.1 sq4.some2; obtain ⟨c3sq4, hc3sq4⟩ := Option.isSome_iff_exists.1 sq4.some3; have hf0sq4 := sq4.free0; have hf1sq4 := sq4.free1; have hf2sq4 := sq4.free2; have hf3sq4 := sq4.free3; have hl0sq4 := sq4.lt) | (have sq4 := (Spot4.new v9 41).ext hx20; obtain ⟨c0sq4, hc0sq4⟩ := Option.isSome_iff_exists.1 sq4.some0; obtain ⟨c1sq4, hc1sq4⟩ := Option.isSome_iff_exists.1 sq4.some1; obtain ⟨c2sq4, hc2sq4⟩ := Option.isSome_iff_exists.1 sq4.some2; obtain ⟨c3sq4, hc3sq4⟩ := Option.isSome_iff_exists.1 sq4.some3; have hf0sq4 := sq4.free0; have hf1sq4 := sq4.free1; have hf2sq4 := sq4.free2; have hf3sq4 := sq4.free3; have hl0sq4 := sq4.lt) | (have sq4 := sq3.ext hxv10; obtain ⟨c0sq4, hc0sq4⟩ := Option.isSome_iff_exists.1 sq4.some0; obtain ⟨c1sq4, hc1sq4⟩ := Option.isSome_iff_exists.1 sq4.some1; obtain ⟨c2sq4, hc2sq4⟩ := Option.isSome_iff_exists.1 sq4.some2; obtain ⟨c3sq4, hc3sq4⟩ := Option.isSome_iff_exists.1 sq4.some3; have hf0sq4 := sq4.free0; have hf1sq4 := sq4.free1; have hf2sq4 := sq4.free2; have hf3sq4 := sq4.free3; have hl0sq4 := sq4.lt) | skip))
          | (go_at_call 31; refine (frac_calls _ 1 2 (by omega) (by omega) (by omega)).mono ?_; rintro e v9 ⟨nb9, zo9, A9, zc9, mb9, yo9, B9, yc9, rfl, hR9, hbk9, hbm9, hx19⟩; have hxv9 : Ext v8 v9 := Ext.trans (by repeat (with_reducible first | exact Ext.refl _ | assumption | refine Ext.alloc ?_ _ | refine Ext.drew ?_ | (refine Ext.setOwn ?_ _ _ (by first | exact Nat.le_refl _ | exact hxk1.size | exact hxk2.size | exact hxk3.size | exact hxk4.size | exact Nat.le_succ _ | exact Nat.le_succ_of_le hxk1.size | exact Nat.le_succ_of_le hxk2.size)))) hx19; have hxk3 : Ext wc v9 := hxk2.trans hxv9; (first | (have sq3 := ((Spot4.new v8 41).ext ((Ext.refl _).drew)).ext hx19; obtain ⟨c0sq3, hc0sq3⟩ := Option.isSome_iff_exists.1 sq3.some0; obtain ⟨c1sq3, hc1sq3⟩ := Option.isSome_iff_exists.1 sq3.some1; obtain ⟨c2sq3, hc2sq3⟩ := Option.isSome_iff_exists.1 sq3.some2; obtain ⟨c3sq3, hc3sq3⟩ := Option.isSome_iff_exists.1 sq3.some3; have hf0sq3 := sq3.free0; have hf1sq3 := sq3.free1; have hf2sq3 := sq3.free2; have hf3sq3 := sq3.free3; have hl0sq3 := sq3.lt) | (have sq3 := (Spot4.new v8 41).ext hx19; obtain ⟨c0sq3, hc0sq3⟩ := Option.isSome_iff_exists.1 sq3.some0; obtain ⟨c1sq3, hc1sq3⟩ := Option.isSome_iff_exists.1 sq3.some1; obtain ⟨c2sq3, hc2sq3⟩ := Option.isSome_iff_exists.1 sq3.some2; obtain ⟨c3sq3, hc3sq3⟩ := Option.isSome_iff_exists.1 sq3.some3; have hf0sq3 := sq3.free0; have hf1sq3 := sq3.free1; have hf2sq3 := sq3.free2; have hf3sq3 := sq3.free3; have hl0sq3 := sq3.lt) | (have sq3 := sq2.ext hxv9; obtain ⟨c0sq3, hc0sq3⟩ := Option.isSome_iff_exists.1 sq3.some0; obtain ⟨c1sq3, hc1sq3⟩ := Option.isSome_iff_exists.1 sq3.some1; obtain ⟨c2sq3, hc2sq3⟩ := Option.isSome_iff_exists.1 sq3.some2; obtain ⟨c3sq3, hc3sq3⟩ := Option.isSome_iff_exists.1 sq3.some3; have hf0sq3 := sq3.free0; have hf1sq3 := sq3.free1; have hf2sq3 := sq3.free2; have hf3sq3 := sq3.free3; have hl0sq3 := sq3.lt) | skip))
          | (go_at_call 89; refine (sub_calls _ nb1 mb1 nb7 mb7 zo1 yo1 zo7 yo7 A1 zc1 B1 yc1 A7 zc7 B7 yc7 _ _ (h1.ext (hxk1.trans (by repeat (with_reducible first | exact Ext.refl _ | assumption | refine Ext.alloc ?_ _ | refine Ext.drew ?_ | (refine Ext.setOwn ?_ _ _ (by first | exact Nat.le_refl _ | exact hxk1.size | exact hxk2.size | exact hxk3.size | exact hxk4.size | exact Nat.le_succ _ | exact Nat.le_succ_of_le hxk1.size | exact Nat.le_succ_of_le hxk2.size)))))) (hR7.ext (by repeat (with_reducible first | exact Ext.refl _ | assumption | refine Ext.alloc ?_ _ | refine Ext.drew ?_ | (refine Ext.setOwn ?_ _ _ (by first | exact Nat.le_refl _ | exact hxk1.size | exact hxk2.size | exact hxk3.size | exact hxk4.size | exact Nat.le_succ _ | exact Nat.le_succ_of_le hxk1.size | exact Nat.le_succ_of_le hxk2.size))))) f1 f4).mono ?_; rintro e v8 ⟨nb8, zo8, A8, zc8, mb8, yo8, B8, yc8, rfl, hR8, hbk8, hbm8, hx18⟩; rw [divInt_sub_same (by omega)] at hR8; have hxv8 : Ext v7 v8 := Ext.trans (by repeat (with_reducible first | exact Ext.refl _ | assumption | refine Ext.alloc ?_ _ | refine Ext.drew ?_ | (refine Ext.setOwn ?_ _ _ (by first | exact Nat.le_refl _ | exact hxk1.size | exact hxk2.size | exact hxk3.size | exact hxk4.size | exact Nat.le_succ _ | exact Nat.le_succ_of_le hxk1.size | exact Nat.le_succ_of_le hxk2.size)))) hx18; have hxk2 : Ext wc v8 := hxk1.trans hxv8; (first | (have sq2 := ((Spot4.new v7 41).ext ((Ext.refl _).drew)).ext hx18; obtain ⟨c0sq2, hc0sq2⟩ := Option.isSome_iff_exists.1 sq2.some0; obtain ⟨c1sq2, hc1sq2⟩ := Option.isSome_iff_exists.1 sq2.some1; obtain ⟨c2sq2, hc2sq2⟩ := Option.isSome_iff_exists.1 sq2.some2; obtain ⟨c3sq2, hc3sq2⟩ := Option.isSome_iff_exists.1 sq2.some3; have hf0sq2 := sq2.free0; have hf1sq2 := sq2.free1; have hf2sq2 := sq2.free2; have hf3sq2 := sq2.free3; have hl0sq2 := sq2.lt) | (have sq2 := (Spot4.new v7 41).ext hx18; obtain ⟨c0sq2, hc0sq2⟩ := Option.isSome_iff_exists.1 sq2.some0; obtain ⟨c1sq2, hc1sq2⟩ := Option.isSome_iff_exists.1 sq2.some1; obtain ⟨c2sq2, hc2sq2⟩ := Option.isSome_iff_exists.1 sq2.some2; obtain ⟨c3sq2, hc3sq2⟩ := Option.isSome_iff_exists.1 sq2.some3; have hf0sq2 := sq2.free0; have hf1sq2 := sq2.free1; have hf2sq2 := sq2.free2; have hf3sq2 := sq2.free3; have hl0sq2 := sq2.lt) | (have sq2 := sq1.ext hxv8; obtain ⟨c0sq2, hc0sq2⟩ := Option.isSome_iff_exists.1 sq2.some0; obtain ⟨c1sq2, hc1sq2⟩ := Option.isSome_iff_exists.1 sq2.some1; obtain ⟨c2sq2, hc2sq2⟩ := Option.isSome_iff_exists.1 sq2.some2; obtain ⟨c3sq2, hc3sq2⟩ := Option.isSome_iff_exists.1 sq2.some3; have hf0sq2 := sq2.free0; have hf1sq2 := sq2.free1; have hf2sq2 := sq2.free2; have hf3sq2 := sq2.free3; have hl0sq2 := sq2.lt) | skip))
          | (go_at_call 30; refine (add_calls _ nb5 mb5 nb6 mb6 zo5 yo5 zo6 yo6 A5 zc5 B5 yc5 A6 zc6 B6 yc6 _ _ (hbC.num.ext (by repeat (with_reducible first | exact Ext.refl _ | assumption | refine Ext.alloc ?_ _ | refine Ext.drew ?_ | (refine Ext.setOwn ?_ _ _ (by first | exact Nat.le_refl _ | exact hxk1.size | exact hxk2.size | exact hxk3.size | exact hxk4.size | exact Nat.le_succ _ | exact Nat.le_succ_of_le hxk1.size | exact Nat.le_succ_of_le hxk2.size))))) (hbF.num.ext (by repeat (with_reducible first | exact Ext.refl _ | assumption | refine Ext.alloc ?_ _ | refine Ext.drew ?_ | (refine Ext.setOwn ?_ _ _ (by first | exact Nat.le_refl _ | exact hxk1.size | exact hxk2.size | exact hxk3.size | exact hxk4.size | exact Nat.le_succ _ | exact Nat.le_succ_of_le hxk1.size | exact Nat.le_succ_of_le hxk2.size))))) f2 f3).mono ?_; rintro e v7 ⟨nb7, zo7, A7, zc7, mb7, yo7, B7, yc7, rfl, hR7, hbk7, hbm7, hx17⟩; rw [divInt_add_same (by omega)] at hR7; have hxk1 : Ext wc v7 := Ext.trans (by repeat (with_reducible first | exact Ext.refl _ | assumption | refine Ext.alloc ?_ _ | refine Ext.drew ?_ | (refine Ext.setOwn ?_ _ _ (by first | exact Nat.le_refl _ | exact hxk1.size | exact hxk2.size | exact hxk3.size | exact hxk4.size | exact Nat.le_succ _ | exact Nat.le_succ_of_le hxk1.size | exact Nat.le_succ_of_le hxk2.size)))) hx17; (first | (have sq1 := ((Spot4.new wc 41).ext ((Ext.refl _).drew)).ext hx17; obtain ⟨c0sq1, hc0sq1⟩ := Option.isSome_iff_exists.1 sq1.some0; obtain ⟨c1sq1, hc1sq1⟩ := Option.isSome_iff_exists.1 sq1.some1; obtain ⟨c2sq1, hc2sq1⟩ := Option.isSome_iff_exists.1 sq1.some2; obtain ⟨c3sq1, hc3sq1⟩ := Option.isSome_iff_exists.1 sq1.some3; have hf0sq1 := sq1.free0; have hf1sq1 := sq1.free1; have hf2sq1 := sq1.free2; have hf3sq1 := sq1.free3; have hl0sq1 := sq1.lt) | (have sq1 := (Spot4.new wc 41).ext hx17; obtain ⟨c0sq1, hc0sq1⟩ := Option.isSome_iff_exists.1 sq1.some0; obtain ⟨c1sq1, hc1sq1⟩ := Option.isSome_iff_exists.1 sq1.some1; obtain ⟨c2sq1, hc2sq1⟩ := Option.isSome_iff_exists.1 sq1.some2; obtain ⟨c3sq1, hc3sq1⟩ := Option.isSome_iff_exists.1 sq1.some3; have hf0sq1 := sq1.free0; have hf1sq1 := sq1.free1; have hf2sq1 := sq1.free2; have hf3sq1 := sq1.free3; have hl0sq1 := sq1.lt) | skip))))
      all_goals
        have l1 := hR0.num.digs.lt
        have l2 := hR0.den.digs.lt
        have e0 := hx17.size
        have e1 := hx18.size
        have e2 := hx19.size
        have e3 := hx20.size
        try simp only [World.size_drew, World.size_alloc] at e0 e1 e2 e3 hbk0 hbm0
        go_wp2_with fail
        go_meet
        with_reducible first
          | refine ⟨_, _, _, _, _, _, _, _, _, rfl, ?_, BoxQ.made _ hR0, hxk4.alloc _⟩
          | refine ⟨_, _, _, _, _, _, _, _, _, rfl, ?_, BoxQ.put (by assumption) hR0 ?_ ?_, hxk4.onto (grown_put4 _ _ _ _ _ _) ?_⟩
      all_goals first
        | omega
        | (intro hA a ha; have g1 := hbk0 a ha; omega)
        | (intro hA a ha; have g1 := hbm0 a ha; omega)
        | (intro k hk; simp only [Option.some.injEq] at hk; omega)
    case rest =>
    obtain ⟨H, nb7, zo7, A7, zc7, mb7, yo7, B7, yc7, rfl, hH, hbH, hxc⟩ := hcut
    have hx1c := hx14.trans hxc
    have hs4c := hs4.ext hx1c
    have hs5c := hs5.ext hx1c
    replace hbC := hbC.ext hxc
    replace hbF := hbF.ext hxc
    have hhalf : Rat.divInt (E - (X + Y)) D' * Rat.divInt 1 2 = Rat.divInt (E - (X + Y)) (2 * D') := by
      rw [Rat.divInt_mul_divInt]
      exact (Rat.divInt_eq_divInt_iff (by omega) (by omega)).2 (by rw [Int.mul_one, Int.mul_comm 2 D'])
    rw [hhalf] at hbH
    have hdbl : ∀ Z : Int, Rat.divInt Z D' = Rat.divInt (2 * Z) (2 * D') := fun Z => (Rat.divInt_eq_divInt_iff (by omega) (by omega)).2 (by ac_rfl)
    rw [hdbl] at hbC hbF
    have f7 : Fine (Rat.divInt (2 * X) (2 * D')) := fine_small (by omega) (by omega) (by omega)
    have f8 : Fine (Rat.divInt (2 * Y) (2 * D')) := fine_small (by omega) (by omega) (by omega)
    have f9 : Fine (Rat.divInt (E - (X + Y)) (2 * D')) := fine_small (by omega) (by omega) (by omega)
    have e1 : 2 * X + (E - (X + Y)) = contP E a b := by have := HX2.out; have := HY2.out; unfold contP; omega
    have e2 : 2 * Y + (E - (X + Y)) = 2 * E - contP E a b := by omega
    have z1 := hs5.lt
    have z2 := hx13.size
    have z3 := hx4.size
    have m1 : C ≠ R + 1 + 1 + 1 := by omega
    have m2 : F ≠ R + 1 + 1 + 1 := by omega
    have m3 : H ≠ R + 1 + 1 + 1 := by omega
    have m4 : C ≠ R + 1 + 1 + 1 + 1 := by omega
    have m5 : F ≠ R + 1 + 1 + 1 + 1 := by omega
    have m6 : H ≠ R + 1 + 1 + 1 + 1 := by omega
    have HE1 := Lib.hid e1
    have HE2 := Lib.hid e2
    clear e1 e2 hdbl hhalf
    go_wp2_with fail
    go_region_held3 (fun w' => (w'.cell? ⟨C, 0, none⟩ = some (.bool nb5)) ∧ (w'.cell? ⟨C, 1, none⟩ = some (.slice zo5 A5 zc5)) ∧ (w'.cell? ⟨C, 2, none⟩ = some (.bool mb5)) ∧ (w'.cell? ⟨C, 3, none⟩ = some (.slice yo5 B5 yc5)) ∧ (w'.cell? ⟨F, 0, none⟩ = some (.bool nb6)) ∧ (w'.cell? ⟨F, 1, none⟩ = some (.slice zo6 A6 zc6)) ∧ (w'.cell? ⟨F, 2, none⟩ = some (.bool mb6)) ∧ (w'.cell? ⟨F, 3, none⟩ = some (.slice yo6 B6 yc6)) ∧ (w'.cell? ⟨H, 0, none⟩ = some (.bool nb7)) ∧ (w'.cell? ⟨H, 1, none⟩ = some (.slice zo7 A7 zc7)) ∧ (w'.cell? ⟨H, 2, none⟩ = some (.bool mb7)) ∧ (w'.cell? ⟨H, 3, none⟩ = some (.slice yo7 B7 yc7)))
      (first | with_reducible exact q12put (q12put (q12 hbC.box hbF.box hbH.box hxk2) m1 m2 m3) m4 m5 m6 | with_reducible exact q12put (q12 hbC.box hbF.box hbH.box hxk2) m1 m2 m3 | exact q12 hbC.box hbF.box hbH.box (by repeat (with_reducible first | exact Ext.refl _ | assumption | refine Ext.alloc ?_ _ | refine Ext.drew ?_ | (refine Ext.setOwn ?_ _ _ (by first | exact Nat.le_refl _ | exact hxk1.size | exact hxk2.size | exact hxk3.size | exact hxk4.size | exact Nat.le_succ _ | exact Nat.le_succ_of_le hxk1.size | exact Nat.le_succ_of_le hxk2.size)))))
      ((first
        | (go_at_call 30; refine (add_calls _ nb6 mb6 nb7 mb7 zo6 yo6 zo7 yo7 A6 zc6 B6 yc6 A7 zc7 B7 yc7 _ _ (hbF.num.ext (hxk1.trans (by repeat (with_reducible first | exact Ext.refl _ | assumption | refine Ext.alloc ?_ _ | refine Ext.drew ?_ | (refine Ext.setOwn ?_ _ _ (by first | exact Nat.le_refl _ | exact hxk1.size | exact hxk2.size | exact hxk3.size | exact hxk4.size | exact Nat.le_succ _ | exact Nat.le_succ_of_le hxk1.size | exact Nat.le_succ_of_le hxk2.size)))))) (hbH.num.ext (hxk1.trans (by repeat (with_reducible first | exact Ext.refl _ | assumption | refine Ext.alloc ?_ _ | refine Ext.drew ?_ | (refine Ext.setOwn ?_ _ _ (by first | exact Nat.le_refl _ | exact hxk1.size | exact hxk2.size | exact hxk3.size | exact hxk4.size | exact Nat.le_succ _ | exact Nat.le_succ_of_le hxk1.size | exact Nat.le_succ_of_le hxk2.size)))))) f8 f9).mono ?_; rintro e v9 ⟨nb9, zo9, A9, zc9, mb9, yo9, B9, yc9, rfl, hR9, hbk9, hbm9, hx19⟩; rw [divInt_add_same (by omega), HE2.out] at hR9; have hxv9 : Ext v8 v9 := Ext.trans (by repeat (with_reducible first | exact Ext.refl _ | assumption | refine Ext.alloc ?_ _ | refine Ext.drew ?_ | (refine Ext.setOwn ?_ _ _ (by first | exact Nat.le_refl _ | exact hxk1.size | exact hxk2.size | exact hxk3.size | exact hxk4.size | exact Nat.le_succ _ | exact Nat.le_succ_of_le hxk1.size | exact Nat.le_succ_of_le hxk2.size)))) hx19; have hxk2 : Ext wc v9 := hxk1.trans hxv9; have sr := hs4c.ext hxk2; have st := hs5c.ext hxk2; obtain ⟨c0sr, hc0sr⟩ := Option.isSome_iff_exists.1 sr.some0; obtain ⟨c1sr, hc1sr⟩ := Option.isSome_iff_exists.1 sr.some1; obtain ⟨c2sr, hc2sr⟩ := Option.isSome_iff_exists.1 sr.some2; obtain ⟨c3sr, hc3sr⟩ := Option.isSome_iff_exists.1 sr.some3; have hf0sr := sr.free0; have hf1sr := sr.free1; have hf2sr := sr.free2; have hf3sr := sr.free3; have hl0sr := sr.lt; obtain ⟨c0st, hc0st⟩ := Option.isSome_iff_exists.1 st.some0; obtain ⟨c1st, hc1st⟩ := Option.isSome_iff_exists.1 st.some1; obtain ⟨c2st, hc2st⟩ := Option.isSome_iff_exists.1 st.some2; obtain ⟨c3st, hc3st⟩ := Option.isSome_iff_exists.1 st.some3; have hf0st := st.free0; have hf1st := st.free1; have hf2st := st.free2; have hf3st := st.free3; have hl0st := st.lt)
        | (go_at_call 30; refine (add_calls _ nb5 mb5 nb7 mb7 zo5 yo5 zo7 yo7 A5 zc5 B5 yc5 A7 zc7 B7 yc7 _ _ (hbC.num.ext (by repeat (with_reducible first | exact Ext.refl _ | assumption | refine Ext.alloc ?_ _ | refine Ext.drew ?_ | (refine Ext.setOwn ?_ _ _ (by first | exact Nat.le_refl _ | exact hxk1.size | exact hxk2.size | exact hxk3.size | exact hxk4.size | exact Nat.le_succ _ | exact Nat.le_succ_of_le hxk1.size | exact Nat.le_succ_of_le hxk2.size))))) (hbH.num.ext (by repeat (with_reducible first | exact Ext.refl _ | assumption | refine Ext.alloc ?_ _ | refine Ext.drew ?_ | (refine Ext.setOwn ?_ _ _ (by first | exact Nat.le_refl _ | exact hxk1.size | exact hxk2.size | exact hxk3.size | exact hxk4.size | exact Nat.le_succ _ | exact Nat.le_succ_of_le hxk1.size | exact Nat.le_succ_of_le hxk2.size))))) f7 f9).mono ?_; rintro e v8 ⟨nb8, zo8, A8, zc8, mb8, yo8, B8, yc8, rfl, hR8, hbk8, hbm8, hx18⟩; rw [divInt_add_same (by omega), HE1.out] at hR8; have hxk1 : Ext wc v8 := Ext.trans (by repeat (with_reducible first | exact Ext.refl _ | assumption | refine Ext.alloc ?_ _ | refine Ext.drew ?_ | (refine Ext.setOwn ?_ _ _ (by first | exact Nat.le_refl _ | exact hxk1.size | exact hxk2.size | exact hxk3.size | exact hxk4.size | exact Nat.le_succ _ | exact Nat.le_succ_of_le hxk1.size | exact Nat.le_succ_of_le hxk2.size)))) hx18)))
    have l1 := hR8.num.digs.lt
    have l2 := hR8.den.digs.lt
    have l3 := hR9.num.digs.lt
    have l4 := hR9.den.digs.lt
    have y0 := hx1.size
    have y1 := hxk1.size
    have y2 := hxk2.size
    have y3 := hxc.size
    have y4 := hx18.size
    have y5 := hx19.size
    simp only [World.size_drew] at y4 y5 hbk8 hbm8 hbk9 hbm9
    have o1 : Off zo8 A8 (R + 1 + 1 + 1) ∧ Off yo8 B8 (R + 1 + 1 + 1) ∧ Off zo8 A8 (R + 1 + 1 + 1 + 1) ∧ Off yo8 B8 (R + 1 + 1 + 1 + 1) := by
      refine ⟨?_, ?_, ?_, ?_⟩ <;> intro hA a ha <;> first
        | (have g1 := hbk8 a ha; omega)
        | (have g1 := hbm8 a ha; omega)
    have o2 : Off zo9 A9 (R + 1 + 1 + 1) ∧ Off yo9 B9 (R + 1 + 1 + 1) ∧ Off zo9 A9 (R + 1 + 1 + 1 + 1) ∧ Off yo9 B9 (R + 1 + 1 + 1 + 1) := by
      refine ⟨?_, ?_, ?_, ?_⟩ <;> intro hA a ha <;> first
        | (have g1 := hbk9 a ha; omega)
        | (have g1 := hbm9 a ha; omega)
    have hR8' := hR8.ext hxv9
    have b1 := (BoxQ.put (zc := zc8) (yc := yc8) sr hR8' o1.1 o1.2.1).far (R := R + 1 + 1 + 1 + 1) (by omega) o1.2.2.1 o1.2.2.2 (.bool nb9) (.slice zo9 A9 zc9) (.bool mb9) (.slice yo9 B9 yc9)
    have b2 := BoxQ.put (zc := zc9) (yc := yc9) (st.grown (grown_put4 v9 (R + 1 + 1 + 1) (.bool nb8) (.slice zo8 A8 zc8) (.bool mb8) (.slice yo8 B8 yc8)) (by simp)) (hR9.far (grown_put4 _ _ _ _ _ _) o2.1 o2.2.1) o2.2.2.1 o2.2.2.2
    obtain ⟨r0, r1, r2, r3, -⟩ := b1.box
    obtain ⟨t0, t1, t2, t3, -⟩ := b2.box
    have hxw : Ext w v9 := hx1.trans (hx1c.trans hxk2)
    go_wp2_with fail
    refine bodyPost_ret (v := .tuple #[.agg #[.bool nb8, .slice zo8 A8 zc8, .bool mb8, .slice yo8 B8 yc8], .agg #[.bool nb9, .slice zo9 A9 zc9, .bool mb9, .slice yo9 B9 yc9]]) (by simp [results, Try.results76, go_sem, r0, r1, r2, r3, t0, t1, t2, t3]) rfl ?_
    exact ⟨nb8, zo8, A8, zc8, mb8, yo8, B8, yc8, nb9, zo9, A9, zc9, mb9, yo9, B9, yc9, rfl, b1.num, b2.num, (fun a ha => by have := hbk8 a ha; omega), (fun a ha => by have := hbm8 a ha; omega), (fun a ha => by have := hbk9 a ha; omega), (fun a ha => by have := hbm9 a ha; omega), (hxw.onto (grown_put4 _ _ _ _ _ _) (fun k hk => by simp only [Option.some.injEq] at hk; omega)).onto (grown_put4 _ _ _ _ _ _) (fun k hk => by simp only [Option.some.injEq] at hk; omega)⟩
end Go.Proofs.Ytcngecibljgndaa
