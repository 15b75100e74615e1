/- Inspect: today, from value's contract. -/
import Derived.Test.YtefmioppamdceaaDoorMJD
namespace Go.Proofs.YtefmioppamdceaaDoor
open Go.RowKit Go.Shelf Go.Maps

theorem valR_le (d l : Nat) : valR d l ≤ 1 := by
  cases d with
  | zero => rw [valR]; decide
  | succ d =>
    have h1 := sumR_pos (d + 1) l
    have h4 : choR d l ≤ sumR (d + 1) l := by
      cases l with
      | zero => rw [choR_zero, sumR]; omega
      | succ l => rw [sumR_pascal]; have := choR_le d l; omega
    have e : valR (d + 1) l = Rat.divInt (choR d l : Int) (sumR (d + 1) l : Int) := by rw [valR_eq, Rat.divInt_eq_div]; rfl
    rw [e, Rat.le_iff, divInt_num (by omega), divInt_den (by omega)]
    have hg : (0 : Int) < Int.gcd (choR d l : Int) (sumR (d + 1) l : Int) := by have := Int.gcd_pos_of_ne_zero_right (choR d l : Int) (show (sumR (d + 1) l : Int) ≠ 0 by omega); omega
    have := Int.ediv_le_ediv hg (show (choR d l : Int) ≤ (sumR (d + 1) l : Int) by omega)
    simpa using this
/-- The divisor of today is above 0. -/
theorem den_pos (d l k : Nat) : 0 < (2 + (valR d l - valR d k)).num := by
  have h1 := valR_ge d l
  have h2 := valR_le d k
  have h3 : 0 < 2 + (valR d l - valR d k) := by grind
  rw [Rat.lt_iff] at h3
  simpa using h3
theorem R1 : RBd (1 : Rat) 1 := ⟨by decide, by decide⟩
theorem R2 : RBd (2 : Rat) 2 := ⟨by decide, by decide⟩
theorem den_bd (d l k : Nat) (hd : d ≤ 14) : RBd (2 + (valR d l - valR d k)) 2147483648 := by
  have h := R2.add ((valR_bd d l hd).sub (valR_bd d k hd))
  exact h
theorem look_bd (d l : Nat) (hd : d ≤ 14) (h0 : 0 < l) (h : l < d) : RBd (lookR d l) 70368744177664 := by
  rw [lookR, if_neg (by omega), if_neg (by omega)]
  have h1 := (R1.sub (valR_bd (d - 1) l (by omega))).div (den_bd (d - 1) (l - 1) l (by omega)) (den_pos _ _ _)
  exact h1
theorem Spot.two (w : World) (s t : TypeId) (u v x y : Value) : Spot ((w.alloc (.cells #[u, v] s)).alloc (.cells #[x, y] t)) w.heap.size :=
  (Spot.new w s u v).ext ((Ext.refl _).alloc _)
theorem Spot.two2 (w : World) (s t : TypeId) (u v x y : Value) : Spot ((w.alloc (.cells #[u, v] s)).alloc (.cells #[x, y] t)) (w.heap.size + 1) := by
  have h := Spot.new (w.alloc (.cells #[u, v] s)) t x y
  rwa [World.size_alloc] at h
theorem grown_alloc {w x : World} {r : Option Nat} (h : w.grownBy x r) (o : Obj) : w.grownBy (x.alloc o) r := grownBy_ext h ((Ext.refl _).alloc _)
theorem grown_drew {w x : World} {r : Option Nat} (h : w.grownBy x r) : w.grownBy x.drew r := grownBy_ext h ((Ext.refl _).drew)
theorem grown_set {w x : World} {r : Option Nat} (h : w.grownBy x r) (p : Addr) (u : Value) (hb : w.heap.size ≤ p.block) : w.grownBy (x.setCell p u) r := grownBy_onto h (grownBy_setCell _ _ _) (fun k hk => .inl (by cases hk; exact hb))
theorem memo_alloc {x : World} {m n : Nat} (h : Memo x m n) (o : Obj) : Memo (x.alloc o) m n := h.ext ((Ext.refl _).alloc _)
theorem memo_drew {x : World} {m n : Nat} (h : Memo x m n) : Memo x.drew m n := h.ext ((Ext.refl _).drew)
theorem memo_set {x : World} {m n : Nat} (h : Memo x m n) (p : Addr) (u : Value) (hb : m ≠ p.block) : Memo (x.setCell p u) m n := h.kept (grownBy_setCell _ _ _) (by simp; exact hb)
theorem two_cells {w w' : World} {W m : Nat} {x y : Option Value} (h1 : w.cell? ⟨W, 0, none⟩ = x) (h2 : w.cell? ⟨W, 1, none⟩ = y) (hW : W < w.heap.size) (hmW : m < W) (hg : w.grownBy w' (some m)) : w'.cell? ⟨W, 0, none⟩ = x ∧ w'.cell? ⟨W, 1, none⟩ = y :=
  ⟨(grownBy_cell (p := ⟨W, 0, none⟩) hg hW (by simp; omega)).trans h1, (grownBy_cell (p := ⟨W, 1, none⟩) hg hW (by simp; omega)).trans h2⟩
theorem Spot.set {y : World} {b : Nat} (h : Spot y b) (c o : Nat) (v : Value) : Spot (y.setCell ⟨c, o, none⟩ v) b := by
  have key : ∀ k, (y.cell? ⟨b, k, none⟩).isSome = true → ((y.setCell ⟨c, o, none⟩ v).cell? ⟨b, k, none⟩).isSome = true := by
    intro k hk
    obtain ⟨x, hx⟩ := Option.isSome_iff_exists.1 hk
    by_cases e : (⟨c, o, none⟩ : Addr) = ⟨b, k, none⟩
    · rw [e, World.cell?_setCell_same _ _ _ hx]; rfl
    · rw [World.cell?_setCell_other _ _ _ _ e, hx]; rfl
  exact ⟨by rw [World.size_setCell]; exact h.lt, key 0 h.some0, key 1 h.some1, by simpa [go_sem] using h.free0, by simpa [go_sem] using h.free1⟩
theorem six_cells2 {w w' : World} {p q : Nat} {x y z u v t : Option Value} (h1 : w.cell? ⟨2, 0, none⟩ = x) (h2 : w.cell? ⟨2, 1, none⟩ = y) (h3 : w.cell? ⟨p, 0, none⟩ = z) (h4 : w.cell? ⟨p, 1, none⟩ = u) (h5 : w.cell? ⟨q, 0, none⟩ = v) (h6 : w.cell? ⟨q, 1, none⟩ = t) (hl : 3 ≤ w.heap.size) (hp : p < w.heap.size) (hq : q < w.heap.size) (hx : Ext w w') :
    w'.cell? ⟨2, 0, none⟩ = x ∧ w'.cell? ⟨2, 1, none⟩ = y ∧ w'.cell? ⟨p, 0, none⟩ = z ∧ w'.cell? ⟨p, 1, none⟩ = u ∧ w'.cell? ⟨q, 0, none⟩ = v ∧ w'.cell? ⟨q, 1, none⟩ = t :=
  ⟨(hx.cell (p := ⟨2, 0, none⟩) (by show 2 < _; omega)).trans h1, (hx.cell (p := ⟨2, 1, none⟩) (by show 2 < _; omega)).trans h2, (hx.cell (p := ⟨p, 0, none⟩) hp).trans h3, (hx.cell (p := ⟨p, 1, none⟩) hp).trans h4, (hx.cell (p := ⟨q, 0, none⟩) hq).trans h5, (hx.cell (p := ⟨q, 1, none⟩) hq).trans h6⟩
/-- What the last part of today needs of the world: the boxes of both worths and of the divisor, the spots of both results, the memo. -/
structure T7 (m k W p q r : Nat) (an ad bn bd dn dd : Int) (w y : World) : Prop where
  g0 : y.cell? ⟨1, 0, none⟩ = some (.int .i64 1)
  g1 : y.cell? ⟨1, 1, none⟩ = some (.int .i64 1)
  p0 : y.cell? ⟨p, 0, none⟩ = some (.int .i64 an)
  p1 : y.cell? ⟨p, 1, none⟩ = some (.int .i64 ad)
  q0 : y.cell? ⟨q, 0, none⟩ = some (.int .i64 bn)
  q1 : y.cell? ⟨q, 1, none⟩ = some (.int .i64 bd)
  r0 : y.cell? ⟨r, 0, none⟩ = some (.int .i64 dn)
  r1 : y.cell? ⟨r, 1, none⟩ = some (.int .i64 dd)
  s1 : Spot y (W + 1)
  s2 : Spot y (W + 1 + 1)
  lt : p < y.heap.size ∧ q < y.heap.size ∧ r < y.heap.size
  far : 1 ≤ W ∧ W + 1 + 1 < p ∧ W + 1 + 1 < q ∧ W + 1 + 1 < r ∧ m < W ∧ w.heap.size ≤ W
  gr : w.grownBy y (some m)
  me : Memo y m k
section
variable {m k W p q r : Nat} {an ad bn bd dn dd : Int} {w y y' : World}
theorem T7.ext (h : T7 m k W p q r an ad bn bd dn dd w y) (hx : Ext y y') : T7 m k W p q r an ad bn bd dn dd w y' := by
  have hf := h.far
  have hl := h.lt
  have hs := h.s1.lt
  have hz := hx.size
  exact ⟨(hx.cell (p := ⟨1, 0, none⟩) (by show 1 < _; omega)).trans h.g0, (hx.cell (p := ⟨1, 1, none⟩) (by show 1 < _; omega)).trans h.g1,
    (hx.cell (p := ⟨p, 0, none⟩) hl.1).trans h.p0, (hx.cell (p := ⟨p, 1, none⟩) hl.1).trans h.p1,
    (hx.cell (p := ⟨q, 0, none⟩) hl.2.1).trans h.q0, (hx.cell (p := ⟨q, 1, none⟩) hl.2.1).trans h.q1,
    (hx.cell (p := ⟨r, 0, none⟩) hl.2.2).trans h.r0, (hx.cell (p := ⟨r, 1, none⟩) hl.2.2).trans h.r1,
    h.s1.ext hx, h.s2.ext hx, ⟨by omega, by omega, by omega⟩, hf, grownBy_ext h.gr hx, h.me.ext hx⟩
theorem T7.drew (h : T7 m k W p q r an ad bn bd dn dd w y) : T7 m k W p q r an ad bn bd dn dd w y.drew := h.ext (Ext.refl _).drew
theorem T7.set (h : T7 m k W p q r an ad bn bd dn dd w y) (c o : Nat) (v : Value) (hc : c = W + 1 ∨ c = W + 1 + 1) : T7 m k W p q r an ad bn bd dn dd w (y.setCell ⟨c, o, none⟩ v) := by
  have hf := h.far
  have hl := h.lt
  have hne : ∀ b i, b < W ∨ W + 1 + 1 < b → (y.setCell ⟨c, o, none⟩ v).cell? ⟨b, i, none⟩ = y.cell? ⟨b, i, none⟩ := by
    intro b i hb
    refine World.cell?_setCell_other _ _ _ _ ?_
    intro h
    simp only [Addr.mk.injEq] at h
    omega
  have hne2 : ∀ i, (y.setCell ⟨c, o, none⟩ v).cell? ⟨1, i, none⟩ = y.cell? ⟨1, i, none⟩ := by
    intro i
    refine World.cell?_setCell_other _ _ _ _ ?_
    intro h
    simp only [Addr.mk.injEq] at h
    omega
  exact ⟨(hne2 _).trans h.g0, (hne2 _).trans h.g1, (hne _ _ (by omega)).trans h.p0, (hne _ _ (by omega)).trans h.p1, (hne _ _ (by omega)).trans h.q0, (hne _ _ (by omega)).trans h.q1, (hne _ _ (by omega)).trans h.r0, (hne _ _ (by omega)).trans h.r1,
    h.s1.set _ _ _, h.s2.set _ _ _, by rw [World.size_setCell]; exact hl, hf, grown_set h.gr _ _ (by show _ ≤ c; omega), memo_set h.me _ _ (by show m ≠ c; omega)⟩
theorem T7.set1 (h : T7 m k W p q r an ad bn bd dn dd w y) (o : Nat) (v : Value) : T7 m k W p q r an ad bn bd dn dd w (y.setCell ⟨W + 1, o, none⟩ v) := h.set _ _ _ (.inl rfl)
theorem T7.set2 (h : T7 m k W p q r an ad bn bd dn dd w y) (o : Nat) (v : Value) : T7 m k W p q r an ad bn bd dn dd w (y.setCell ⟨W + 1 + 1, o, none⟩ v) := h.set _ _ _ (.inr rfl)
theorem T7.held (h : T7 m k W p q r an ad bn bd dn dd w y) : y.cell? ⟨1, 0, none⟩ = some (.int .i64 1) ∧ y.cell? ⟨1, 1, none⟩ = some (.int .i64 1) ∧ y.cell? ⟨p, 0, none⟩ = some (.int .i64 an) ∧ y.cell? ⟨p, 1, none⟩ = some (.int .i64 ad) ∧
    y.cell? ⟨q, 0, none⟩ = some (.int .i64 bn) ∧ y.cell? ⟨q, 1, none⟩ = some (.int .i64 bd) ∧ y.cell? ⟨r, 0, none⟩ = some (.int .i64 dn) ∧ y.cell? ⟨r, 1, none⟩ = some (.int .i64 dd) := ⟨h.g0, h.g1, h.p0, h.p1, h.q0, h.q1, h.r0, h.r1⟩
end
set_option maxRecDepth 100000 in
set_option maxHeartbeats 2000000 in
theorem today_of (d l m n : Nat) (w : World) (hd1 : 0 < d) (hd : d ≤ 14) (hl : l ≤ 14) (hG : Glob w) (hm : 3 ≤ m) (hM : Memo w m n) (hn : n + bud d ≤ 1000000)
    (hV : ∀ l' n' w', l' ≤ 14 → n' + bud (d - 1) ≤ 1000000 → Glob w' → Memo w' m n' → Calls Tryd.prog 27 #[.map (some m), seaV (d - 1) l'] w' (MemoRes w' m (n' + bud (d - 1)) (ratV (valR (d - 1) l')))) :
    Calls Tryd.prog 43 #[.map (some m), seaV d l] w (MemoRes w m (n + bud d - 1) (.tuple #[ratV (lookR d l), ratV (goR d l)])) := by
  have hS : seaV d l = .agg #[.int .i64 d, .int .i64 l] := rfl
  have hb1 : bud d = 2 * bud (d - 1) + 1 := by
    obtain ⟨e, rfl⟩ : ∃ e, d = e + 1 := ⟨d - 1, by omega⟩
    rfl
  have ga0 := hG.a0
  have ga1 := hG.a1
  have gb0 := hG.b0
  have gb1 := hG.b1
  have hg0 : 0 < w.heap.size := by have := hG.lt; omega
  have hg1 : 1 < w.heap.size := by have := hG.lt; omega
  have hn0 : (0 : Nat) ≠ w.heap.size := by omega
  have hn1 : (1 : Nat) ≠ w.heap.size := by omega
  have hn2 : (0 : Nat) ≠ w.heap.size + 1 := by omega
  have hn3 : (1 : Nat) ≠ w.heap.size + 1 := by omega
  have hn4 : (0 : Nat) ≠ w.heap.size + 1 + 1 := by omega
  have hn5 : (1 : Nat) ≠ w.heap.size + 1 + 1 := by omega
  have HM : Hid (Memo w m n) := Lib.hid hM
  have HV := Lib.hid hV
  have hnk : n + bud d - 1 = n + 2 * bud (d - 1) := by omega
  rw [hnk]
  clear hM hV
  by_cases hA : d ≤ l
  · have e1 : ratV (lookR d l) = .agg #[.int .i64 1, .int .i64 1] := by rw [lookR, if_pos hA]; rfl
    have e2 : ratV (goR d l) = .agg #[.int .i64 0, .int .i64 1] := by rw [goR, if_pos hA]; rfl
    have hA' : (d : Int) ≤ (l : Int) := by omega
    rw [e1, e2, hS]
    clear hG e1 e2 HV
    go_enter Tryd.func43, Tryd.ntmps43
    go_wp2_with fail
    go_region
    go_wp2_with fail
    refine bodyPost_ret (v := .tuple #[.agg #[.int .i64 1, .int .i64 1], .agg #[.int .i64 0, .int .i64 1]]) (by simp [results, Tryd.results43, go_sem]) rfl ?_
    exact small_done HM.out (by repeat (first | exact Ext.refl _ | assumption | refine Ext.alloc ?_ _ | refine Ext.drewN ?_ _ | refine Ext.drew ?_))
  · have hA' : ¬ (d : Int) ≤ (l : Int) := by omega
    by_cases hC : l = 0
    · have e1 : ratV (lookR d l) = .agg #[.int .i64 0, .int .i64 1] := by rw [lookR, if_neg hA, if_pos hC]; rfl
      have e2 : ratV (goR d l) = .agg #[.int .i64 1, .int .i64 1] := by rw [goR, if_neg hA, if_pos hC]; rfl
      have hC' : (l : Int) = 0 := by omega
      rw [e1, e2, hS]
      clear hG e1 e2 HV
      go_enter Tryd.func43, Tryd.ntmps43
      go_wp2_with fail
      go_region
      go_wp2_with fail
      refine bodyPost_ret (v := .tuple #[.agg #[.int .i64 0, .int .i64 1], .agg #[.int .i64 1, .int .i64 1]]) (by simp [results, Tryd.results43, go_sem]) rfl ?_
      exact small_done HM.out (by repeat (first | exact Ext.refl _ | assumption | refine Ext.alloc ?_ _ | refine Ext.drewN ?_ _ | refine Ext.drew ?_))
    · have hC' : ¬ (l : Int) = 0 := by omega
      have hMl : m < w.heap.size := HM.out.lt
      have hG1 := Lib.hid hG
      obtain ⟨an, han⟩ : ∃ x, x = (valR (d - 1) (l - 1)).num := ⟨_, rfl⟩
      obtain ⟨ad, had⟩ : ∃ x : Int, x = ((valR (d - 1) (l - 1)).den : Int) := ⟨_, rfl⟩
      obtain ⟨bn, hbn⟩ : ∃ x, x = (valR (d - 1) l).num := ⟨_, rfl⟩
      obtain ⟨bd, hbd⟩ : ∃ x : Int, x = ((valR (d - 1) l).den : Int) := ⟨_, rfl⟩
      have hva : ratV (valR (d - 1) (l - 1)) = .agg #[.int .i64 an, .int .i64 ad] := by rw [ratV, han, had]
      have hvb : ratV (valR (d - 1) l) = .agg #[.int .i64 bn, .int .i64 bd] := by rw [ratV, hbn, hbd]
      have hi1 : ((d - 1 : Nat) : Int) = (d : Int) - 1 := by omega
      have hi2 : ((l - 1 : Nat) : Int) = (l : Int) - 1 := by omega
      have hc1 : ∀ W', Glob W' → Memo W' m n → Calls Tryd.prog 27 #[.map (some m), .agg #[.int .i64 ((d : Int) - 1), .int .i64 ((l : Int) - 1)]] W' (MemoRes W' m (n + bud (d - 1)) (.agg #[.int .i64 an, .int .i64 ad])) := by
        intro W' h1 h2
        have h := HV.out (l - 1) n W' (by omega) (by omega) h1 h2
        rw [hva, seaV, hi1, hi2] at h
        exact h
      have hc2 : ∀ W', Glob W' → Memo W' m (n + bud (d - 1)) → Calls Tryd.prog 27 #[.map (some m), .agg #[.int .i64 ((d : Int) - 1), .int .i64 l]] W' (MemoRes W' m (n + 2 * bud (d - 1)) (.agg #[.int .i64 bn, .int .i64 bd])) := by
        intro W' h1 h2
        have h := HV.out l (n + bud (d - 1)) W' (by omega) (by omega) h1 h2
        rw [hvb, seaV, hi1, show n + bud (d - 1) + bud (d - 1) = n + 2 * bud (d - 1) by omega] at h
        exact h
      have HA := Lib.hid hva
      have HB := Lib.hid hvb
      rw [hS]
      clear hG han had hbn hbd hva hvb hi1 hi2
      go_enter Tryd.func43, Tryd.ntmps43
      go_wp2_with fail
      obtain ⟨w1, hw1⟩ : ∃ w1, w1 = (((w.alloc (Obj.cells #[.int .i64 d, .int .i64 l] 58)).alloc (Obj.cells #[.int .i64 0, .int .i64 0] 23)).alloc (Obj.cells #[.int .i64 0, .int .i64 0] 23)) := ⟨_, rfl⟩
      obtain ⟨W, hW⟩ : ∃ W, W = w.heap.size := ⟨_, rfl⟩
      have hx1 : Ext w w1 := by rw [hw1]; exact (by repeat (first | exact Ext.refl _ | assumption | refine Ext.alloc ?_ _ | refine Ext.drewN ?_ _ | refine Ext.drew ?_))
      have s0 : w1.cell? ⟨W, 0, none⟩ = some (.int .i64 d) := by rw [hw1, hW]; simp [go_sem]
      have s1 : w1.cell? ⟨W, 1, none⟩ = some (.int .i64 l) := by rw [hw1, hW]; simp [go_sem]
      have hsp1 : Spot w1 (W + 1) := by rw [hw1, hW]; exact ⟨by simp, by simp [go_sem], by simp [go_sem], by simp [go_sem], by simp [go_sem]⟩
      have hsp2 : Spot w1 (W + 1 + 1) := by rw [hw1, hW]; exact ⟨by simp, by simp [go_sem], by simp [go_sem], by simp [go_sem], by simp [go_sem]⟩
      have hlW : W + 1 + 1 < w1.heap.size := hsp2.lt
      rw [← hw1, ← hW]
      have hmW : m < W := by omega
      have hWw : w.heap.size ≤ W := by omega
      clear hw1 hW hMl ga0 ga1 gb0 gb1 hg0 hg1 hn0 hn1 hn2 hn3 hn4 hn5
      have hG := hG1.out.ext hx1
      have hM := HM.out.ext hx1
      have hmn : ∀ k, W < k → some k ≠ some m := fun k hk => by simp; omega
      have hWl : W < w1.heap.size := by omega
      have hwd : IntKind.i64.wrap ((d : Int) - 1) = (d : Int) - 1 := by rw [IntKind.wrap_i64]; omega
      have hwl : IntKind.i64.wrap ((l : Int) - 1) = (l : Int) - 1 := by rw [IntKind.wrap_i64]; omega
      have hn1 : some w1.heap.size ≠ some m := hmn _ (by omega)
      have hn2 : some (w1.heap.size + 1) ≠ some m := hmn _ (by omega)
      go_cut [6, 7] (fun s6 s7 wx => ∃ p q, s6 = .pointer (some ⟨p, 0, none⟩) ∧ s7 = .pointer (some ⟨q, 0, none⟩) ∧ (wx.cell? ⟨p, 0, none⟩ = some (.int .i64 an) ∧ wx.cell? ⟨p, 1, none⟩ = some (.int .i64 ad) ∧ wx.cell? ⟨q, 0, none⟩ = some (.int .i64 bn) ∧ wx.cell? ⟨q, 1, none⟩ = some (.int .i64 bd)) ∧ p < wx.heap.size ∧ q < wx.heap.size ∧ (w1.heap.size ≤ p ∧ w1.heap.size ≤ q) ∧ w1.grownBy wx (some m) ∧ Memo wx m (n + 2 * bud (d - 1)))
      case first =>
        go_region_held3 (fun w' => w'.cell? ⟨W, 0, none⟩ = some (.int .i64 d) ∧ w'.cell? ⟨W, 1, none⟩ = some (.int .i64 l))
          (exact two_cells s0 s1 hWl hmW (by repeat (with_reducible first | exact hk2 | exact hk1 | exact Ext.grown (Ext.refl _) _ | refine grown_alloc ?_ _ | refine grown_drew ?_ | (refine grown_set ?_ _ _ ?_; rotate_left; (first | exact Nat.le_refl _ | exact Nat.le_succ _ | exact hk1.size | exact hk2.size | exact Nat.le_succ_of_le hk1.size)))))
          ((first
            | (go_at_call 27; (with_reducible refine Calls.mono (hc1 _ ?_ ?_) ?_); (exact hG.kept (by repeat (with_reducible first | exact hk2 | exact hk1 | exact Ext.grown (Ext.refl _) _ | refine grown_alloc ?_ _ | refine grown_drew ?_ | (refine grown_set ?_ _ _ ?_; rotate_left; (first | exact Nat.le_refl _ | exact Nat.le_succ _ | exact hk1.size | exact hk2.size | exact Nat.le_succ_of_le hk1.size)))) hm); (exact (by repeat (with_reducible first | exact hM | refine memo_alloc ?_ _ | refine memo_drew ?_ | (refine memo_set ?_ _ _ ?_; rotate_left; (first | exact Nat.ne_of_lt (Nat.lt_trans hmW hWl) | exact Nat.ne_of_lt (Nat.lt_succ_of_lt (Nat.lt_trans hmW hWl)) | exact Nat.ne_of_lt (Nat.lt_trans hmW (Nat.lt_of_lt_of_le hWl hk1.size)) | exact Nat.ne_of_lt (Nat.lt_trans hmW (Nat.lt_of_lt_of_le hWl (Nat.le_succ_of_le hk1.size))) | exact Nat.ne_of_lt (Nat.lt_trans hmW (Nat.lt_of_lt_of_le hWl hk2.size))))))); rintro e y1 ⟨rfl, hg1, hM1⟩; have hk1 : w1.grownBy y1 (some m) := grownBy_trans (by repeat (with_reducible first | exact hk2 | exact hk1 | exact Ext.grown (Ext.refl _) _ | refine grown_alloc ?_ _ | refine grown_drew ?_ | (refine grown_set ?_ _ _ ?_; rotate_left; (first | exact Nat.le_refl _ | exact Nat.le_succ _ | exact hk1.size | exact hk2.size | exact Nat.le_succ_of_le hk1.size)))) hg1; (try (have u6 := spot_far ((Spot.new w1 23 (.int .i64 0) (.int .i64 0)).ext (show Ext _ _ from (by with_reducible first | exact Ext.refl _ | exact (Ext.refl _).drew | exact (Ext.refl _).alloc _ | exact ((Ext.refl _).alloc _).drew | exact ((Ext.refl _).alloc _).alloc _))) hg1 hn1)); (try (have u6 := spot_far ((Spot.two w1 23 23 (.int .i64 0) (.int .i64 0) (.int .i64 0) (.int .i64 0)).ext (show Ext _ _ from (by with_reducible first | exact Ext.refl _ | exact (Ext.refl _).drew | exact (Ext.refl _).alloc _ | exact ((Ext.refl _).alloc _).drew | exact ((Ext.refl _).alloc _).alloc _))) hg1 hn1)); (try (have u7 := spot_far ((Spot.two2 w1 23 23 (.int .i64 0) (.int .i64 0) (.int .i64 0) (.int .i64 0)).ext (show Ext _ _ from (by with_reducible first | exact Ext.refl _ | exact (Ext.refl _).drew | exact (Ext.refl _).alloc _ | exact ((Ext.refl _).alloc _).drew | exact ((Ext.refl _).alloc _).alloc _))) hg1 hn2)); have hny1 : some y1.heap.size ≠ some m := hmn _ (Nat.lt_of_lt_of_le hWl hk1.size); have hny2 : some (y1.heap.size + 1) ≠ some m := hmn _ (Nat.lt_succ_of_lt (Nat.lt_of_lt_of_le hWl hk1.size)); (try (obtain ⟨pu6, hpu6⟩ := Option.isSome_iff_exists.1 u6.some0; obtain ⟨qu6, hqu6⟩ := Option.isSome_iff_exists.1 u6.some1; have fu6 := u6.free0; have gu6 := u6.free1; have lu6 := u6.lt)); (try (obtain ⟨pu7, hpu7⟩ := Option.isSome_iff_exists.1 u7.some0; obtain ⟨qu7, hqu7⟩ := Option.isSome_iff_exists.1 u7.some1; have fu7 := u7.free0; have gu7 := u7.free1; have lu7 := u7.lt)))
            | (go_at_call 27; (with_reducible refine Calls.mono (hc2 _ ?_ ?_) ?_); (exact hG.kept (by repeat (with_reducible first | exact hk2 | exact hk1 | exact Ext.grown (Ext.refl _) _ | refine grown_alloc ?_ _ | refine grown_drew ?_ | (refine grown_set ?_ _ _ ?_; rotate_left; (first | exact Nat.le_refl _ | exact Nat.le_succ _ | exact hk1.size | exact hk2.size | exact Nat.le_succ_of_le hk1.size)))) hm); (exact (by repeat (with_reducible first | exact hM1 | refine memo_alloc ?_ _ | refine memo_drew ?_ | (refine memo_set ?_ _ _ ?_; rotate_left; (first | exact Nat.ne_of_lt (Nat.lt_trans hmW hWl) | exact Nat.ne_of_lt (Nat.lt_succ_of_lt (Nat.lt_trans hmW hWl)) | exact Nat.ne_of_lt (Nat.lt_trans hmW (Nat.lt_of_lt_of_le hWl hk1.size)) | exact Nat.ne_of_lt (Nat.lt_trans hmW (Nat.lt_of_lt_of_le hWl (Nat.le_succ_of_le hk1.size))) | exact Nat.ne_of_lt (Nat.lt_trans hmW (Nat.lt_of_lt_of_le hWl hk2.size))))))); rintro e y2 ⟨rfl, hg2, hM2⟩; have hk2 : w1.grownBy y2 (some m) := grownBy_trans (by repeat (with_reducible first | exact hk2 | exact hk1 | exact Ext.grown (Ext.refl _) _ | refine grown_alloc ?_ _ | refine grown_drew ?_ | (refine grown_set ?_ _ _ ?_; rotate_left; (first | exact Nat.le_refl _ | exact Nat.le_succ _ | exact hk1.size | exact hk2.size | exact Nat.le_succ_of_le hk1.size)))) hg2; (try (have v6 := spot_far (u6.ext (show Ext _ _ from (by with_reducible first | exact Ext.refl _ | exact (Ext.refl _).drew | exact (Ext.refl _).alloc _ | exact ((Ext.refl _).alloc _).drew | exact ((Ext.refl _).alloc _).alloc _))) hg2 hn1)); (try (have v7 := spot_far (u7.ext (show Ext _ _ from (by with_reducible first | exact Ext.refl _ | exact (Ext.refl _).drew | exact (Ext.refl _).alloc _ | exact ((Ext.refl _).alloc _).drew | exact ((Ext.refl _).alloc _).alloc _))) hg2 hn2)); (try (have v6 := spot_far ((Spot.two y1 23 23 (.int .i64 0) (.int .i64 0) (.int .i64 0) (.int .i64 0)).ext (show Ext _ _ from (by with_reducible first | exact Ext.refl _ | exact (Ext.refl _).drew | exact (Ext.refl _).alloc _ | exact ((Ext.refl _).alloc _).drew | exact ((Ext.refl _).alloc _).alloc _))) hg2 hny1)); (try (have v7 := spot_far ((Spot.two2 y1 23 23 (.int .i64 0) (.int .i64 0) (.int .i64 0) (.int .i64 0)).ext (show Ext _ _ from (by with_reducible first | exact Ext.refl _ | exact (Ext.refl _).drew | exact (Ext.refl _).alloc _ | exact ((Ext.refl _).alloc _).drew | exact ((Ext.refl _).alloc _).alloc _))) hg2 hny2)); (try (have v8 := spot_far ((Spot.new y1 23 (.int .i64 0) (.int .i64 0)).ext (show Ext _ _ from (by with_reducible first | exact Ext.refl _ | exact (Ext.refl _).drew | exact (Ext.refl _).alloc _ | exact ((Ext.refl _).alloc _).drew | exact ((Ext.refl _).alloc _).alloc _))) hg2 hny1)); (try (obtain ⟨pv6, hpv6⟩ := Option.isSome_iff_exists.1 v6.some0; obtain ⟨qv6, hqv6⟩ := Option.isSome_iff_exists.1 v6.some1; have fv6 := v6.free0; have gv6 := v6.free1; have lv6 := v6.lt)); (try (obtain ⟨pv7, hpv7⟩ := Option.isSome_iff_exists.1 v7.some0; obtain ⟨qv7, hqv7⟩ := Option.isSome_iff_exists.1 v7.some1; have fv7 := v7.free0; have gv7 := v7.free1; have lv7 := v7.lt)); (try (obtain ⟨pv8, hpv8⟩ := Option.isSome_iff_exists.1 v8.some0; obtain ⟨qv8, hqv8⟩ := Option.isSome_iff_exists.1 v8.some1; have fv8 := v8.free0; have gv8 := v8.free1; have lv8 := v8.lt)))))
        all_goals
          have z1 := hk1.size
          have z2 := hg2.size
          try simp only [World.size_alloc] at z2
          go_wp2_with fail
          go_meet
          refine ⟨_, _, rfl, rfl, ?_, ?_, ?_, ?_, (by repeat (with_reducible first | exact hk2 | exact hk1 | exact Ext.grown (Ext.refl _) _ | refine grown_alloc ?_ _ | refine grown_drew ?_ | (refine grown_set ?_ _ _ ?_; rotate_left; (first | exact Nat.le_refl _ | exact Nat.le_succ _ | exact hk1.size | exact hk2.size | exact Nat.le_succ_of_le hk1.size)))), (by repeat (with_reducible first | exact hM2 | refine memo_alloc ?_ _ | refine memo_drew ?_ | (refine memo_set ?_ _ _ ?_; rotate_left; (first | exact Nat.ne_of_lt (Nat.lt_trans hmW hWl) | exact Nat.ne_of_lt (Nat.lt_succ_of_lt (Nat.lt_trans hmW hWl)) | exact Nat.ne_of_lt (Nat.lt_trans hmW (Nat.lt_of_lt_of_le hWl hk1.size)) | exact Nat.ne_of_lt (Nat.lt_trans hmW (Nat.lt_of_lt_of_le hWl (Nat.le_succ_of_le hk1.size))) | exact Nat.ne_of_lt (Nat.lt_trans hmW (Nat.lt_of_lt_of_le hWl hk2.size))))))⟩
          · clear hc1 hc2 HV HA HB hG hM HM hG1 hM1 hM2 hg1 hg2 hk1 hk2 hx1
            refine ⟨?_, ?_, ?_, ?_⟩ <;> first | (go_keep; done) | (simp [go_sem, *]; done)
          · first | (simp; done) | (simp; omega)
          · first | (simp; done) | (simp; omega)
          · constructor <;> first | exact Nat.le_refl _ | (simp; done) | (simp; omega) | omega
      case rest =>
        obtain ⟨p, q, rfl, rfl, ⟨p0, p1, q0, q1⟩, hlp, hlq, ⟨hbp, hbq⟩, hgc, hMc⟩ := hcut
        rename World => wd
        have hGc := hG.kept hgc hm
        have c0 := hGc.c0
        have c1 := hGc.c1
        have hl3 := hGc.lt
        obtain ⟨dn, hdn⟩ : ∃ x, x = (2 + (valR (d - 1) (l - 1) - valR (d - 1) l)).num := ⟨_, rfl⟩
        obtain ⟨dd, hdd⟩ : ∃ x : Int, x = ((2 + (valR (d - 1) (l - 1) - valR (d - 1) l)).den : Int) := ⟨_, rfl⟩
        obtain ⟨en, hen⟩ : ∃ x, x = (valR (d - 1) (l - 1) - valR (d - 1) l).num := ⟨_, rfl⟩
        obtain ⟨ed, hed⟩ : ∃ x : Int, x = ((valR (d - 1) (l - 1) - valR (d - 1) l).den : Int) := ⟨_, rfl⟩
        obtain ⟨fn, hfn⟩ : ∃ x, x = (1 - valR (d - 1) l).num := ⟨_, rfl⟩
        obtain ⟨fd, hfd⟩ : ∃ x : Int, x = ((1 - valR (d - 1) l).den : Int) := ⟨_, rfl⟩
        obtain ⟨ln, hln⟩ : ∃ x, x = (lookR d l).num := ⟨_, rfl⟩
        obtain ⟨ld, hld⟩ : ∃ x : Int, x = ((lookR d l).den : Int) := ⟨_, rfl⟩
        obtain ⟨gn, hgn⟩ : ∃ x, x = (goR d l).num := ⟨_, rfl⟩
        obtain ⟨gd, hgd⟩ : ∃ x : Int, x = ((goR d l).den : Int) := ⟨_, rfl⟩
        have e1 : ratV (2 + (valR (d - 1) (l - 1) - valR (d - 1) l)) = .agg #[.int .i64 dn, .int .i64 dd] := by rw [ratV, hdn, hdd]
        have e2 : ratV (valR (d - 1) (l - 1) - valR (d - 1) l) = .agg #[.int .i64 en, .int .i64 ed] := by rw [ratV, hen, hed]
        have e3 : ratV (1 - valR (d - 1) l) = .agg #[.int .i64 fn, .int .i64 fd] := by rw [ratV, hfn, hfd]
        have e4 : ratV (lookR d l) = .agg #[.int .i64 ln, .int .i64 ld] := by rw [ratV, hln, hld]
        have e5 : ratV (goR d l) = .agg #[.int .i64 gn, .int .i64 gd] := by rw [ratV, hgn, hgd]
        have hva := valR_bd (d - 1) (l - 1) (by omega)
        have hvb := valR_bd (d - 1) l (by omega)
        have hC1 : ∀ W', Calls Tryd.prog 40 #[.agg #[.int .i64 an, .int .i64 ad], .agg #[.int .i64 bn, .int .i64 bd]] W' fun e w' => e = .returned (.agg #[.int .i64 en, .int .i64 ed]) ∧ Ext W' w' := by
          intro W'
          rw [← HA.out, ← HB.out, ← e2]
          exact minusI_calls W' _ _ _ _ hva hvb (by omega)
        have hC2 : ∀ W', Calls Tryd.prog 38 #[.agg #[.int .i64 2, .int .i64 1], .agg #[.int .i64 en, .int .i64 ed]] W' fun e w' => e = .returned (.agg #[.int .i64 dn, .int .i64 dd]) ∧ Ext W' w' := by
          intro W'
          rw [← e1, ← e2]
          exact plusI_calls W' 2 _ _ _ R2 (hva.sub hvb) (by omega)
        have hC3 : ∀ W', Calls Tryd.prog 40 #[.agg #[.int .i64 1, .int .i64 1], .agg #[.int .i64 bn, .int .i64 bd]] W' fun e w' => e = .returned (.agg #[.int .i64 fn, .int .i64 fd]) ∧ Ext W' w' := by
          intro W'
          rw [← HB.out, ← e3]
          exact minusI_calls W' 1 _ _ _ R1 hvb (by omega)
        have hpos := den_pos (d - 1) (l - 1) l
        have hdb := den_bd (d - 1) (l - 1) l (by omega)
        have hC4 : ∀ W', Calls Tryd.prog 39 #[.agg #[.int .i64 fn, .int .i64 fd], .agg #[.int .i64 dn, .int .i64 dd]] W' fun e w' => e = .returned (.agg #[.int .i64 ln, .int .i64 ld]) ∧ Ext W' w' := by
          intro W'
          rw [← e3, ← e1, ← e4, lookR, if_neg hA, if_neg hC]
          exact overI_calls W' _ _ _ _ (R1.sub hvb) hdb hpos (by omega) (by omega) (by omega)
        have hC5 : ∀ W', Calls Tryd.prog 39 #[.agg #[.int .i64 en, .int .i64 ed], .agg #[.int .i64 dn, .int .i64 dd]] W' fun e w' => e = .returned (.agg #[.int .i64 gn, .int .i64 gd]) ∧ Ext W' w' := by
          intro W'
          rw [← e2, ← e1, ← e5, goR, if_neg hA, if_neg hC]
          exact overI_calls W' _ _ _ _ (hva.sub hvb) hdb hpos (by omega) (by omega) (by omega)
        have HL := Lib.hid e4
        have HO := Lib.hid e5
        have hsc1 := spot_far hsp1 hgc (hmn _ (by omega))
        have hsc2 := spot_far hsp2 hgc (hmn _ (by omega))
        have hg0c := grownBy_trans (hx1.grown (some m)) hgc
        have hWc : W + 1 + 1 < wd.heap.size := hsc2.lt
        clear e1 e2 e3 e4 e5 hdn hdd hen hed hfn hfd hln hld hgn hgd hva hvb hpos hdb hc1 hc2 HV s0 s1 hwd hwl hn1 hn2 hsp1 hsp2 hgc hG hM hx1 HM hG1 hWl
        go_wp2_with fail
        go_cut [8] (fun s8 wx => ∃ r, s8 = .pointer (some ⟨r, 0, none⟩) ∧ wx.cell? ⟨r, 0, none⟩ = some (.int .i64 dn) ∧ wx.cell? ⟨r, 1, none⟩ = some (.int .i64 dd) ∧ wd.heap.size ≤ r ∧ r < wx.heap.size ∧ Ext wd wx)
        case first =>
          go_region_held3 (fun w' => w'.cell? ⟨2, 0, none⟩ = some (.int .i64 2) ∧ w'.cell? ⟨2, 1, none⟩ = some (.int .i64 1) ∧ w'.cell? ⟨p, 0, none⟩ = some (.int .i64 an) ∧ w'.cell? ⟨p, 1, none⟩ = some (.int .i64 ad) ∧ w'.cell? ⟨q, 0, none⟩ = some (.int .i64 bn) ∧ w'.cell? ⟨q, 1, none⟩ = some (.int .i64 bd))
            (exact six_cells2 c0 c1 p0 p1 q0 q1 hl3 hlp hlq (by repeat (with_reducible first | exact Ext.refl _ | assumption | refine Ext.alloc ?_ _ | refine Ext.drew ?_ | (refine Ext.setOwn ?_ _ _ ?_; rotate_left; (first | exact Nat.le_refl _ | exact Ext.size hx34 | exact Ext.size hx35)))))
            ((first
              | (go_at_call 40; (with_reducible refine Calls.mono (hC1 _) ?_); rintro e w4 ⟨rfl, hx4⟩; have hx34 : Ext wd w4 := Ext.trans (by repeat (with_reducible first | exact Ext.refl _ | assumption | refine Ext.alloc ?_ _ | refine Ext.drew ?_)) hx4; (try (have hs1 := (Spot.new wd 23 (.int .i64 0) (.int .i64 0)).ext (show Ext _ w4 from Ext.trans (by with_reducible first | exact Ext.refl _ | exact (Ext.refl _).drew | exact (Ext.refl _).alloc _ | exact ((Ext.refl _).alloc _).drew | exact ((Ext.refl _).alloc _).alloc _) hx4))))
              | (go_at_call 38; (with_reducible refine Calls.mono (hC2 _) ?_); rintro e w5 ⟨rfl, hx5⟩; have hx35 : Ext wd w5 := Ext.trans (by repeat (with_reducible first | exact Ext.refl _ | assumption | refine Ext.alloc ?_ _ | refine Ext.drew ?_)) hx5; (try (have hs2 := hs1.ext (show Ext w4 w5 from Ext.trans (by with_reducible first | exact Ext.refl _ | exact (Ext.refl _).drew | exact (Ext.refl _).alloc _ | exact ((Ext.refl _).alloc _).drew | exact ((Ext.refl _).alloc _).alloc _) hx5))); (try (have hs2 := (Spot.new w4 23 (.int .i64 0) (.int .i64 0)).ext (show Ext _ w5 from Ext.trans (by with_reducible first | exact Ext.refl _ | exact (Ext.refl _).drew | exact (Ext.refl _).alloc _ | exact ((Ext.refl _).alloc _).drew | exact ((Ext.refl _).alloc _).alloc _) hx5))); (try (obtain ⟨t0, ht0⟩ := Option.isSome_iff_exists.1 hs2.some0; obtain ⟨t1, ht1⟩ := Option.isSome_iff_exists.1 hs2.some1; have f0 := hs2.free0; have f1 := hs2.free1; have hlz := hs2.lt)))))
          all_goals
            go_wp2_with fail
            go_meet
            refine ⟨_, rfl, ?_, ?_, ?_, ?_, (by repeat (with_reducible first | exact Ext.refl _ | assumption | refine Ext.alloc ?_ _ | refine Ext.drew ?_ | (refine Ext.setOwn ?_ _ _ ?_; rotate_left; (first | exact Nat.le_refl _ | exact Ext.size hx34 | exact Ext.size hx35))))⟩
            · first | exact (hs2.put _ _).1 | simp [go_sem]
            · first | exact (hs2.put _ _).2 | simp [go_sem]
            · first | exact Nat.le_refl _ | exact hx34.size | exact hx35.size
            · first | (simp; done) | (have h1 := hx34.size; have h2 := hx35.size; simp; omega) | (have h1 := hs2.lt; simp; omega)
        case rest =>
          obtain ⟨r, rfl, r0, r1, hle, hlr, hxd⟩ := hcut
          clear hC2 c0 c1 hl3
          rename World => wb
          have hT : T7 m (n + 2 * bud (d - 1)) W p q r an ad bn bd dn dd w wb := ⟨(hGc.ext hxd).b0, (hGc.ext hxd).b1, (hxd.cell (p := ⟨p, 0, none⟩) hlp).trans p0, (hxd.cell (p := ⟨p, 1, none⟩) hlp).trans p1, (hxd.cell (p := ⟨q, 0, none⟩) hlq).trans q0, (hxd.cell (p := ⟨q, 1, none⟩) hlq).trans q1, r0, r1, hsc1.ext hxd, hsc2.ext hxd, ⟨by have := hxd.size; omega, by have := hxd.size; omega, hlr⟩, ⟨by omega, by omega, by omega, by omega, hmW, hWw⟩, grownBy_ext hg0c hxd, hMc.ext hxd⟩
          clear hGc p0 p1 q0 q1 r0 r1 hlp hlq hlr hbp hbq hle hxd hsc1 hsc2 hg0c hMc hWc hmW hWw hlW
          go_wp2_with fail
          go_region_held3 (fun w' => w'.cell? ⟨1, 0, none⟩ = some (.int .i64 1) ∧ w'.cell? ⟨1, 1, none⟩ = some (.int .i64 1) ∧ w'.cell? ⟨p, 0, none⟩ = some (.int .i64 an) ∧ w'.cell? ⟨p, 1, none⟩ = some (.int .i64 ad) ∧ w'.cell? ⟨q, 0, none⟩ = some (.int .i64 bn) ∧ w'.cell? ⟨q, 1, none⟩ = some (.int .i64 bd) ∧ w'.cell? ⟨r, 0, none⟩ = some (.int .i64 dn) ∧ w'.cell? ⟨r, 1, none⟩ = some (.int .i64 dd))
            (exact T7.held (show T7 m (n + 2 * bud (d - 1)) W p q r an ad bn bd dn dd w _ from (by repeat (with_reducible first | assumption | refine T7.drew ?_ | refine T7.set1 ?_ _ _ | refine T7.set2 ?_ _ _))))
            ((first
              | (go_at_call 40; (with_reducible refine Calls.mono (hC1 _) ?_); rintro e y1 ⟨rfl, hx1⟩; have hT1 := T7.ext (show T7 m (n + 2 * bud (d - 1)) W p q r an ad bn bd dn dd w _ from (by repeat (with_reducible first | assumption | refine T7.drew ?_ | refine T7.set1 ?_ _ _ | refine T7.set2 ?_ _ _))) hx1; (obtain ⟨za, hza⟩ := Option.isSome_iff_exists.1 hT1.s1.some0); (obtain ⟨zb, hzb⟩ := Option.isSome_iff_exists.1 hT1.s1.some1); (obtain ⟨zc, hzc⟩ := Option.isSome_iff_exists.1 hT1.s2.some0); (obtain ⟨zd, hzd⟩ := Option.isSome_iff_exists.1 hT1.s2.some1); have hfa := hT1.s1.free0; have hfb := hT1.s1.free1; have hfc := hT1.s2.free0; have hfd := hT1.s2.free1; have hla := hT1.s1.lt; have hlb := hT1.s2.lt)
              | (go_at_call 40; (with_reducible refine Calls.mono (hC3 _) ?_); rintro e y3 ⟨rfl, hx3⟩; have hT3 := T7.ext (show T7 m (n + 2 * bud (d - 1)) W p q r an ad bn bd dn dd w _ from (by repeat (with_reducible first | assumption | refine T7.drew ?_ | refine T7.set1 ?_ _ _ | refine T7.set2 ?_ _ _))) hx3; (obtain ⟨za, hza⟩ := Option.isSome_iff_exists.1 hT3.s1.some0); (obtain ⟨zb, hzb⟩ := Option.isSome_iff_exists.1 hT3.s1.some1); (obtain ⟨zc, hzc⟩ := Option.isSome_iff_exists.1 hT3.s2.some0); (obtain ⟨zd, hzd⟩ := Option.isSome_iff_exists.1 hT3.s2.some1); have hfa := hT3.s1.free0; have hfb := hT3.s1.free1; have hfc := hT3.s2.free0; have hfd := hT3.s2.free1; have hla := hT3.s1.lt; have hlb := hT3.s2.lt)
              | (go_at_call 39; (with_reducible refine Calls.mono (hC4 _) ?_); rintro e y4 ⟨rfl, hx4⟩; have hT4 := T7.ext (show T7 m (n + 2 * bud (d - 1)) W p q r an ad bn bd dn dd w _ from (by repeat (with_reducible first | assumption | refine T7.drew ?_ | refine T7.set1 ?_ _ _ | refine T7.set2 ?_ _ _))) hx4; (obtain ⟨za, hza⟩ := Option.isSome_iff_exists.1 hT4.s1.some0); (obtain ⟨zb, hzb⟩ := Option.isSome_iff_exists.1 hT4.s1.some1); (obtain ⟨zc, hzc⟩ := Option.isSome_iff_exists.1 hT4.s2.some0); (obtain ⟨zd, hzd⟩ := Option.isSome_iff_exists.1 hT4.s2.some1); have hfa := hT4.s1.free0; have hfb := hT4.s1.free1; have hfc := hT4.s2.free0; have hfd := hT4.s2.free1; have hla := hT4.s1.lt; have hlb := hT4.s2.lt)
              | (go_at_call 39; (with_reducible refine Calls.mono (hC5 _) ?_); rintro e y5 ⟨rfl, hx5⟩; have hT5 := T7.ext (show T7 m (n + 2 * bud (d - 1)) W p q r an ad bn bd dn dd w _ from (by repeat (with_reducible first | assumption | refine T7.drew ?_ | refine T7.set1 ?_ _ _ | refine T7.set2 ?_ _ _))) hx5; (obtain ⟨za, hza⟩ := Option.isSome_iff_exists.1 hT5.s1.some0); (obtain ⟨zb, hzb⟩ := Option.isSome_iff_exists.1 hT5.s1.some1); (obtain ⟨zc, hzc⟩ := Option.isSome_iff_exists.1 hT5.s2.some0); (obtain ⟨zd, hzd⟩ := Option.isSome_iff_exists.1 hT5.s2.some1); have hfa := hT5.s1.free0; have hfb := hT5.s1.free1; have hfc := hT5.s2.free0; have hfd := hT5.s2.free1; have hla := hT5.s1.lt; have hlb := hT5.s2.lt)))
          all_goals
            go_wp2_with fail
          have hTE : T7 m (n + 2 * bud (d - 1)) W p q r an ad bn bd dn dd w ((((y5.setCell ⟨W + 1, 0, none⟩ (.int .i64 ln)).setCell ⟨W + 1, 1, none⟩ (.int .i64 ld)).setCell ⟨W + 1 + 1, 0, none⟩ (.int .i64 gn)).setCell ⟨W + 1 + 1, 1, none⟩ (.int .i64 gd)) := (by repeat (with_reducible first | assumption | refine T7.drew ?_ | refine T7.set1 ?_ _ _ | refine T7.set2 ?_ _ _))
          obtain ⟨v0, v1⟩ := hT5.s1.put (.int .i64 ln) (.int .i64 ld)
          obtain ⟨v2, v3⟩ := ((hT5.s2.set (W + 1) 0 (.int .i64 ln)).set (W + 1) 1 (.int .i64 ld)).put (.int .i64 gn) (.int .i64 gd)
          have v0 := (World.cell?_setCell_far _ ⟨W + 1 + 1, 1, none⟩ _ (.int .i64 gd) (by simp)).trans ((World.cell?_setCell_far _ ⟨W + 1 + 1, 0, none⟩ _ (.int .i64 gn) (by simp)).trans v0)
          have v1 := (World.cell?_setCell_far _ ⟨W + 1 + 1, 1, none⟩ _ (.int .i64 gd) (by simp)).trans ((World.cell?_setCell_far _ ⟨W + 1 + 1, 0, none⟩ _ (.int .i64 gn) (by simp)).trans v1)
          rw [HL.out, HO.out]
          refine bodyPost_ret (v := .tuple #[.agg #[.int .i64 ln, .int .i64 ld], .agg #[.int .i64 gn, .int .i64 gd]]) (by simp only [results, Tryd.results43]; simp [go_sem, v0, v1, v2, v3]) rfl ?_
          exact ⟨rfl, hTE.gr, hTE.me⟩

end Go.Proofs.YtefmioppamdceaaDoor
