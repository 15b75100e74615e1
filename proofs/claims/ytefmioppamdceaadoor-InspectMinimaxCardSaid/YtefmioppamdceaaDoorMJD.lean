/- Inspect: value and today, which call each other. -/
import Derived.Test.YtefmioppamdceaaDoorMKC
import Derived.Deep.DeepCutAuto
namespace Go.Proofs.YtefmioppamdceaaDoor
open Go.RowKit Go.Shelf Go.Maps

/-- The package's three fractions. -/
structure Glob (w : World) : Prop where
  a0 : w.cell? ⟨0, 0, none⟩ = some (.int .i64 0)
  a1 : w.cell? ⟨0, 1, none⟩ = some (.int .i64 1)
  b0 : w.cell? ⟨1, 0, none⟩ = some (.int .i64 1)
  b1 : w.cell? ⟨1, 1, none⟩ = some (.int .i64 1)
  c0 : w.cell? ⟨2, 0, none⟩ = some (.int .i64 2)
  c1 : w.cell? ⟨2, 1, none⟩ = some (.int .i64 1)
  lt : 3 ≤ w.heap.size
theorem Glob.kept {w w' : World} {m : Nat} (h : Glob w) (hg : w.grownBy w' (some m)) (hm : 3 ≤ m) : Glob w' := by
  have hl := h.lt
  have k : ∀ b o, b < 3 → w'.cell? ⟨b, o, none⟩ = w.cell? ⟨b, o, none⟩ := fun b o hb => grownBy_cell hg (p := ⟨b, o, none⟩) (by show b < _; omega) (by simp; omega)
  exact ⟨(k _ _ (by omega)).trans h.a0, (k _ _ (by omega)).trans h.a1, (k _ _ (by omega)).trans h.b0, (k _ _ (by omega)).trans h.b1, (k _ _ (by omega)).trans h.c0, (k _ _ (by omega)).trans h.c1, Nat.le_trans hl hg.size⟩
theorem Glob.ext {w w' : World} (h : Glob w) (hx : Ext w w') : Glob w' := h.kept (hx.grown (some 3)) (by omega)
/-- How many entries a season's worth may lay. -/
def bud : Nat → Nat
  | 0 => 0
  | d + 1 => 2 * bud d + 1
def lookR (d l : Nat) : Rat := if d ≤ l then 1 else if l = 0 then 0 else (1 - valR (d - 1) l) / (2 + (valR (d - 1) (l - 1) - valR (d - 1) l))
def goR (d l : Nat) : Rat := if d ≤ l then 0 else if l = 0 then 1 else (valR (d - 1) (l - 1) - valR (d - 1) l) / (2 + (valR (d - 1) (l - 1) - valR (d - 1) l))
def MemoRes (w : World) (m n : Nat) (v : Value) : Ending → World → Prop := fun e w' => e = .returned v ∧ w.grownBy w' (some m) ∧ Memo w' m n
theorem valR_none {d l : Nat} (h : d = 0 ∨ d ≤ l) : valR d l = 0 := by
  cases d with
  | zero => rw [valR]
  | succ d =>
    cases l with
    | zero => omega
    | succ l => rw [valR, if_pos (by omega)]
theorem valR_look {d l : Nat} (h0 : 0 < l) (h : l < d) : valR d l = 1 - 2 * lookR d l := by
  obtain ⟨d, rfl⟩ : ∃ e, d = e + 1 := ⟨d - 1, by omega⟩
  obtain ⟨l, rfl⟩ : ∃ e, l = e + 1 := ⟨l - 1, by omega⟩
  rw [valR, if_neg (by omega), lookR, if_neg (by omega), if_neg (by omega)]
  rfl
theorem six_cells {w w' : World} {T : Nat} {x y z u v t : Option Value} (h1 : w.cell? ⟨1, 0, none⟩ = x) (h2 : w.cell? ⟨1, 1, none⟩ = y) (h3 : w.cell? ⟨2, 0, none⟩ = z) (h4 : w.cell? ⟨2, 1, none⟩ = u) (h5 : w.cell? ⟨T, 0, none⟩ = v) (h6 : w.cell? ⟨T, 1, none⟩ = t) (hl : 3 ≤ w.heap.size) (hT : T < w.heap.size) (hx : Ext w w') :
    w'.cell? ⟨1, 0, none⟩ = x ∧ w'.cell? ⟨1, 1, none⟩ = y ∧ w'.cell? ⟨2, 0, none⟩ = z ∧ w'.cell? ⟨2, 1, none⟩ = u ∧ w'.cell? ⟨T, 0, none⟩ = v ∧ w'.cell? ⟨T, 1, none⟩ = t :=
  ⟨(hx.cell (p := ⟨1, 0, none⟩) (by show 1 < _; omega)).trans h1, (hx.cell (p := ⟨1, 1, none⟩) (by show 1 < _; omega)).trans h2, (hx.cell (p := ⟨2, 0, none⟩) (by show 2 < _; omega)).trans h3, (hx.cell (p := ⟨2, 1, none⟩) (by show 2 < _; omega)).trans h4, (hx.cell (p := ⟨T, 0, none⟩) hT).trans h5, (hx.cell (p := ⟨T, 1, none⟩) hT).trans h6⟩
theorem spot_far {w w' : World} {b : Nat} {row : Option Nat} (h : Spot w b) (hg : w.grownBy w' row) (hne : some b ≠ row) : Spot w' b :=
  ⟨Nat.lt_of_lt_of_le h.lt hg.size, by rw [grownBy_cell hg h.lt hne]; exact h.some0, by rw [grownBy_cell hg h.lt hne]; exact h.some1, by rw [grownBy_frozen hg h.lt hne]; exact h.free0, by rw [grownBy_frozen hg h.lt hne]; exact h.free1⟩
/-- 'v, ok := m[k]' in the memo, the value's shape written out. -/
theorem wpList_lookup_memo {w : World} {ops : Array Oper} {rest : List Oper} {o : Oper} {a : Act} {Q : Exit → Act → World → Prop} (hg : o.guard = none) (m x : Operand) (hop : o.op = Op.lookup 62 m x true) (b n : Nat) (D : DataW Unit)
    (hm : a.eval m = .map (some b)) (hown : w.ownsMap Tryd.prog 58 ratR b n D) (key : Value) (kl : Lit) (hx : a.eval x = key) (hkey : keyOf Tryd.prog 58 key = some kl) (p q : Int) (hpq : D.atKey kl (ratD 0 0) = ratD p q)
    (hK : wpList Tryd.prog ops Q rest (a.put o.dst (.tuple #[.agg #[.int .i64 p, .int .i64 q], .bool (Maps.has D kl)])) w) : wpList Tryd.prog ops Q (o :: rest) a w := by
  have hz : (zeroValue 23).run Tryd.prog w = .ok (.agg #[.int .i64 0, .int .i64 0]) w := by kernel_rfl
  refine wpList_lookup_own_ok _ hg _ _ 62 hop 58 23 lawSea Tryd.underlying62 ratR hz (ratD 0 0) [] (by simp [ratR, intOf]) b n D hm hown key kl hx hkey ?_
  intro v ps hv
  rw [hpq] at hv
  rw [ratR_inv hv]
  exact hK
theorem small_done {w w' : World} {m n k : Nat} {v : Value} (h : Memo w m n) (hx : Ext w w') : MemoRes w m (n + k) v (.returned v) w' := ⟨rfl, hx.grown _, (h.ext hx).mono (by omega)⟩
set_option maxRecDepth 100000 in
set_option maxHeartbeats 2000000 in
theorem value_of (d l m n : Nat) (w : World) (hd : d ≤ 14) (hl : l ≤ 14) (hG : Glob w) (hm : 3 ≤ m) (hM : Memo w m n) (hn : n + bud d ≤ 1000000) (hLb : 0 < l → l < d → RBd (lookR d l) 70368744177664)
    (hT : ∀ w', Glob w' → Memo w' m n → 0 < l → l < d → Calls Tryd.prog 43 #[.map (some m), seaV d l] w' (MemoRes w' m (n + bud d - 1) (.tuple #[ratV (lookR d l), ratV (goR d l)]))) :
    Calls Tryd.prog 27 #[.map (some m), seaV d l] w (MemoRes w m (n + bud d) (ratV (valR d l))) := by
  have hS : seaV d l = .agg #[.int .i64 d, .int .i64 l] := rfl
  have ga0 := hG.a0
  have ga1 := hG.a1
  have gb0 := hG.b0
  have gb1 := hG.b1
  have hg0 : 0 < w.heap.size := by have := hG.lt; omega
  have hg1 : 1 < w.heap.size := by have := hG.lt; omega
  have hn0 : (0 : Nat) ≠ w.heap.size := by omega
  have hn1 : (1 : Nat) ≠ w.heap.size := by omega
  have hn2 : (0 : Nat) ≠ w.heap.size + 1 := by omega
  have hn3 : (1 : Nat) ≠ w.heap.size + 1 := by omega
  have hx1 : Ext w ((w.alloc (Obj.cells #[.int .i64 d, .int .i64 l] 58)).alloc (Obj.cells #[.int .i64 0, .int .i64 0] 23)) := (by repeat (first | exact Ext.refl _ | assumption | refine Ext.alloc ?_ _ | refine Ext.drewN ?_ _ | refine Ext.drew ?_))
  have hxs : ∀ u v, Ext w ((((w.alloc (Obj.cells #[.int .i64 d, .int .i64 l] 58)).alloc (Obj.cells #[.int .i64 0, .int .i64 0] 23)).setCell ⟨w.heap.size + 1, 0, none⟩ u).setCell ⟨w.heap.size + 1, 1, none⟩ v) := fun u v => (hx1.setOwn _ _ (show w.heap.size ≤ w.heap.size + 1 by omega)).setOwn _ _ (show w.heap.size ≤ w.heap.size + 1 by omega)
  have HX := Lib.hid hxs
  have HM : Hid (Memo w m n) := Lib.hid hM
  have HT := Lib.hid hT
  clear hT hxs hx1 hM
  by_cases hA : d = 0
  · have HV : Hid (ratV (valR d l) = .agg #[.int .i64 0, .int .i64 1]) := Lib.hid (by rw [valR_none (.inl hA)]; rfl)
    rw [HV.out, hS]
    have hA' : (d : Int) = 0 := by omega
    clear hG
    go_enter Tryd.func27, Tryd.ntmps27
    go_wp2_with fail
    refine bodyPost_ret (v := .agg #[.int .i64 0, .int .i64 1]) (by simp [results, Tryd.results27, go_sem]) rfl ?_
    exact small_done HM.out (by repeat (first | exact Ext.refl _ | assumption | refine Ext.alloc ?_ _ | refine Ext.drewN ?_ _ | refine Ext.drew ?_))
  · have hA' : ¬ (d : Int) = 0 := by omega
    by_cases hB : d ≤ l
    · have HV : Hid (ratV (valR d l) = .agg #[.int .i64 0, .int .i64 1]) := Lib.hid (by rw [valR_none (.inr hB)]; rfl)
      rw [HV.out, hS]
      have hB' : (d : Int) ≤ (l : Int) := by omega
      clear hG
      go_enter Tryd.func27, Tryd.ntmps27
      go_wp2_with fail
      refine bodyPost_ret (v := .agg #[.int .i64 0, .int .i64 1]) (by simp [results, Tryd.results27, go_sem]) rfl ?_
      exact small_done HM.out (by repeat (first | exact Ext.refl _ | assumption | refine Ext.alloc ?_ _ | refine Ext.drewN ?_ _ | refine Ext.drew ?_))
    · have hB' : ¬ (d : Int) ≤ (l : Int) := by omega
      by_cases hC : l = 0
      · have HV : Hid (ratV (valR d l) = .agg #[.int .i64 1, .int .i64 1]) := Lib.hid (by
          subst hC
          obtain ⟨e, rfl⟩ : ∃ e, d = e + 1 := ⟨d - 1, by omega⟩
          rw [valR]; rfl)
        rw [HV.out, hS]
        have hC' : (l : Int) = 0 := by omega
        clear hG
        go_enter Tryd.func27, Tryd.ntmps27
        go_wp2_with fail
        refine bodyPost_ret (v := .agg #[.int .i64 1, .int .i64 1]) (by simp [results, Tryd.results27, go_sem]) rfl ?_
        exact small_done HM.out (by repeat (first | exact Ext.refl _ | assumption | refine Ext.alloc ?_ _ | refine Ext.drewN ?_ _ | refine Ext.drew ?_))
      · have hC' : ¬ (l : Int) = 0 := by omega
        obtain ⟨kl, hkl⟩ := keySea d l hd hl
        rw [hS] at hkl
        obtain ⟨D, hown, hD⟩ := id HM.out
        have hD2 := hD d l kl hd hl (by rw [hS]; exact hkl)
        have HD := Lib.hid hD
        have HD2 := Lib.hid hD2
        have hmm : (∀ w1 : World, Ext w w1 → w1.ownsMap Tryd.prog 58 ratR m n D) := fun w1 hx => hown.kept (hx.grown none) (by simp)
        obtain ⟨rn, hrn⟩ : ∃ x, x = (valR d l).num := ⟨_, rfl⟩
        obtain ⟨rd, hrd⟩ : ∃ x : Int, x = ((valR d l).den : Int) := ⟨_, rfl⟩
        have HV : Hid (.agg #[.int .i64 rn, .int .i64 rd] = ratV (valR d l)) := Lib.hid (by rw [ratV, hrn, hrd])
        by_cases hh : Maps.has D kl = true
        · have hpq : D.atKey kl (ratD 0 0) = ratD rn rd := by rw [HD2.out hh, hrn, hrd]
          rw [hS, ← HV.out]
          clear hD hD2 hown hG hrn hrd HT
          go_enter Tryd.func27, Tryd.ntmps27
          go_wp2_with (first | (at_lookup; refine wpList_lookup_memo rfl _ _ rfl m n D rfl (hmm _ (by repeat (first | exact Ext.refl _ | assumption | refine Ext.alloc ?_ _ | refine Ext.drewN ?_ _ | refine Ext.drew ?_))) _ kl rfl hkl rn rd hpq ?_) | fail)
          refine bodyPost_ret (v := .agg #[.int .i64 rn, .int .i64 rd]) (by simp [results, Tryd.results27, go_sem]) rfl ?_
          exact small_done HM.out (by repeat (first | exact Ext.refl _ | assumption | refine Ext.alloc ?_ _ | refine Ext.drewN ?_ _ | refine Ext.drew ?_))
        · have hh2 : Maps.has D kl = false := by simpa using hh
          have hpq : D.atKey kl (ratD 0 0) = ratD 0 0 := Maps.atKey_of_not_has hh2 _
          have HRN : Hid (rn = (valR d l).num ∧ rd = ((valR d l).den : Int)) := Lib.hid ⟨hrn, hrd⟩
          have hbud : 1 ≤ bud d := by
            obtain ⟨e, rfl⟩ : ∃ e, d = e + 1 := ⟨d - 1, by omega⟩
            rw [bud]; omega
          have hG1 := Lib.hid hG
          have hMl : m < w.heap.size := HM.out.lt
          obtain ⟨ln, hln⟩ : ∃ x, x = (lookR d l).num := ⟨_, rfl⟩
          obtain ⟨ld, hld⟩ : ∃ x : Int, x = ((lookR d l).den : Int) := ⟨_, rfl⟩
          obtain ⟨gn, hgn⟩ : ∃ x, x = (goR d l).num := ⟨_, rfl⟩
          obtain ⟨gd, hgd⟩ : ∃ x : Int, x = ((goR d l).den : Int) := ⟨_, rfl⟩
          obtain ⟨tn, htn⟩ : ∃ x, x = (2 * lookR d l).num := ⟨_, rfl⟩
          obtain ⟨td, htd⟩ : ∃ x : Int, x = ((2 * lookR d l).den : Int) := ⟨_, rfl⟩
          have hL : ratV (lookR d l) = .agg #[.int .i64 ln, .int .i64 ld] := by rw [ratV, hln, hld]
          have hO : ratV (goR d l) = .agg #[.int .i64 gn, .int .i64 gd] := by rw [ratV, hgn, hgd]
          have hTm : ratV (2 * lookR d l) = .agg #[.int .i64 tn, .int .i64 td] := by rw [ratV, htn, htd]
          have hT1 : ∀ W', Ext w W' → Calls Tryd.prog 43 #[.map (some m), .agg #[.int .i64 d, .int .i64 l]] W' (MemoRes W' m (n + bud d - 1) (.tuple #[.agg #[.int .i64 ln, .int .i64 ld], .agg #[.int .i64 gn, .int .i64 gd]])) := by
            intro W' hx
            rw [← hS, ← hL, ← hO]
            exact HT.out W' (hG.ext hx) (HM.out.ext hx) (by omega) (by omega)
          have hLb := hLb (by omega) (by omega)
          have hR2 : RBd (2 : Rat) 2 := ⟨by decide, by decide⟩
          have hR1 : RBd (1 : Rat) 1 := ⟨by decide, by decide⟩
          have hC1 : ∀ W', Calls Tryd.prog 66 #[.agg #[.int .i64 2, .int .i64 1], .agg #[.int .i64 ln, .int .i64 ld]] W' fun e w' => e = .returned (.agg #[.int .i64 tn, .int .i64 td]) ∧ Ext W' w' := by
            intro W'
            rw [← hL, ← hTm]
            exact timesI_calls W' 2 (lookR d l) 2 _ hR2 hLb (by omega) (by omega) (by omega)
          have hC2 : ∀ W', Calls Tryd.prog 40 #[.agg #[.int .i64 1, .int .i64 1], .agg #[.int .i64 tn, .int .i64 td]] W' fun e w' => e = .returned (.agg #[.int .i64 rn, .int .i64 rd]) ∧ Ext W' w' := by
            intro W'
            rw [HV.out, ← hTm, valR_look (by omega) (by omega)]
            exact minusI_calls W' 1 (2 * lookR d l) 1 _ hR1 (hR2.mul hLb) (by omega)
          rw [hS, ← HV.out]
          clear hD hD2 hown hG hrn hrd hh HT hL hO hTm hln hld hgn hgd htn htd hR1 hR2 hLb
          go_enter Tryd.func27, Tryd.ntmps27
          go_wp2_with (first | (at_lookup; refine wpList_lookup_memo rfl _ _ rfl m n D rfl (hmm _ (by repeat (first | exact Ext.refl _ | assumption | refine Ext.alloc ?_ _ | refine Ext.drewN ?_ _ | refine Ext.drew ?_))) _ kl rfl hkl 0 0 hpq ?_) | fail)
          obtain ⟨w1, hw1⟩ : ∃ w1, w1 = (((w.alloc (Obj.cells #[.int .i64 d, .int .i64 l] 58)).alloc (Obj.cells #[.int .i64 0, .int .i64 0] 23)).alloc (Obj.cells #[.int .i64 0, .int .i64 0] 23)) := ⟨_, rfl⟩
          obtain ⟨W, hW⟩ : ∃ W, W = w.heap.size := ⟨_, rfl⟩
          have hx1 : Ext w w1 := by rw [hw1]; exact (by repeat (first | exact Ext.refl _ | assumption | refine Ext.alloc ?_ _ | refine Ext.drewN ?_ _ | refine Ext.drew ?_))
          have s0 : w1.cell? ⟨W, 0, none⟩ = some (.int .i64 d) := by rw [hw1, hW]; simp [go_sem]
          have s1 : w1.cell? ⟨W, 1, none⟩ = some (.int .i64 l) := by rw [hw1, hW]; simp [go_sem]
          have hsp : Spot w1 (W + 1) := by rw [hw1, hW]; exact ⟨by simp, by simp [go_sem], by simp [go_sem], by simp [go_sem], by simp [go_sem]⟩
          have hlW : W + 1 < w1.heap.size := hsp.lt
          rw [← hw1, ← hW]
          have hmW : m < W := by omega
          have hWw : w.heap.size ≤ W := by omega
          clear hw1 hW hMl HX ga0 ga1 gb0 gb1 hg0 hg1 hn0 hn1 hn2 hn3 hmm hpq hh2 HD HD2
          refine (hT1 w1 hx1).mono ?_
          rintro e w2 ⟨rfl, hg2, hM2⟩
          have s0 := (grownBy_cell hg2 (p := ⟨W, 0, none⟩) (by show W < _; omega) (by simp; omega)).trans s0
          have s1 := (grownBy_cell hg2 (p := ⟨W, 1, none⟩) (by show W < _; omega) (by simp; omega)).trans s1
          have hsp := spot_far hsp hg2 (by simp; omega)
          have hG2 := (hG1.out.ext hx1).kept hg2 hm
          have hg02 := grownBy_trans (hx1.grown (some m)) hg2
          clear hT1 hg2
          go_wp2_with fail
          obtain ⟨w3, hw3⟩ : ∃ w3, w3 = ((w2.alloc (Obj.cells #[.int .i64 ln, .int .i64 ld] 23)).alloc (Obj.cells #[.int .i64 gn, .int .i64 gd] 23)) := ⟨_, rfl⟩
          obtain ⟨T, hTT⟩ : ∃ T, T = w2.heap.size := ⟨_, rfl⟩
          have hx3 : Ext w2 w3 := by rw [hw3]; exact (by repeat (first | exact Ext.refl _ | assumption | refine Ext.alloc ?_ _ | refine Ext.drewN ?_ _ | refine Ext.drew ?_))
          have t0 : w3.cell? ⟨T, 0, none⟩ = some (.int .i64 ln) := by rw [hw3, hTT]; simp [go_sem]
          have t1 : w3.cell? ⟨T, 1, none⟩ = some (.int .i64 ld) := by rw [hw3, hTT]; simp [go_sem]
          have hTl : T < w3.heap.size := by rw [hw3, hTT]; simp; omega
          rw [← hw3, ← hTT]
          have hG3 := hG2.ext hx3
          have s0 := (hx3.cell (p := ⟨W, 0, none⟩) (by have := hsp.lt; show W < _; omega)).trans s0
          have s1 := (hx3.cell (p := ⟨W, 1, none⟩) (by have := hsp.lt; show W < _; omega)).trans s1
          have hsp := hsp.ext hx3
          have hM3 := hM2.ext hx3
          have hg03 := grownBy_trans hg02 (hx3.grown (some m))
          clear hw3 hTT hG2 hx3 hM2 hg02 hG1
          have b0 := hG3.b0
          have b1 := hG3.b1
          have c0 := hG3.c0
          have c1 := hG3.c1
          have hl3 := hG3.lt
          have hspl := hsp.lt
          go_cut [9] (fun s9 wx => ∃ a, s9 = .pointer (some ⟨a, 0, none⟩) ∧ wx.cell? ⟨a, 0, none⟩ = some (.int .i64 rn) ∧ wx.cell? ⟨a, 1, none⟩ = some (.int .i64 rd) ∧ w3.heap.size ≤ a ∧ a < wx.heap.size ∧ Ext w3 wx)
          case first =>
            go_region_held3 (fun w' => w'.cell? ⟨1, 0, none⟩ = some (.int .i64 1) ∧ w'.cell? ⟨1, 1, none⟩ = some (.int .i64 1) ∧ w'.cell? ⟨2, 0, none⟩ = some (.int .i64 2) ∧ w'.cell? ⟨2, 1, none⟩ = some (.int .i64 1) ∧ w'.cell? ⟨T, 0, none⟩ = some (.int .i64 ln) ∧ w'.cell? ⟨T, 1, none⟩ = some (.int .i64 ld))
              (exact six_cells b0 b1 c0 c1 t0 t1 hl3 hTl (by repeat (with_reducible first | exact Ext.refl _ | assumption | refine Ext.alloc ?_ _ | refine Ext.drew ?_ | (refine Ext.setOwn ?_ _ _ ?_; rotate_left; (first | exact Nat.le_refl _ | exact Ext.size hx34 | exact Ext.size hx35)))))
              ((first
                | (go_at_call 66; (with_reducible refine Calls.mono (hC1 _) ?_); rintro e w4 ⟨rfl, hx4⟩; have hx34 : Ext w3 w4 := Ext.trans (by repeat (with_reducible first | exact Ext.refl _ | assumption | refine Ext.alloc ?_ _ | refine Ext.drew ?_)) hx4; (try (have hs1 := (Spot.new w3 23 (.int .i64 0) (.int .i64 0)).ext (show Ext _ w4 from Ext.trans (by with_reducible first | exact Ext.refl _ | exact (Ext.refl _).drew | exact (Ext.refl _).alloc _ | exact ((Ext.refl _).alloc _).drew | exact ((Ext.refl _).alloc _).alloc _) hx4))))
                | (go_at_call 40; (with_reducible refine Calls.mono (hC2 _) ?_); rintro e w5 ⟨rfl, hx5⟩; have hx35 : Ext w3 w5 := Ext.trans (by repeat (with_reducible first | exact Ext.refl _ | assumption | refine Ext.alloc ?_ _ | refine Ext.drew ?_)) hx5; (try (have hs2 := hs1.ext (show Ext w4 w5 from Ext.trans (by with_reducible first | exact Ext.refl _ | exact (Ext.refl _).drew | exact (Ext.refl _).alloc _ | exact ((Ext.refl _).alloc _).drew | exact ((Ext.refl _).alloc _).alloc _) hx5))); (try (have hs2 := (Spot.new w4 23 (.int .i64 0) (.int .i64 0)).ext (show Ext _ w5 from Ext.trans (by with_reducible first | exact Ext.refl _ | exact (Ext.refl _).drew | exact (Ext.refl _).alloc _ | exact ((Ext.refl _).alloc _).drew | exact ((Ext.refl _).alloc _).alloc _) hx5))); (try (obtain ⟨q0, hq0⟩ := Option.isSome_iff_exists.1 hs2.some0; obtain ⟨q1, hq1⟩ := Option.isSome_iff_exists.1 hs2.some1; have f0 := hs2.free0; have f1 := hs2.free1; have hlq := hs2.lt)))))
            all_goals
              go_wp2_with fail
              go_meet
              refine ⟨_, rfl, ?_, ?_, ?_, ?_, (by repeat (with_reducible first | exact Ext.refl _ | assumption | refine Ext.alloc ?_ _ | refine Ext.drew ?_ | (refine Ext.setOwn ?_ _ _ ?_; rotate_left; (first | exact Nat.le_refl _ | exact Ext.size hx34 | exact Ext.size hx35))))⟩
              · first | exact (hs2.put _ _).1 | simp [go_sem]
              · first | exact (hs2.put _ _).2 | simp [go_sem]
              · first | exact Nat.le_refl _ | exact hx34.size | exact hx35.size
              · first | (simp; done) | (have h1 := hx34.size; have h2 := hx35.size; simp; omega) | (have h1 := hs2.lt; simp; omega)
          case rest =>
            obtain ⟨a9, rfl, r0, r1, hle9, hlt9, hxc⟩ := hcut
            have s0 := (hxc.cell (p := ⟨W, 0, none⟩) (by show W < _; omega)).trans s0
            have s1 := (hxc.cell (p := ⟨W, 1, none⟩) (by show W < _; omega)).trans s1
            have hspc := hsp.ext hxc
            have hMc := hM3.ext hxc
            have hg0c := grownBy_trans hg03 (hxc.grown (some m))
            have hm9 : some a9 ≠ some m := by simp; omega
            have hmW1 : some (W + 1) ≠ some m := by simp; omega
            obtain ⟨D2, hown2, hD2⟩ := hMc
            have HD2 := Lib.hid hD2
            have hvr : ratR (.agg #[.int .i64 rn, .int .i64 rd]) = some (ratD rn rd, []) := by simp [ratR, intOf]
            have hnm : n + bud d - 1 < maxLen := by unfold maxLen; omega
            clear hD2 hC1 hC2 hG3 b0 b1 c0 c1 t0 t1 hM3 hg03 hsp
            go_wp2_with (first | (at_mapUpdate; refine wpList_mapUpdate_own _ rfl _ _ _ 62 rfl 58 23 lawSea Tryd.underlying62 ratR m (n + bud d - 1) D2 rfl hown2 hnm _ _ kl rfl rfl hkl (ratD rn rd) [] hvr ?_; intro w5 hown5 hgrow5; have r0 := (grownBy_cell hgrow5 (p := ⟨a9, 0, none⟩) hlt9 hm9).trans r0; have r1 := (grownBy_cell hgrow5 (p := ⟨a9, 1, none⟩) hlt9 hm9).trans r1; have hsp5 := spot_far hspc hgrow5 hmW1; (obtain ⟨q0, hq0⟩ := Option.isSome_iff_exists.1 hsp5.some0); (obtain ⟨q1, hq1⟩ := Option.isSome_iff_exists.1 hsp5.some1); have f0 := hsp5.free0; have f1 := hsp5.free1; have hlq := hsp5.lt) | fail)
            obtain ⟨z0, z1⟩ := hsp5.put (.int .i64 rn) (.int .i64 rd)
            refine bodyPost_ret (v := .agg #[.int .i64 rn, .int .i64 rd]) (by simp [results, Tryd.results27, go_sem, z0, z1]) rfl ?_
            have hM5 : Memo w5 m (n + bud d - 1 + 1) := Memo.put (by rw [hS]; exact hkl) hown2.isMap HD2.out (by rw [← HRN.out.1, ← HRN.out.2]; exact hown5)
            have hge : ∀ k, some (W + 1) = some k → w.heap.size ≤ k ∨ some m = some k := fun k hk => .inl (by cases hk; omega)
            have hne : some m ≠ some (W + 1) := by simp; omega
            exact ⟨rfl, grownBy_onto (grownBy_onto (grownBy_trans hg0c hgrow5) (grownBy_setCell _ _ _) hge) (grownBy_setCell _ _ _) hge, ((hM5.kept (grownBy_setCell _ _ _) hne).kept (grownBy_setCell _ _ _) hne).mono (by omega)⟩
end Go.Proofs.YtefmioppamdceaaDoor
