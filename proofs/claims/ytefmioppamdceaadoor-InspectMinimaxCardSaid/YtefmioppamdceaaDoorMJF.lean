/- Inspect: the worth of every season, and Dresher. -/
import Derived.Test.YtefmioppamdceaaDoorMJE
import Derived.Test.YtefmioppamdceaaDoorMKC
namespace Go.Proofs.YtefmioppamdceaaDoor
open Go.RowKit Go.Shelf Go.Maps

theorem value_calls : ∀ (d : Nat), d ≤ 14 → ∀ (l m n : Nat) (w : World), l ≤ 14 → n + bud d ≤ 1000000 → Glob w → 3 ≤ m → Memo w m n →
    Calls Tryd.prog 27 #[.map (some m), seaV d l] w (MemoRes w m (n + bud d) (ratV (valR d l)))
  | 0, _, l, m, n, w, hl, hn, hG, hm, hM => value_of 0 l m n w (by omega) hl hG hm hM hn (fun _ h => by omega) (fun _ _ _ _ h => by omega)
  | d + 1, hd, l, m, n, w, hl, hn, hG, hm, hM => by
    refine value_of (d + 1) l m n w hd hl hG hm hM hn (fun h0 h => look_bd _ _ hd h0 h) (fun w' hG' hM' h0 h => ?_)
    exact today_of (d + 1) l m n w' (by omega) hd hl hG' hm hM' hn (fun l' n' w'' hl' hn' hG2 hM2 => value_calls d (by omega) l' m n' w'' hl' hn' hG2 hm hM2)
/-- Days and looks that may be. -/
def DayOk (d l : Int) : Prop := 0 ≤ d ∧ d ≤ 14 ∧ 0 ≤ l ∧ l ≤ 14
instance (d l : Int) : Decidable (DayOk d l) := by unfold DayOk; infer_instance
def seaOf (d l : Int) : Value := if DayOk d l then .tuple #[.agg #[.int .i64 d, .int .i64 l], .int .i64 0] else .tuple #[.agg #[.int .i64 0, .int .i64 0], .int .i64 2]
set_option maxRecDepth 100000 in
theorem seasoned_calls (w : World) (d l : Int) (hd : -9223372036854775808 ≤ d ∧ d ≤ 9223372036854775807) (hl : -9223372036854775808 ≤ l ∧ l ≤ 9223372036854775807) :
    Calls Tryd.prog 26 #[.int .i64 d, .int .i64 l] w fun e w' => e = .returned (seaOf d l) ∧ Ext w w' := by
  go_enter Tryd.func26, Tryd.ntmps26
  by_cases h : DayOk d l
  · obtain ⟨h1, h2, h3, h4⟩ := id h
    have e : seaOf d l = .tuple #[.agg #[.int .i64 d, .int .i64 l], .int .i64 0] := if_pos h
    have k1 : ¬ d < 0 := by omega
    have k2 : ¬ 14 < d := by omega
    have k3 : ¬ l < 0 := by omega
    have k4 : ¬ 14 < l := by omega
    rw [e]
    go_wp2_with fail
    refine bodyPost_ret (v := .tuple #[.agg #[.int .i64 d, .int .i64 l], .int .i64 0]) (by simp [results, Tryd.results26, go_sem]) rfl ?_
    exact ⟨rfl, (by repeat (first | exact Ext.refl _ | assumption | refine Ext.alloc ?_ _ | refine Ext.drewN ?_ _ | refine Ext.drew ?_))⟩
  · have e : seaOf d l = .tuple #[.agg #[.int .i64 0, .int .i64 0], .int .i64 2] := if_neg h
    have hN : Hid (¬ DayOk d l) := Lib.hid h
    rw [e]
    go_wp2_with fail
    all_goals
      first
        | (exfalso; refine hN.out ?_; unfold DayOk; omega)
        | (refine bodyPost_ret (v := .tuple #[.agg #[.int .i64 0, .int .i64 0], .int .i64 2]) (by simp [results, Tryd.results26, go_sem]) rfl ?_
           exact ⟨rfl, (by repeat (first | exact Ext.refl _ | assumption | refine Ext.alloc ?_ _ | refine Ext.drewN ?_ _ | refine Ext.drew ?_))⟩)
def dresV (d l : Int) : Value := if DayOk d l then .tuple #[ratV (valR d.toNat l.toNat), .int .i64 0] else .tuple #[.agg #[.int .i64 0, .int .i64 0], .int .i64 2]
set_option maxRecDepth 100000 in
theorem dresher_calls (w : World) (d l : Int) (hG : Glob w) (hd : -9223372036854775808 ≤ d ∧ d ≤ 9223372036854775807) (hl : -9223372036854775808 ≤ l ∧ l ≤ 9223372036854775807) :
    Calls Tryd.prog 10 #[.int .i64 d, .int .i64 l] w fun e w' => e = .returned (dresV d l) ∧ Ext w w' := by
  have hsc := fun W => seasoned_calls W d l hd hl
  by_cases h : DayOk d l
  · obtain ⟨h1, h2, h3, h4⟩ := id h
    have e : seaOf d l = .tuple #[.agg #[.int .i64 d, .int .i64 l], .int .i64 0] := if_pos h
    have e2 : dresV d l = .tuple #[ratV (valR d.toNat l.toNat), .int .i64 0] := if_pos h
    obtain ⟨rn, hrn⟩ : ∃ rn, rn = (valR d.toNat l.toNat).num := ⟨_, rfl⟩
    obtain ⟨rd, hrd⟩ : ∃ rd : Int, rd = ((valR d.toNat l.toNat).den : Int) := ⟨_, rfl⟩
    have e3 : ratV (valR d.toNat l.toNat) = .agg #[.int .i64 rn, .int .i64 rd] := by rw [ratV, hrn, hrd]
    have hb : bud d.toNat ≤ bud 14 := by
      have hmono : ∀ a b, a ≤ b → bud a ≤ bud b := by
        intro a b hab
        induction hab with
        | refl => exact Nat.le_refl _
        | step _ ih => simp only [bud]; omega
      exact hmono _ _ (by omega)
    have hb14 : bud 14 = 16383 := by decide
    have hvc : ∀ W m, Glob W → 3 ≤ m → Memo W m 0 → Calls Tryd.prog 27 #[.map (some m), .agg #[.int .i64 d, .int .i64 l]] W (MemoRes W m (bud d.toNat) (.agg #[.int .i64 rn, .int .i64 rd])) := by
      intro W m h1 h2 h3
      have h := value_calls d.toNat (by omega) l.toNat m 0 W (by omega) (by omega) h1 h2 h3
      rw [seaV, e3, show ((d.toNat : Nat) : Int) = d by omega, show ((l.toNat : Nat) : Int) = l by omega, Nat.zero_add] at h
      exact h
    rw [e2, e3]
    simp only [e] at hsc
    clear hrn hrd e e2 e3 hb hb14
    have HG := Lib.hid hG
    have hl3 := hG.lt
    clear hG
    have hmm := @run_makeMap Tryd.prog
    go_enter Tryd.func10, Tryd.ntmps10
    go_wp2_with fail
    have hx1 : Ext w (w.alloc (Obj.cells #[.int .i64 0, .int .i64 0] 23)) := (by repeat (first | exact Ext.refl _ | assumption | refine Ext.alloc ?_ _ | refine Ext.drewN ?_ _ | refine Ext.drew ?_))
    have hsp := Spot.new w 23 (.int .i64 0) (.int .i64 0)
    obtain ⟨W, hW⟩ : ∃ W, W = w.heap.size := ⟨_, rfl⟩
    generalize hw1 : (w.alloc (Obj.cells #[.int .i64 0, .int .i64 0] 23)) = w1 at *
    rw [← hW] at hsp ⊢
    have hWw : w.heap.size ≤ W := by omega
    clear hw1 hW
    refine (hsc w1).mono ?_
    rintro e w2 ⟨rfl, hx2⟩
    have hsp := hsp.ext hx2
    have hx02 := hx1.trans hx2
    clear hsc hx1 hx2
    go_wp2_with fail
    have hx23 : Ext w2 ((w2.alloc (Obj.cells #[.int .i64 d, .int .i64 l] 58)).alloc (.map #[] 0)) := (by repeat (first | exact Ext.refl _ | assumption | refine Ext.alloc ?_ _ | refine Ext.drewN ?_ _ | refine Ext.drew ?_))
    have hMn : Memo ((w2.alloc (Obj.cells #[.int .i64 d, .int .i64 l] 58)).alloc (.map #[] 0)) (w2.heap.size + 1) 0 := by
      have h := Memo.new (w2.alloc (Obj.cells #[.int .i64 d, .int .i64 l] 58))
      rwa [World.size_alloc] at h
    have hx3 := hx02.trans hx23
    refine (hvc _ _ (HG.out.ext hx3) (by have := hx02.size; omega) hMn).mono ?_
    rintro e w4 ⟨rfl, hg4, -⟩
    have hsp := spot_far (hsp.ext hx23) hg4 (by have := hsp.lt; simp; omega)
    have hx4 : Ext w w4 := hx3.onto hg4 (fun q hq => by simp only [Option.some.injEq] at hq; have := hx02.size; omega)
    obtain ⟨s0, hs0⟩ := Option.isSome_iff_exists.1 hsp.some0
    obtain ⟨s1, hs1⟩ := Option.isSome_iff_exists.1 hsp.some1
    have f0 := hsp.free0
    have f1 := hsp.free1
    have hlq := hsp.lt
    clear hvc hmm hx23 hMn hx3
    go_wp2_with fail
    obtain ⟨q0, q1⟩ := hsp.put (.int .i64 rn) (.int .i64 rd)
    refine bodyPost_ret (v := .tuple #[.agg #[.int .i64 rn, .int .i64 rd], .int .i64 0]) (by simp [results, Tryd.results10, go_sem, q0, q1]) rfl ?_
    exact ⟨rfl, (hx4.setOwn _ _ hWw).setOwn _ _ hWw⟩
  · have e : seaOf d l = .tuple #[.agg #[.int .i64 0, .int .i64 0], .int .i64 2] := if_neg h
    have e2 : dresV d l = .tuple #[.agg #[.int .i64 0, .int .i64 0], .int .i64 2] := if_neg h
    rw [e2]
    simp only [e] at hsc
    clear e e2
    go_enter Tryd.func10, Tryd.ntmps10
    go_wp2_with fail
    have hx1 : Ext w (w.alloc (Obj.cells #[.int .i64 0, .int .i64 0] 23)) := (by repeat (first | exact Ext.refl _ | assumption | refine Ext.alloc ?_ _ | refine Ext.drewN ?_ _ | refine Ext.drew ?_))
    have hsp := Spot.new w 23 (.int .i64 0) (.int .i64 0)
    obtain ⟨W, hW⟩ : ∃ W, W = w.heap.size := ⟨_, rfl⟩
    generalize hw1 : (w.alloc (Obj.cells #[.int .i64 0, .int .i64 0] 23)) = w1 at *
    rw [← hW] at hsp ⊢
    have hWw : w.heap.size ≤ W := by omega
    clear hw1 hW
    refine (hsc w1).mono ?_
    rintro e w2 ⟨rfl, hx2⟩
    have hsp := hsp.ext hx2
    have hx02 := hx1.trans hx2
    obtain ⟨s0, hs0⟩ := Option.isSome_iff_exists.1 hsp.some0
    obtain ⟨s1, hs1⟩ := Option.isSome_iff_exists.1 hsp.some1
    have f0 := hsp.free0
    have f1 := hsp.free1
    have hlq := hsp.lt
    clear hsc hx1 hx2
    go_wp2_with fail
    obtain ⟨q0, q1⟩ := hsp.put (.int .i64 0) (.int .i64 0)
    have q0 := (((Ext.refl _).alloc (Obj.cells #[.int .i64 0, .int .i64 0] 58)).cell (p := ⟨W, 0, none⟩) (by simpa using hlq)).trans q0
    have q1 := (((Ext.refl _).alloc (Obj.cells #[.int .i64 0, .int .i64 0] 58)).cell (p := ⟨W, 1, none⟩) (by simpa using hlq)).trans q1
    refine bodyPost_ret (v := .tuple #[.agg #[.int .i64 0, .int .i64 0], .int .i64 2]) (by simp [results, Tryd.results10, go_sem, q0, q1]) rfl ?_
    exact ⟨rfl, ((hx02.setOwn _ _ hWw).setOwn _ _ hWw).alloc _⟩
end Go.Proofs.YtefmioppamdceaaDoor

/- Inspect, the boxes: the difference of fractions that are not below 0; a fraction's box. -/
namespace Go.Proofs.YtefmioppamdceaaDoor
open Go.RowKit Go.Shelf

/-- Two fractions' sum can be reckoned. -/
structure SumOk (a b : Rat) : Prop where
  x : -4611686018427387904 ≤ a.num * (b.den : Int) ∧ a.num * (b.den : Int) ≤ 4611686018427387904
  y : -4611686018427387904 ≤ b.num * (a.den : Int) ∧ b.num * (a.den : Int) ≤ 4611686018427387904
  s : -4611686018427387904 ≤ a.num * (b.den : Int) + b.num * (a.den : Int) ∧ a.num * (b.den : Int) + b.num * (a.den : Int) ≤ 4611686018427387904
  d : (a.den : Int) * (b.den : Int) ≤ 4611686018427387904
set_option maxRecDepth 100000 in
set_option maxHeartbeats 2000000 in
theorem plusS_calls (w : World) (a b : Rat) (h : SumOk a b) :
    Calls Tryd.prog 38 #[ratV a, ratV b] w fun e w' => e = .returned (ratV (a + b)) ∧ Ext w w' := by
  obtain ⟨h1, h2, h5, h3⟩ := h
  have h4 : 0 < (a.den : Int) * (b.den : Int) := Int.mul_pos (by have := a.den_pos; omega) (by have := b.den_pos; omega)
  have hfc := fun W => fractionI_calls W (a.num * (b.den : Int) + b.num * (a.den : Int)) ((a.den : Int) * (b.den : Int)) h5 ⟨h4, h3⟩
  rw [← addR] at hfc
  obtain ⟨rn, hrn⟩ : ∃ rn, rn = (a + b).num := ⟨_, rfl⟩
  obtain ⟨rd, hrd⟩ : ∃ rd : Int, rd = ((a + b).den : Int) := ⟨_, rfl⟩
  have HV : Hid (.agg #[.int .i64 rn, .int .i64 rd] = ratV (a + b)) := Lib.hid (by rw [ratV, hrn, hrd])
  rw [← HV.out] at hfc ⊢
  unfold ratV
  have w1 : IntKind.i64.wrap (a.num * (b.den : Int)) = a.num * (b.den : Int) := by rw [IntKind.wrap_i64]; omega
  have w2 : IntKind.i64.wrap (b.num * (a.den : Int)) = b.num * (a.den : Int) := by rw [IntKind.wrap_i64]; omega
  have w3 : IntKind.i64.wrap ((a.den : Int) * (b.den : Int)) = (a.den : Int) * (b.den : Int) := by rw [IntKind.wrap_i64]; omega
  have w4 : IntKind.i64.wrap (a.num * (b.den : Int) + b.num * (a.den : Int)) = a.num * (b.den : Int) + b.num * (a.den : Int) := by rw [IntKind.wrap_i64]; omega
  clear h1 h2 h3 h4 h5
  generalize a.num = an at *
  generalize (a.den : Int) = ad at *
  generalize b.num = bn at *
  generalize (b.den : Int) = bd at *
  clear hrn hrd
  go_enter Tryd.func38, Tryd.ntmps38
  go_wp2_with fail
  obtain ⟨w1, hw1⟩ : ∃ w1, w1 = (((w.alloc (Obj.cells #[.int .i64 an, .int .i64 ad] 23)).alloc (Obj.cells #[.int .i64 bn, .int .i64 bd] 23)).alloc (Obj.cells #[.int .i64 0, .int .i64 0] 23)) := ⟨_, rfl⟩
  obtain ⟨W, hW⟩ : ∃ W, W = w.heap.size := ⟨_, rfl⟩
  have hx1 : Ext w w1 := by rw [hw1]; exact (by repeat (first | exact Ext.refl _ | assumption | refine Ext.alloc ?_ _ | refine Ext.drewN ?_ _ | refine Ext.drew ?_))
  have a0 : w1.cell? ⟨W, 0, none⟩ = some (.int .i64 an) := by rw [hw1, hW]; simp [go_sem]
  have a1 : w1.cell? ⟨W, 1, none⟩ = some (.int .i64 ad) := by rw [hw1, hW]; simp [go_sem]
  have b0 : w1.cell? ⟨W + 1, 0, none⟩ = some (.int .i64 bn) := by rw [hw1, hW]; simp [go_sem]
  have b1 : w1.cell? ⟨W + 1, 1, none⟩ = some (.int .i64 bd) := by rw [hw1, hW]; simp [go_sem]
  have hsp : Spot w1 (W + 2) := by rw [hw1, hW]; exact ⟨by simp, by simp [go_sem], by simp [go_sem], by simp [go_sem], by simp [go_sem]⟩
  have hWw : w.heap.size ≤ W := by omega
  have hlW : W + 2 < w1.heap.size := hsp.lt
  rw [← hw1, ← hW]
  clear hw1 hW
  refine (hfc w1).mono ?_
  rintro e w2 ⟨rfl, hx2⟩
  have hsq := hsp.ext hx2
  have hxq := hx1.trans hx2
  obtain ⟨s0, hs0⟩ := Option.isSome_iff_exists.1 hsq.some0
  obtain ⟨s1, hs1⟩ := Option.isSome_iff_exists.1 hsq.some1
  have f0 := hsq.free0
  have f1 := hsq.free1
  have hlq := hsq.lt
  go_wp2_with fail
  obtain ⟨q0, q1⟩ := hsq.put (.int .i64 rn) (.int .i64 rd)
  refine bodyPost_ret (v := .agg #[.int .i64 rn, .int .i64 rd]) (by simp [results, Tryd.results38, go_sem, q0, q1]) rfl ?_
  first
    | exact ⟨by rw [HV.out], (hxq.setOwn _ _ (show w.heap.size ≤ W + 2 by omega)).setOwn _ _ (show w.heap.size ≤ W + 2 by omega)⟩
    | exact ⟨by rw [HV.out], ((hxq.setOwn _ _ (show w.heap.size ≤ W + 2 by omega)).setOwn _ _ (show w.heap.size ≤ W + 2 by omega)).drew⟩
set_option maxRecDepth 100000 in
set_option maxHeartbeats 2000000 in
theorem minusS_calls (w : World) (a b : Rat) (h : SumOk a (-b)) (hb : -4611686018427387904 ≤ b.num ∧ b.num ≤ 4611686018427387904) :
    Calls Tryd.prog 40 #[ratV a, ratV b] w fun e w' => e = .returned (ratV (a - b)) ∧ Ext w w' := by
  have hfc := fun W => plusS_calls W a (-b) h
  rw [← Rat.sub_eq_add_neg] at hfc
  have hnv : ratV (-b) = .agg #[.int .i64 (-b.num), .int .i64 (b.den : Int)] := rfl
  rw [hnv] at hfc
  have hwn : IntKind.i64.wrap (-b.num) = -b.num := by rw [IntKind.wrap_i64]; omega
  clear h hb hnv
  obtain ⟨rn, hrn⟩ : ∃ rn, rn = (a - b).num := ⟨_, rfl⟩
  obtain ⟨rd, hrd⟩ : ∃ rd : Int, rd = ((a - b).den : Int) := ⟨_, rfl⟩
  have HV : Hid (.agg #[.int .i64 rn, .int .i64 rd] = ratV (a - b)) := Lib.hid (by rw [ratV, hrn, hrd])
  rw [← HV.out] at hfc ⊢
  unfold ratV at hfc ⊢
  generalize a.num = an at *
  generalize (a.den : Int) = ad at *
  generalize b.num = bn at *
  generalize (b.den : Int) = bd at *
  clear hrn hrd
  go_enter Tryd.func40, Tryd.ntmps40
  go_wp2_with fail
  obtain ⟨w1, hw1⟩ : ∃ w1, w1 = (((w.alloc (Obj.cells #[.int .i64 an, .int .i64 ad] 23)).alloc (Obj.cells #[.int .i64 bn, .int .i64 bd] 23)).alloc (Obj.cells #[.int .i64 0, .int .i64 0] 23)) := ⟨_, rfl⟩
  obtain ⟨W, hW⟩ : ∃ W, W = w.heap.size := ⟨_, rfl⟩
  have hx1 : Ext w w1 := by rw [hw1]; exact (by repeat (first | exact Ext.refl _ | assumption | refine Ext.alloc ?_ _ | refine Ext.drewN ?_ _ | refine Ext.drew ?_))
  have a0 : w1.cell? ⟨W, 0, none⟩ = some (.int .i64 an) := by rw [hw1, hW]; simp [go_sem]
  have a1 : w1.cell? ⟨W, 1, none⟩ = some (.int .i64 ad) := by rw [hw1, hW]; simp [go_sem]
  have b0 : w1.cell? ⟨W + 1, 0, none⟩ = some (.int .i64 bn) := by rw [hw1, hW]; simp [go_sem]
  have b1 : w1.cell? ⟨W + 1, 1, none⟩ = some (.int .i64 bd) := by rw [hw1, hW]; simp [go_sem]
  have hsp : Spot w1 (W + 2) := by rw [hw1, hW]; exact ⟨by simp, by simp [go_sem], by simp [go_sem], by simp [go_sem], by simp [go_sem]⟩
  have hWw : w.heap.size ≤ W := by omega
  have hlW : W + 2 < w1.heap.size := hsp.lt
  rw [← hw1, ← hW]
  clear hw1 hW
  refine (hfc w1).mono ?_
  rintro e w2 ⟨rfl, hx2⟩
  have hsq := hsp.ext hx2
  have hxq := hx1.trans hx2
  obtain ⟨s0, hs0⟩ := Option.isSome_iff_exists.1 hsq.some0
  obtain ⟨s1, hs1⟩ := Option.isSome_iff_exists.1 hsq.some1
  have f0 := hsq.free0
  have f1 := hsq.free1
  have hlq := hsq.lt
  go_wp2_with fail
  obtain ⟨q0, q1⟩ := hsq.put (.int .i64 rn) (.int .i64 rd)
  refine bodyPost_ret (v := .agg #[.int .i64 rn, .int .i64 rd]) (by simp [results, Tryd.results40, go_sem, q0, q1]) rfl ?_
  first
    | exact ⟨by rw [HV.out], (hxq.setOwn _ _ (show w.heap.size ≤ W + 2 by omega)).setOwn _ _ (show w.heap.size ≤ W + 2 by omega)⟩
    | exact ⟨by rw [HV.out], ((hxq.setOwn _ _ (show w.heap.size ≤ W + 2 by omega)).setOwn _ _ (show w.heap.size ≤ W + 2 by omega)).drew⟩
/-- The difference of two gains. -/
theorem sum_gains {a b : Rat} (ha : RBd a 1862340480) (hb : RBd b 1862340480) (a0 : 0 ≤ a) (b0 : 0 ≤ b) : SumOk a (-b) := by
  have a1 := Rat.num_nonneg.2 a0
  have b1 := Rat.num_nonneg.2 b0
  have a2 := a.den_pos
  have b2 := b.den_pos
  have a3 := ha.num
  have a4 := ha.den
  have b3 := hb.num
  have b4 := hb.den
  have e1 : (-b).num = -b.num := rfl
  have e2 : (-b).den = b.den := rfl
  have x1 : a.num * (b.den : Int) ≤ 1862340480 * 1862340480 := Int.mul_le_mul a3.2 b4 (by omega) (by omega)
  have x2 : b.num * (a.den : Int) ≤ 1862340480 * 1862340480 := Int.mul_le_mul b3.2 a4 (by omega) (by omega)
  have x3 : 0 ≤ a.num * (b.den : Int) := Int.mul_nonneg a1 (by omega)
  have x4 : 0 ≤ b.num * (a.den : Int) := Int.mul_nonneg b1 (by omega)
  have x5 : (a.den : Int) * (b.den : Int) ≤ 1862340480 * 1862340480 := Int.mul_le_mul a4 b4 (by omega) (by omega)
  refine ⟨?_, ?_, ?_, ?_⟩
  · rw [e2]; omega
  · rw [e1, Int.neg_mul]; omega
  · rw [e1, e2, Int.neg_mul]; omega
  · rw [e2]; omega
theorem ratV_inv {x : Int} (hx : 1 ≤ x) : ratV (1 / (x : Rat)) = .agg #[.int .i64 1, .int .i64 x] ∧ RBd (1 / (x : Rat)) x := by
  have h := invR (b := (x : Rat)) (by show 0 < x; omega)
  have e : 1 / (x : Rat) = (x : Rat)⁻¹ := by rw [Rat.div_def, Rat.one_mul]
  rw [e]
  have e1 : ((x : Rat)⁻¹).num = 1 := h.1
  have e2 : (((x : Rat)⁻¹).den : Int) = x := h.2
  exact ⟨by rw [ratV, e1, e2], ⟨by rw [e1]; omega, by rw [e2]; omega⟩⟩
theorem ratV_nat (k : Nat) : ratV (k : Rat) = .agg #[.int .i64 k, .int .i64 1] ∧ RBd (k : Rat) (k + 1) := ⟨rfl, ⟨by show -((k : Int) + 1) ≤ (k : Int) ∧ (k : Int) ≤ k + 1; omega, by show (1 : Int) ≤ k + 1; omega⟩⟩
/-- A fraction lies in a box. -/
structure BoxR (w : World) (b : Nat) (q : Rat) : Prop where
  sp : Spot w b
  c0 : w.cell? ⟨b, 0, none⟩ = some (.int .i64 q.num)
  c1 : w.cell? ⟨b, 1, none⟩ = some (.int .i64 q.den)
theorem BoxR.ext {w w' : World} {b : Nat} {q : Rat} (h : BoxR w b q) (hx : Ext w w') : BoxR w' b q := ⟨h.sp.ext hx, (hx.cell (p := ⟨b, 0, none⟩) h.sp.lt).trans h.c0, (hx.cell (p := ⟨b, 1, none⟩) h.sp.lt).trans h.c1⟩
theorem BoxR.far {w w' : World} {b : Nat} {q : Rat} {row : Option Nat} (h : BoxR w b q) (hg : w.grownBy w' row) (hne : some b ≠ row) : BoxR w' b q := ⟨spot_far h.sp hg hne, (grownBy_cell hg (p := ⟨b, 0, none⟩) h.sp.lt hne).trans h.c0, (grownBy_cell hg (p := ⟨b, 1, none⟩) h.sp.lt hne).trans h.c1⟩
theorem BoxR.put {w : World} {b : Nat} (h : Spot w b) (q : Rat) {x y : Int} (hx : x = q.num) (hy : y = (q.den : Int)) : BoxR ((w.setCell ⟨b, 0, none⟩ (.int .i64 x)).setCell ⟨b, 1, none⟩ (.int .i64 y)) b q := by
  subst hx
  subst hy
  obtain ⟨h0, h1⟩ := h.put (.int .i64 q.num) (.int .i64 (q.den : Int))
  exact ⟨(h.set _ _ _).set _ _ _, h0, h1⟩
theorem grown_put2 (w : World) (b : Nat) (u v : Value) : w.grownBy ((w.setCell ⟨b, 0, none⟩ u).setCell ⟨b, 1, none⟩ v) (some b) := grownBy_trans (grownBy_setCell w ⟨b, 0, none⟩ u) (grownBy_setCell _ ⟨b, 1, none⟩ v)
end Go.Proofs.YtefmioppamdceaaDoor
