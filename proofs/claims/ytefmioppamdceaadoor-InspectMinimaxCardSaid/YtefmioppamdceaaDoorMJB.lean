/- Inspect: plus, minus, times, over of fractions in lowest terms. -/
import Derived.Test.YtefmioppamdceaaDoorMKE
import Derived.Deep.RegionHeld3
import Derived.BigRegion
namespace Go.Proofs.YtefmioppamdceaaDoor
open Go.RowKit Go.Shelf

/-- How great a fraction's numbers are. -/
structure RBd (q : Rat) (A : Int) : Prop where
  num : -A ≤ q.num ∧ q.num ≤ A
  den : (q.den : Int) ≤ A
theorem RBd.one {q : Rat} {A : Int} (h : RBd q A) : 1 ≤ A := by have := q.den_pos; have := h.den; omega
theorem RBd.neg {q : Rat} {A : Int} (h : RBd q A) : RBd (-q) A := ⟨by have := h.num; have e : (-q).num = -q.num := rfl; omega, h.den⟩
theorem addR (a b : Rat) : a + b = Rat.divInt (a.num * (b.den : Int) + b.num * (a.den : Int)) ((a.den : Int) * (b.den : Int)) := by
  rw [← Rat.divInt_add_divInt _ _ (by have := a.den_pos; omega) (by have := b.den_pos; omega), Rat.num_divInt_den, Rat.num_divInt_den]
theorem mulB {x y A B : Int} (hx : -A ≤ x ∧ x ≤ A) (hy : -B ≤ y ∧ y ≤ B) : -(A * B) ≤ x * y ∧ x * y ≤ A * B := by
  have h : (x * y).natAbs ≤ A.natAbs * B.natAbs := by rw [Int.natAbs_mul]; exact Nat.mul_le_mul (by omega) (by omega)
  have e : ((A.natAbs * B.natAbs : Nat) : Int) = A * B := by rw [Int.natCast_mul, show (A.natAbs : Int) = A by omega, show (B.natAbs : Int) = B by omega]
  omega
set_option maxRecDepth 100000 in
set_option maxHeartbeats 2000000 in
theorem plusI_calls (w : World) (a b : Rat) (A B : Int) (ha : RBd a A) (hb : RBd b B) (hAB : 2 * (A * B) ≤ 4611686018427387904) :
    Calls Tryd.prog 38 #[ratV a, ratV b] w fun e w' => e = .returned (ratV (a + b)) ∧ Ext w w' := by
  have h1 := mulB ha.num (show -B ≤ (b.den : Int) ∧ (b.den : Int) ≤ B by have := hb.den; have := b.den_pos; omega)
  have h2 := mulB hb.num (show -A ≤ (a.den : Int) ∧ (a.den : Int) ≤ A by have := ha.den; have := a.den_pos; omega)
  have h3 := mulB (show -A ≤ (a.den : Int) ∧ (a.den : Int) ≤ A by have := ha.den; have := a.den_pos; omega) (show -B ≤ (b.den : Int) ∧ (b.den : Int) ≤ B by have := hb.den; have := b.den_pos; omega)
  have h4 : 0 < (a.den : Int) * (b.den : Int) := Int.mul_pos (by have := a.den_pos; omega) (by have := b.den_pos; omega)
  rw [Int.mul_comm B A] at h2
  have hfc := fun W => fractionI_calls W (a.num * (b.den : Int) + b.num * (a.den : Int)) ((a.den : Int) * (b.den : Int)) (by omega) (by omega)
  rw [← addR] at hfc
  obtain ⟨rn, hrn⟩ : ∃ rn, rn = (a + b).num := ⟨_, rfl⟩
  obtain ⟨rd, hrd⟩ : ∃ rd : Int, rd = ((a + b).den : Int) := ⟨_, rfl⟩
  have HV : Hid (.agg #[.int .i64 rn, .int .i64 rd] = ratV (a + b)) := Lib.hid (by rw [ratV, hrn, hrd])
  rw [← HV.out] at hfc ⊢
  unfold ratV
  have w1 : IntKind.i64.wrap (a.num * (b.den : Int)) = a.num * (b.den : Int) := by rw [IntKind.wrap_i64]; omega
  have w2 : IntKind.i64.wrap (b.num * (a.den : Int)) = b.num * (a.den : Int) := by rw [IntKind.wrap_i64]; omega
  have w3 : IntKind.i64.wrap ((a.den : Int) * (b.den : Int)) = (a.den : Int) * (b.den : Int) := by rw [IntKind.wrap_i64]; omega
  have w4 : IntKind.i64.wrap (a.num * (b.den : Int) + b.num * (a.den : Int)) = a.num * (b.den : Int) + b.num * (a.den : Int) := by rw [IntKind.wrap_i64]; omega
  clear h1 h2 h3 h4 hAB ha hb
  generalize a.num = an at *
  generalize (a.den : Int) = ad at *
  generalize b.num = bn at *
  generalize (b.den : Int) = bd at *
  clear hrn hrd
  go_enter Tryd.func38, Tryd.ntmps38
  go_wp2_with fail
  obtain ⟨w1, hw1⟩ : ∃ w1, w1 = (((w.alloc (Obj.cells #[.int .i64 an, .int .i64 ad] 23)).alloc (Obj.cells #[.int .i64 bn, .int .i64 bd] 23)).alloc (Obj.cells #[.int .i64 0, .int .i64 0] 23)) := ⟨_, rfl⟩
  obtain ⟨W, hW⟩ : ∃ W, W = w.heap.size := ⟨_, rfl⟩
  have hx1 : Ext w w1 := by rw [hw1]; exact (by repeat (first | exact Ext.refl _ | assumption | refine Ext.alloc ?_ _ | refine Ext.drewN ?_ _ | refine Ext.drew ?_))
  have a0 : w1.cell? ⟨W, 0, none⟩ = some (.int .i64 an) := by rw [hw1, hW]; simp [go_sem]
  have a1 : w1.cell? ⟨W, 1, none⟩ = some (.int .i64 ad) := by rw [hw1, hW]; simp [go_sem]
  have b0 : w1.cell? ⟨W + 1, 0, none⟩ = some (.int .i64 bn) := by rw [hw1, hW]; simp [go_sem]
  have b1 : w1.cell? ⟨W + 1, 1, none⟩ = some (.int .i64 bd) := by rw [hw1, hW]; simp [go_sem]
  have hsp : Spot w1 (W + 2) := by rw [hw1, hW]; exact ⟨by simp, by simp [go_sem], by simp [go_sem], by simp [go_sem], by simp [go_sem]⟩
  have hWw : w.heap.size ≤ W := by omega
  have hlW : W + 2 < w1.heap.size := hsp.lt
  rw [← hw1, ← hW]
  clear hw1 hW
  refine (hfc w1).mono ?_
  rintro e w2 ⟨rfl, hx2⟩
  have hsq := hsp.ext hx2
  have hxq := hx1.trans hx2
  obtain ⟨s0, hs0⟩ := Option.isSome_iff_exists.1 hsq.some0
  obtain ⟨s1, hs1⟩ := Option.isSome_iff_exists.1 hsq.some1
  have f0 := hsq.free0
  have f1 := hsq.free1
  have hlq := hsq.lt
  go_wp2_with fail
  obtain ⟨q0, q1⟩ := hsq.put (.int .i64 rn) (.int .i64 rd)
  refine bodyPost_ret (v := .agg #[.int .i64 rn, .int .i64 rd]) (by simp [results, Tryd.results38, go_sem, q0, q1]) rfl ?_
  first
    | exact ⟨by rw [HV.out], (hxq.setOwn _ _ (show w.heap.size ≤ W + 2 by omega)).setOwn _ _ (show w.heap.size ≤ W + 2 by omega)⟩
    | exact ⟨by rw [HV.out], ((hxq.setOwn _ _ (show w.heap.size ≤ W + 2 by omega)).setOwn _ _ (show w.heap.size ≤ W + 2 by omega)).drew⟩
theorem mulR (a b : Rat) : (a * b).num = a.num.tdiv (Int.gcd a.num b.den) * b.num.tdiv (Int.gcd b.num a.den) ∧ ((a * b).den : Int) = (a.den : Int).tdiv (Int.gcd b.num a.den) * (b.den : Int).tdiv (Int.gcd a.num b.den) := by
  have h : (a * b).num = a.num.tdiv (Nat.gcd a.num.natAbs b.den) * b.num.tdiv (Nat.gcd b.num.natAbs a.den) ∧ (a * b).den = a.den / (Nat.gcd b.num.natAbs a.den) * (b.den / (Nat.gcd a.num.natAbs b.den)) := by
    show (Rat.mul a b).num = _ ∧ (Rat.mul a b).den = _
    unfold Rat.mul
    simp only [Int.divExact_eq_tdiv, Nat.divExact_eq_div]
    exact ⟨trivial, trivial⟩
  refine ⟨h.1, ?_⟩
  rw [h.2, Int.natCast_mul]
  rfl
theorem tdivB {x g A : Int} (hx : -A ≤ x ∧ x ≤ A) : -A ≤ x.tdiv g ∧ x.tdiv g ≤ A := by
  have h : (x.tdiv g).natAbs ≤ x.natAbs := by rw [Int.natAbs_tdiv]; exact Nat.div_le_self _ _
  omega
set_option maxRecDepth 100000 in
set_option maxHeartbeats 2000000 in
theorem timesI_calls (w : World) (a b : Rat) (A B : Int) (ha : RBd a A) (hb : RBd b B) (hA : A ≤ 4611686018427387904) (hB : B ≤ 4611686018427387904) (hAB : A * B ≤ 4611686018427387904) :
    Calls Tryd.prog 66 #[ratV a, ratV b] w fun e w' => e = .returned (ratV (a * b)) ∧ Ext w w' := by
  obtain ⟨g, hg⟩ : ∃ g : Int, g = (Int.gcd a.num b.den : Int) := ⟨_, rfl⟩
  obtain ⟨h, hh⟩ : ∃ h : Int, h = (Int.gcd b.num a.den : Int) := ⟨_, rfl⟩
  have han := ha.num
  have hbn := hb.num
  have had : -A ≤ (a.den : Int) ∧ (a.den : Int) ≤ A := by have := ha.den; have := a.den_pos; omega
  have hbd : -B ≤ (b.den : Int) ∧ (b.den : Int) ≤ B := by have := hb.den; have := b.den_pos; omega
  have hg0 : 0 < g := by rw [hg]; have := Int.gcd_pos_of_ne_zero_right a.num (show (b.den : Int) ≠ 0 by have := b.den_pos; omega); omega
  have hh0 : 0 < h := by rw [hh]; have := Int.gcd_pos_of_ne_zero_right b.num (show (a.den : Int) ≠ 0 by have := a.den_pos; omega); omega
  have hc1 := fun W => gcdI_calls W a.num b.den (by omega) (by omega)
  have hc2 := fun W => gcdI_calls W b.num a.den (by omega) (by omega)
  have hm := mulR a b
  rw [← hg, ← hh] at hm
  rw [← hg] at hc1
  rw [← hh] at hc2
  have b1 := tdivB (g := g) han
  have b2 := tdivB (g := h) hbn
  have b3 := tdivB (g := h) had
  have b4 := tdivB (g := g) hbd
  have b5 := mulB b1 b2
  have b6 := mulB b3 b4
  obtain ⟨rn, hrn⟩ : ∃ rn, rn = (a * b).num := ⟨_, rfl⟩
  obtain ⟨rd, hrd⟩ : ∃ rd : Int, rd = ((a * b).den : Int) := ⟨_, rfl⟩
  have HV : Hid (.agg #[.int .i64 rn, .int .i64 rd] = ratV (a * b)) := Lib.hid (by rw [ratV, hrn, hrd])
  rw [← HV.out]
  unfold ratV
  rw [← hrn, ← hrd] at hm
  generalize a.num = an at *
  generalize (a.den : Int) = ad at *
  generalize b.num = bn at *
  generalize (b.den : Int) = bd at *
  obtain ⟨p1, hp1⟩ : ∃ p, p = an.tdiv g := ⟨_, rfl⟩
  obtain ⟨p2, hp2⟩ : ∃ p, p = bn.tdiv h := ⟨_, rfl⟩
  obtain ⟨p3, hp3⟩ : ∃ p, p = ad.tdiv h := ⟨_, rfl⟩
  obtain ⟨p4, hp4⟩ : ∃ p, p = bd.tdiv g := ⟨_, rfl⟩
  rw [← hp1, ← hp2, ← hp3, ← hp4] at hm
  rw [← hp1] at b1
  rw [← hp2] at b2
  rw [← hp3] at b3
  rw [← hp4] at b4
  rw [← hp1, ← hp2] at b5
  rw [← hp3, ← hp4] at b6
  replace hp1 := hp1.symm
  replace hp2 := hp2.symm
  replace hp3 := hp3.symm
  replace hp4 := hp4.symm
  have hn1 := hm.1.symm
  have hn2 := hm.2.symm
  rw [hn1] at b5
  rw [hn2] at b6
  clear hrn hrd hg hh hm
  have hgz : ¬ g = 0 := by omega
  have hgz2 : (g == 0) = false := by simp; omega
  have hhz : ¬ h = 0 := by omega
  have hhz2 : (h == 0) = false := by simp; omega
  have hmx : max g 1 = g := by omega
  have hmx2 : max h 1 = h := by omega
  have hw1 : IntKind.i64.wrap rn = rn := by rw [IntKind.wrap_i64]; omega
  have hw2 : IntKind.i64.wrap rd = rd := by rw [IntKind.wrap_i64]; omega
  have hw3 : IntKind.i64.wrap p1 = p1 := by rw [IntKind.wrap_i64]; omega
  have hw4 : IntKind.i64.wrap p2 = p2 := by rw [IntKind.wrap_i64]; omega
  have hw5 : IntKind.i64.wrap p3 = p3 := by rw [IntKind.wrap_i64]; omega
  have hw6 : IntKind.i64.wrap p4 = p4 := by rw [IntKind.wrap_i64]; omega
  clear han hbn had hbd hA hB hAB ha hb b1 b2 b3 b4 b5 b6
  go_enter Tryd.func66, Tryd.ntmps66
  go_wp2_with fail
  obtain ⟨w1, hw1⟩ : ∃ w1, w1 = (((w.alloc (Obj.cells #[.int .i64 an, .int .i64 ad] 23)).alloc (Obj.cells #[.int .i64 bn, .int .i64 bd] 23)).alloc (Obj.cells #[.int .i64 0, .int .i64 0] 23)) := ⟨_, rfl⟩
  obtain ⟨W, hW⟩ : ∃ W, W = w.heap.size := ⟨_, rfl⟩
  have hx1 : Ext w w1 := by rw [hw1]; exact (by repeat (first | exact Ext.refl _ | assumption | refine Ext.alloc ?_ _ | refine Ext.drewN ?_ _ | refine Ext.drew ?_))
  have a0 : w1.cell? ⟨W, 0, none⟩ = some (.int .i64 an) := by rw [hw1, hW]; simp [go_sem]
  have a1 : w1.cell? ⟨W, 1, none⟩ = some (.int .i64 ad) := by rw [hw1, hW]; simp [go_sem]
  have b0 : w1.cell? ⟨W + 1, 0, none⟩ = some (.int .i64 bn) := by rw [hw1, hW]; simp [go_sem]
  have b1 : w1.cell? ⟨W + 1, 1, none⟩ = some (.int .i64 bd) := by rw [hw1, hW]; simp [go_sem]
  have hsp : Spot w1 (W + 2) := by rw [hw1, hW]; exact ⟨by simp, by simp [go_sem], by simp [go_sem], by simp [go_sem], by simp [go_sem]⟩
  have hWw : w.heap.size ≤ W := by omega
  have hlW : W + 2 < w1.heap.size := hsp.lt
  rw [← hw1, ← hW]
  clear hw1 hW
  have e0 := After.cell a0 (by show W < _; omega)
  have e1 := After.cell a1 (by show W < _; omega)
  have e2 := After.cell b0 (by show W + 1 < _; omega)
  have e3 := After.cell b1 (by show W + 1 < _; omega)
  refine wp_region_after (by kernel_rfl) (by kernel_rfl) ?_
  intro hne
  repeat (go_big_quiet_step (first | (go_at_call 41; with_reducible exact Calls.after (hc1 _)) | (go_at_call 41; with_reducible exact Calls.after (hc2 _))))
  refine wpQuiet_nil ?_
  intro w2 hx2
  clear e0 e1 e2 e3 hne
  have a0 := (hx2.cell (p := ⟨W, 0, none⟩) (by show W < _; omega)).trans a0
  have a1 := (hx2.cell (p := ⟨W, 1, none⟩) (by show W < _; omega)).trans a1
  have b0 := (hx2.cell (p := ⟨W + 1, 0, none⟩) (by show W + 1 < _; omega)).trans b0
  have b1 := (hx2.cell (p := ⟨W + 1, 1, none⟩) (by show W + 1 < _; omega)).trans b1
  have hsq := hsp.ext hx2
  have hxq := hx1.trans hx2
  obtain ⟨s0, hs0⟩ := Option.isSome_iff_exists.1 hsq.some0
  obtain ⟨s1, hs1⟩ := Option.isSome_iff_exists.1 hsq.some1
  have f0 := hsq.free0
  have f1 := hsq.free1
  have hlq := hsq.lt
  go_wp2_with fail
  go_region_held3 (fun w' => w'.cell? ⟨W, 0, none⟩ = some (.int .i64 an) ∧ w'.cell? ⟨W, 1, none⟩ = some (.int .i64 ad) ∧ w'.cell? ⟨W + 1, 0, none⟩ = some (.int .i64 bn) ∧ w'.cell? ⟨W + 1, 1, none⟩ = some (.int .i64 bd))
    (first | exact ⟨a0, a1, b0, b1⟩ | (refine ⟨?_, ?_, ?_, ?_⟩ <;> simp [go_sem, a0, a1, b0, b1]))
    (fail)
  rename_i hHeld
  clear hHeld
  obtain ⟨s0, hs0⟩ := Option.isSome_iff_exists.1 hsq.some0
  obtain ⟨s1, hs1⟩ := Option.isSome_iff_exists.1 hsq.some1
  have f0 := hsq.free0
  have f1 := hsq.free1
  have hlq := hsq.lt
  go_wp2_with fail
  obtain ⟨q0, q1⟩ := hsq.put (.int .i64 rn) (.int .i64 rd)
  refine bodyPost_ret (v := .agg #[.int .i64 rn, .int .i64 rd]) (by simp [results, Tryd.results66, go_sem, q0, q1]) rfl ?_
  first
    | exact ⟨by rw [HV.out], (hxq.setOwn _ _ (show w.heap.size ≤ W + 2 by omega)).setOwn _ _ (show w.heap.size ≤ W + 2 by omega)⟩
    | exact ⟨by rw [HV.out], ((hxq.setOwn _ _ (show w.heap.size ≤ W + 2 by omega)).setOwn _ _ (show w.heap.size ≤ W + 2 by omega)).drew⟩
set_option maxRecDepth 100000 in
set_option maxHeartbeats 2000000 in
theorem minusI_calls (w : World) (a b : Rat) (A B : Int) (ha : RBd a A) (hb : RBd b B) (hAB : 2 * (A * B) ≤ 4611686018427387904) :
    Calls Tryd.prog 40 #[ratV a, ratV b] w fun e w' => e = .returned (ratV (a - b)) ∧ Ext w w' := by
  have hfc := fun W => plusI_calls W a (-b) A B ha hb.neg hAB
  rw [← Rat.sub_eq_add_neg] at hfc
  have hnv : ratV (-b) = .agg #[.int .i64 (-b.num), .int .i64 (b.den : Int)] := rfl
  rw [hnv] at hfc
  have hwn : IntKind.i64.wrap (-b.num) = -b.num := by
    rw [IntKind.wrap_i64]
    have h1 := hb.num
    have h2 := ha.one
    have h3 : B ≤ A * B := by have := Int.mul_le_mul_of_nonneg_right h2 (show 0 ≤ B by have := hb.one; omega); omega
    omega
  clear ha hb hAB hnv
  obtain ⟨rn, hrn⟩ : ∃ rn, rn = (a - b).num := ⟨_, rfl⟩
  obtain ⟨rd, hrd⟩ : ∃ rd : Int, rd = ((a - b).den : Int) := ⟨_, rfl⟩
  have HV : Hid (.agg #[.int .i64 rn, .int .i64 rd] = ratV (a - b)) := Lib.hid (by rw [ratV, hrn, hrd])
  rw [← HV.out] at hfc ⊢
  unfold ratV at hfc ⊢
  generalize a.num = an at *
  generalize (a.den : Int) = ad at *
  generalize b.num = bn at *
  generalize (b.den : Int) = bd at *
  clear hrn hrd
  go_enter Tryd.func40, Tryd.ntmps40
  go_wp2_with fail
  obtain ⟨w1, hw1⟩ : ∃ w1, w1 = (((w.alloc (Obj.cells #[.int .i64 an, .int .i64 ad] 23)).alloc (Obj.cells #[.int .i64 bn, .int .i64 bd] 23)).alloc (Obj.cells #[.int .i64 0, .int .i64 0] 23)) := ⟨_, rfl⟩
  obtain ⟨W, hW⟩ : ∃ W, W = w.heap.size := ⟨_, rfl⟩
  have hx1 : Ext w w1 := by rw [hw1]; exact (by repeat (first | exact Ext.refl _ | assumption | refine Ext.alloc ?_ _ | refine Ext.drewN ?_ _ | refine Ext.drew ?_))
  have a0 : w1.cell? ⟨W, 0, none⟩ = some (.int .i64 an) := by rw [hw1, hW]; simp [go_sem]
  have a1 : w1.cell? ⟨W, 1, none⟩ = some (.int .i64 ad) := by rw [hw1, hW]; simp [go_sem]
  have b0 : w1.cell? ⟨W + 1, 0, none⟩ = some (.int .i64 bn) := by rw [hw1, hW]; simp [go_sem]
  have b1 : w1.cell? ⟨W + 1, 1, none⟩ = some (.int .i64 bd) := by rw [hw1, hW]; simp [go_sem]
  have hsp : Spot w1 (W + 2) := by rw [hw1, hW]; exact ⟨by simp, by simp [go_sem], by simp [go_sem], by simp [go_sem], by simp [go_sem]⟩
  have hWw : w.heap.size ≤ W := by omega
  have hlW : W + 2 < w1.heap.size := hsp.lt
  rw [← hw1, ← hW]
  clear hw1 hW
  refine (hfc w1).mono ?_
  rintro e w2 ⟨rfl, hx2⟩
  have hsq := hsp.ext hx2
  have hxq := hx1.trans hx2
  obtain ⟨s0, hs0⟩ := Option.isSome_iff_exists.1 hsq.some0
  obtain ⟨s1, hs1⟩ := Option.isSome_iff_exists.1 hsq.some1
  have f0 := hsq.free0
  have f1 := hsq.free1
  have hlq := hsq.lt
  go_wp2_with fail
  obtain ⟨q0, q1⟩ := hsq.put (.int .i64 rn) (.int .i64 rd)
  refine bodyPost_ret (v := .agg #[.int .i64 rn, .int .i64 rd]) (by simp [results, Tryd.results40, go_sem, q0, q1]) rfl ?_
  first
    | exact ⟨by rw [HV.out], (hxq.setOwn _ _ (show w.heap.size ≤ W + 2 by omega)).setOwn _ _ (show w.heap.size ≤ W + 2 by omega)⟩
    | exact ⟨by rw [HV.out], ((hxq.setOwn _ _ (show w.heap.size ≤ W + 2 by omega)).setOwn _ _ (show w.heap.size ≤ W + 2 by omega)).drew⟩
set_option maxRecDepth 100000 in
set_option maxHeartbeats 2000000 in
theorem overI_calls (w : World) (a b : Rat) (A B : Int) (ha : RBd a A) (hb : RBd b B) (h0 : 0 < b.num) (hA : A ≤ 4611686018427387904) (hB : B ≤ 4611686018427387904) (hAB : A * B ≤ 4611686018427387904) :
    Calls Tryd.prog 39 #[ratV a, ratV b] w fun e w' => e = .returned (ratV (a / b)) ∧ Ext w w' := by
  have hinv : b⁻¹.num = (b.den : Int) ∧ ((b⁻¹).den : Int) = b.num := by
    show (Rat.inv b).num = _ ∧ ((Rat.inv b).den : Int) = _
    unfold Rat.inv
    rw [dif_neg (by omega), dif_pos h0]
    exact ⟨rfl, by show ((b.num.natAbs : Nat) : Int) = _; omega⟩
  have hbi : RBd b⁻¹ B := ⟨by rw [hinv.1]; have := hb.den; have := b.den_pos; omega, by rw [hinv.2]; exact hb.num.2⟩
  have hfc := fun W => timesI_calls W a b⁻¹ A B ha hbi hA hB hAB
  rw [← Rat.div_def] at hfc
  have hnv : ratV b⁻¹ = .agg #[.int .i64 (b.den : Int), .int .i64 b.num] := by rw [ratV, hinv.1, hinv.2]
  rw [hnv] at hfc
  clear ha hb hA hB hAB hnv hinv hbi h0
  obtain ⟨rn, hrn⟩ : ∃ rn, rn = (a / b).num := ⟨_, rfl⟩
  obtain ⟨rd, hrd⟩ : ∃ rd : Int, rd = ((a / b).den : Int) := ⟨_, rfl⟩
  have HV : Hid (.agg #[.int .i64 rn, .int .i64 rd] = ratV (a / b)) := Lib.hid (by rw [ratV, hrn, hrd])
  rw [← HV.out] at hfc ⊢
  unfold ratV at hfc ⊢
  generalize a.num = an at *
  generalize (a.den : Int) = ad at *
  generalize b.num = bn at *
  generalize (b.den : Int) = bd at *
  clear hrn hrd
  go_enter Tryd.func39, Tryd.ntmps39
  go_wp2_with fail
  obtain ⟨w1, hw1⟩ : ∃ w1, w1 = (((w.alloc (Obj.cells #[.int .i64 an, .int .i64 ad] 23)).alloc (Obj.cells #[.int .i64 bn, .int .i64 bd] 23)).alloc (Obj.cells #[.int .i64 0, .int .i64 0] 23)) := ⟨_, rfl⟩
  obtain ⟨W, hW⟩ : ∃ W, W = w.heap.size := ⟨_, rfl⟩
  have hx1 : Ext w w1 := by rw [hw1]; exact (by repeat (first | exact Ext.refl _ | assumption | refine Ext.alloc ?_ _ | refine Ext.drewN ?_ _ | refine Ext.drew ?_))
  have a0 : w1.cell? ⟨W, 0, none⟩ = some (.int .i64 an) := by rw [hw1, hW]; simp [go_sem]
  have a1 : w1.cell? ⟨W, 1, none⟩ = some (.int .i64 ad) := by rw [hw1, hW]; simp [go_sem]
  have b0 : w1.cell? ⟨W + 1, 0, none⟩ = some (.int .i64 bn) := by rw [hw1, hW]; simp [go_sem]
  have b1 : w1.cell? ⟨W + 1, 1, none⟩ = some (.int .i64 bd) := by rw [hw1, hW]; simp [go_sem]
  have hsp : Spot w1 (W + 2) := by rw [hw1, hW]; exact ⟨by simp, by simp [go_sem], by simp [go_sem], by simp [go_sem], by simp [go_sem]⟩
  have hWw : w.heap.size ≤ W := by omega
  have hlW : W + 2 < w1.heap.size := hsp.lt
  rw [← hw1, ← hW]
  clear hw1 hW
  refine (hfc w1).mono ?_
  rintro e w2 ⟨rfl, hx2⟩
  have hsq := hsp.ext hx2
  have hxq := hx1.trans hx2
  obtain ⟨s0, hs0⟩ := Option.isSome_iff_exists.1 hsq.some0
  obtain ⟨s1, hs1⟩ := Option.isSome_iff_exists.1 hsq.some1
  have f0 := hsq.free0
  have f1 := hsq.free1
  have hlq := hsq.lt
  go_wp2_with fail
  obtain ⟨q0, q1⟩ := hsq.put (.int .i64 rn) (.int .i64 rd)
  refine bodyPost_ret (v := .agg #[.int .i64 rn, .int .i64 rd]) (by simp [results, Tryd.results39, go_sem, q0, q1]) rfl ?_
  first
    | exact ⟨by rw [HV.out], (hxq.setOwn _ _ (show w.heap.size ≤ W + 2 by omega)).setOwn _ _ (show w.heap.size ≤ W + 2 by omega)⟩
    | exact ⟨by rw [HV.out], ((hxq.setOwn _ _ (show w.heap.size ≤ W + 2 by omega)).setOwn _ _ (show w.heap.size ≤ W + 2 by omega)).drew⟩
end Go.Proofs.YtefmioppamdceaaDoor
