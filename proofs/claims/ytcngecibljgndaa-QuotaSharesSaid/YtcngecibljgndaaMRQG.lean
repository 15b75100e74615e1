/- The specification's Rule: the walk. -/
import Derived.Test.YtcngecibljgndaaMRQC
import Derived.Test.YtcngecibljgndaaMRQE
import Derived.Test.YtcngecibljgndaaMNL
namespace Go.Proofs.Ytcngecibljgndaa
open Go.RowKit Go.Shelf

theorem EqIs.fine {C : Nat → Int} {n : Nat} {F f : Int} {m : Nat} {out : Nat → Rat} (h : EqIs C n F out f m) (hF : F ≤ 10000000) (hC : ∀ i, i < n → 0 ≤ C i) : ∀ i, i < n → Fine (out i) := fun i hi => by
  have h1 := h.m1
  have h2 := h.low
  have h3 : 0 ≤ C i * m := Int.mul_nonneg (hC i hi) (by omega)
  rw [h.got i hi]
  exact fine_small (by omega) (by omega) (by omega)
/-- What Rule gives. -/
def RuleRes (w : World) (rule E : Int) (xs : List Int) (e : Ending) (w' : World) : Prop := ∃ v es qs, e = .returned v ∧ QOn w' w.heap.size v es qs ∧ ruleQ rule E xs qs ∧ Ext w w'
set_option maxRecDepth 100000 in
set_option maxHeartbeats 4000000 in
theorem qrule0_calls (w : World) (E : Int) (ao : Option Addr) (cap : Nat) (xs : List Int) (hI : IntsIn w ao xs) (hP : IsProb E xs) :
    Calls Try.prog 51 #[.int .i64 0, .int .i64 E, .slice ao xs.length cap] w (RuleRes w 0 E xs) := by
  have hI0 : xs.length = xs.length := rfl
  have hE := hP.estate
  have h7 := hP.seven
  have h1 := hP.one
  have he := hP.enough
  have hms := hP.claims.isum
  have HP := Lib.hid hP
  have HCL := Lib.hid hP.claims
  have hcm : ∀ i, i < xs.length → qth (xs.map fun x => Rat.divInt x 1) i = Rat.divInt (ith xs i) 1 := fun i hi => by simp [qth, ith, hi]
  have HCM := Lib.hid hcm
  have HCE : Hid ((xs.map fun x => Rat.divInt x 1) = (List.range xs.length).map fun i => Rat.divInt (2 * ith xs i) 2) := Lib.hid (by
    refine List.ext_getElem (by simp) (fun i h1 h2 => ?_)
    rw [List.length_map] at h1
    have e1 : (xs.map fun x => Rat.divInt x 1)[i] = Rat.divInt (ith xs i) 1 := by simp [ith, h1]
    rw [e1, List.getElem_map, List.getElem_range]
    exact divInt_eq (by omega) (by omega) (by omega))
  clear hP hcm
  obtain ⟨n, hn⟩ : ∃ n, n = xs.length := ⟨_, rfl⟩
  rw [← hn] at h7 h1 hI0 ⊢
  have HN := Lib.hid hn
  clear hn
  go_enter Try.func51, Try.ntmps51
  go_wp2_with fail
  have hwc := qwhole_calls w ao cap xs hI (by rw [← HN.out]; omega) (fun k hk => by have := HCL.out.at_ k hk; omega)
  rw [← HN.out] at hwc
  refine hwc.mono ?_
  rintro e w2 ⟨vc, ec, rfl, hoC, hx2⟩
  obtain ⟨cl, cc, rfl, hCQ, hclow⟩ := hoC.qsIn
  have hmlen : (xs.map fun x => Rat.divInt x 1).length = n := by rw [List.length_map, ← HN.out]
  rw [hmlen]
  have HML := Lib.hid hmlen
  clear hmlen hwc hoC hclow
  go_wp2_with fail
  refine (frac_calls w2 E 1 (by omega) (by omega) (by omega)).mono ?_
  rintro e w3 ⟨nb1, zo1, A1, zc1, mb1, yo1, B1, yc1, rfl, hR1, -, -, hx3⟩
  have hx23 := hx2.trans hx3
  go_wp2_with fail
  have hx4 : Ext w3 (w3.alloc (Obj.cells #[.bool nb1, .slice zo1 A1 zc1, .bool mb1, .slice yo1 B1 yc1] 41)) := (Ext.refl _).alloc _
  have hb8 : QBox (w3.alloc (Obj.cells #[.bool nb1, .slice zo1 A1 zc1, .bool mb1, .slice yo1 B1 yc1] 41)) w3.heap.size (.bool nb1) (.slice zo1 A1 zc1) (.bool mb1) (.slice yo1 B1 yc1) := ⟨by simp [go_sem], by simp [go_sem], by simp [go_sem], by simp [go_sem], by simp⟩
  generalize (w3.alloc (Obj.cells #[.bool nb1, .slice zo1 A1 zc1, .bool mb1, .slice yo1 B1 yc1] 41)) = w4 at *
  obtain ⟨b8, hb8e⟩ : ∃ b8, b8 = w3.heap.size := ⟨_, rfl⟩
  rw [← hb8e] at hb8 ⊢
  clear hb8e
  have hx24 := hx23.trans hx4
  have hCQ4 := hCQ.ext (hx3.trans hx4)
  have htc := qtotal_calls w4 cl cc (xs.map fun x => Rat.divInt x 1) hCQ4 (by rw [HML.out]; omega) (fun k hk => by
    rw [HML.out, HN.out] at hk
    rw [HCM.out k hk, qsum_whole xs k (by omega)]
    have h2 := HCL.out.at_ k hk
    have h3 : Upto 100000 (xs.take k) := fun x hx => HCL.out x (List.mem_of_mem_take hx)
    have h4 := h3.isum
    have h5 : (xs.take k).length ≤ 7 := by rw [List.length_take, ← HN.out]; omega
    exact ⟨fine_small (by omega) (by omega) (by omega), fine_small (by omega) (by omega) (by omega)⟩)
  rw [HML.out] at htc
  rw [HN.out, qsum_whole xs _ (Nat.le_refl _), List.take_length, ← HN.out] at htc
  refine htc.mono ?_
  rintro e w5 ⟨nb2, zo2, A2, zc2, mb2, yo2, B2, yc2, rfl, hR2, -, -, hx5⟩
  clear htc
  have hb8' := hb8.ext hx5
  obtain ⟨q0, q1, q2, q3, ql⟩ := id hb8'
  go_wp2_with fail
  have hx6 : Ext w5 (w5.alloc (Obj.cells #[.bool nb2, .slice zo2 A2 zc2, .bool mb2, .slice yo2 B2 yc2] 41)) := (Ext.refl _).alloc _
  have hb9 : QBox (w5.alloc (Obj.cells #[.bool nb2, .slice zo2 A2 zc2, .bool mb2, .slice yo2 B2 yc2] 41)) w5.heap.size (.bool nb2) (.slice zo2 A2 zc2) (.bool mb2) (.slice yo2 B2 yc2) := ⟨by simp [go_sem], by simp [go_sem], by simp [go_sem], by simp [go_sem], by simp⟩
  generalize (w5.alloc (Obj.cells #[.bool nb2, .slice zo2 A2 zc2, .bool mb2, .slice yo2 B2 yc2] 41)) = w6 at *
  obtain ⟨b9, hb9e⟩ : ∃ b9, b9 = w5.heap.size := ⟨_, rfl⟩
  rw [← hb9e] at hb9 ⊢
  clear hb9e q0 q1 q2 q3 ql hb8
  have f1 : Fine (Rat.divInt E 1) := fine_small (by omega) (by omega) (by omega)
  have hm7 : isum xs ≤ 700000 := by have := HN.out; omega
  have f2 : Fine (Rat.divInt (isum xs) 1) := fine_small (by omega) (by omega) (by omega)
  have hR16 := hR1.ext ((hx4.trans hx5).trans hx6)
  have hR26 := hR2.ext hx6
  refine (sub_calls w6 nb2 mb2 nb1 mb1 zo2 yo2 zo1 yo1 A2 zc2 B2 yc2 A1 zc1 B1 yc1 (Rat.divInt (isum xs) 1) (Rat.divInt E 1) hR26 hR16 f2 f1).mono ?_
  rintro e w7 ⟨nb3, zo3, A3, zc3, mb3, yo3, B3, yc3, rfl, hR3, -, -, hx7⟩
  rw [divInt_sub_same (by omega)] at hR3
  have hb87 := (hb8'.ext hx6).ext hx7
  have hb97 := hb9.ext hx7
  obtain ⟨q0, q1, q2, q3, ql⟩ := id hb87
  obtain ⟨r0, r1, r2, r3, rl⟩ := id hb97
  go_upto_region 5 with fail
  have hx8 : Ext w7 (w7.alloc (Obj.cells #[.bool nb3, .slice zo3 A3 zc3, .bool mb3, .slice yo3 B3 yc3] 41)) := (Ext.refl _).alloc _
  have hb10 : QBox (w7.alloc (Obj.cells #[.bool nb3, .slice zo3 A3 zc3, .bool mb3, .slice yo3 B3 yc3] 41)) w7.heap.size (.bool nb3) (.slice zo3 A3 zc3) (.bool mb3) (.slice yo3 B3 yc3) := ⟨by simp [go_sem], by simp [go_sem], by simp [go_sem], by simp [go_sem], by simp⟩
  generalize (w7.alloc (Obj.cells #[.bool nb3, .slice zo3 A3 zc3, .bool mb3, .slice yo3 B3 yc3] 41)) = w8 at *
  obtain ⟨b10, hb10e⟩ : ∃ b10, b10 = w7.heap.size := ⟨_, rfl⟩
  rw [← hb10e] at hb10 ⊢
  clear hb10e q0 q1 q2 q3 ql r0 r1 r2 r3 rl
  have hxw8 : Ext w w8 := (((hx24.trans hx5).trans hx6).trans hx7).trans hx8
  have hCQ8 := hCQ4.ext (((hx5.trans hx6).trans hx7).trans hx8)
  have hE8 := hR16.ext (hx7.trans hx8)
  have hS8 := hR26.ext (hx7.trans hx8)
  have hM8 := hR3.ext hx8
  have hb88 := hb87.ext hx8
  have hb98 := hb97.ext hx8
  clear hR1 hR2 hR3 hR16 hR26 hx2 hx3 hx4 hx5 hx6 hx7 hx8 hx23 hx24 hCQ hCQ4 hb87 hb97 hb8' hb9
  obtain ⟨q0, q1, q2, q3, ql⟩ := id hb88
  obtain ⟨r0, r1, r2, r3, rl⟩ := id hb98
  obtain ⟨s0, s1, s2, s3, sl⟩ := id hb10
  have hqc := qequal_calls w8 nb1 mb1 zo1 yo1 A1 zc1 B1 yc1 cl cc (fun i => 2 * ith xs i) n (2 * E) (by
    have : Rat.divInt (2 * E) 2 = Rat.divInt E 1 := divInt_eq (by omega) (by omega) (by omega)
    rw [this]; exact hE8) (by
    have e := HCE.out
    rw [← HN.out] at e
    rw [← e]; exact hCQ8) ⟨h1, h7⟩ (by omega) (fun i hi => by
    have := HCL.out.at_ i (by rw [← HN.out]; exact hi)
    omega) (by
    rw [sm_mul, HN.out, ← isum_sm]; omega)
  go_wp2_with fail
  refine hqc.mono ?_
  rintro e w9 ⟨v, es, qs, rfl, hQO, hql, ⟨f, m, hEq⟩, hx9⟩
  have HR : Hid (ruleQ 0 E xs qs) := Lib.hid (ruleQ_equal HP.out (by rw [hql, HN.out]) (by rw [← HN.out]; exact hEq))
  obtain ⟨vo, vc', hv, -, -⟩ := hQO.qsIn
  rw [hql] at hv
  subst hv
  clear hqc hEq
  go_wp2_with fail
  go_ret
  exact ⟨_, es, qs, rfl, ⟨hQO.len, hQO.own.rebase hxw8.size, hQO.num, hQO.off⟩, HR.out, hxw8.trans hx9⟩
set_option maxRecDepth 100000 in
set_option maxHeartbeats 4000000 in
theorem qrule1_calls (w : World) (E : Int) (ao : Option Addr) (cap : Nat) (xs : List Int) (hI : IntsIn w ao xs) (hP : IsProb E xs) :
    Calls Try.prog 51 #[.int .i64 1, .int .i64 E, .slice ao xs.length cap] w (RuleRes w 1 E xs) := by
  have hI0 : xs.length = xs.length := rfl
  have hE := hP.estate
  have h7 := hP.seven
  have h1 := hP.one
  have he := hP.enough
  have hms := hP.claims.isum
  have HP := Lib.hid hP
  have HCL := Lib.hid hP.claims
  have hcm : ∀ i, i < xs.length → qth (xs.map fun x => Rat.divInt x 1) i = Rat.divInt (ith xs i) 1 := fun i hi => by simp [qth, ith, hi]
  have HCM := Lib.hid hcm
  have HCE : Hid ((xs.map fun x => Rat.divInt x 1) = (List.range xs.length).map fun i => Rat.divInt (2 * ith xs i) 2) := Lib.hid (by
    refine List.ext_getElem (by simp) (fun i h1 h2 => ?_)
    rw [List.length_map] at h1
    have e1 : (xs.map fun x => Rat.divInt x 1)[i] = Rat.divInt (ith xs i) 1 := by simp [ith, h1]
    rw [e1, List.getElem_map, List.getElem_range]
    exact divInt_eq (by omega) (by omega) (by omega))
  clear hP hcm
  obtain ⟨n, hn⟩ : ∃ n, n = xs.length := ⟨_, rfl⟩
  rw [← hn] at h7 h1 hI0 ⊢
  have HN := Lib.hid hn
  clear hn
  go_enter Try.func51, Try.ntmps51
  go_wp2_with fail
  have hwc := qwhole_calls w ao cap xs hI (by rw [← HN.out]; omega) (fun k hk => by have := HCL.out.at_ k hk; omega)
  rw [← HN.out] at hwc
  refine hwc.mono ?_
  rintro e w2 ⟨vc, ec, rfl, hoC, hx2⟩
  obtain ⟨cl, cc, rfl, hCQ, hclow⟩ := hoC.qsIn
  have hmlen : (xs.map fun x => Rat.divInt x 1).length = n := by rw [List.length_map, ← HN.out]
  rw [hmlen]
  have HML := Lib.hid hmlen
  clear hmlen hwc hoC hclow
  go_wp2_with fail
  refine (frac_calls w2 E 1 (by omega) (by omega) (by omega)).mono ?_
  rintro e w3 ⟨nb1, zo1, A1, zc1, mb1, yo1, B1, yc1, rfl, hR1, -, -, hx3⟩
  have hx23 := hx2.trans hx3
  go_wp2_with fail
  have hx4 : Ext w3 (w3.alloc (Obj.cells #[.bool nb1, .slice zo1 A1 zc1, .bool mb1, .slice yo1 B1 yc1] 41)) := (Ext.refl _).alloc _
  have hb8 : QBox (w3.alloc (Obj.cells #[.bool nb1, .slice zo1 A1 zc1, .bool mb1, .slice yo1 B1 yc1] 41)) w3.heap.size (.bool nb1) (.slice zo1 A1 zc1) (.bool mb1) (.slice yo1 B1 yc1) := ⟨by simp [go_sem], by simp [go_sem], by simp [go_sem], by simp [go_sem], by simp⟩
  generalize (w3.alloc (Obj.cells #[.bool nb1, .slice zo1 A1 zc1, .bool mb1, .slice yo1 B1 yc1] 41)) = w4 at *
  obtain ⟨b8, hb8e⟩ : ∃ b8, b8 = w3.heap.size := ⟨_, rfl⟩
  rw [← hb8e] at hb8 ⊢
  clear hb8e
  have hx24 := hx23.trans hx4
  have hCQ4 := hCQ.ext (hx3.trans hx4)
  have htc := qtotal_calls w4 cl cc (xs.map fun x => Rat.divInt x 1) hCQ4 (by rw [HML.out]; omega) (fun k hk => by
    rw [HML.out, HN.out] at hk
    rw [HCM.out k hk, qsum_whole xs k (by omega)]
    have h2 := HCL.out.at_ k hk
    have h3 : Upto 100000 (xs.take k) := fun x hx => HCL.out x (List.mem_of_mem_take hx)
    have h4 := h3.isum
    have h5 : (xs.take k).length ≤ 7 := by rw [List.length_take, ← HN.out]; omega
    exact ⟨fine_small (by omega) (by omega) (by omega), fine_small (by omega) (by omega) (by omega)⟩)
  rw [HML.out] at htc
  rw [HN.out, qsum_whole xs _ (Nat.le_refl _), List.take_length, ← HN.out] at htc
  refine htc.mono ?_
  rintro e w5 ⟨nb2, zo2, A2, zc2, mb2, yo2, B2, yc2, rfl, hR2, -, -, hx5⟩
  clear htc
  have hb8' := hb8.ext hx5
  obtain ⟨q0, q1, q2, q3, ql⟩ := id hb8'
  go_wp2_with fail
  have hx6 : Ext w5 (w5.alloc (Obj.cells #[.bool nb2, .slice zo2 A2 zc2, .bool mb2, .slice yo2 B2 yc2] 41)) := (Ext.refl _).alloc _
  have hb9 : QBox (w5.alloc (Obj.cells #[.bool nb2, .slice zo2 A2 zc2, .bool mb2, .slice yo2 B2 yc2] 41)) w5.heap.size (.bool nb2) (.slice zo2 A2 zc2) (.bool mb2) (.slice yo2 B2 yc2) := ⟨by simp [go_sem], by simp [go_sem], by simp [go_sem], by simp [go_sem], by simp⟩
  generalize (w5.alloc (Obj.cells #[.bool nb2, .slice zo2 A2 zc2, .bool mb2, .slice yo2 B2 yc2] 41)) = w6 at *
  obtain ⟨b9, hb9e⟩ : ∃ b9, b9 = w5.heap.size := ⟨_, rfl⟩
  rw [← hb9e] at hb9 ⊢
  clear hb9e q0 q1 q2 q3 ql hb8
  have f1 : Fine (Rat.divInt E 1) := fine_small (by omega) (by omega) (by omega)
  have hm7 : isum xs ≤ 700000 := by have := HN.out; omega
  have f2 : Fine (Rat.divInt (isum xs) 1) := fine_small (by omega) (by omega) (by omega)
  have hR16 := hR1.ext ((hx4.trans hx5).trans hx6)
  have hR26 := hR2.ext hx6
  refine (sub_calls w6 nb2 mb2 nb1 mb1 zo2 yo2 zo1 yo1 A2 zc2 B2 yc2 A1 zc1 B1 yc1 (Rat.divInt (isum xs) 1) (Rat.divInt E 1) hR26 hR16 f2 f1).mono ?_
  rintro e w7 ⟨nb3, zo3, A3, zc3, mb3, yo3, B3, yc3, rfl, hR3, -, -, hx7⟩
  rw [divInt_sub_same (by omega)] at hR3
  have hb87 := (hb8'.ext hx6).ext hx7
  have hb97 := hb9.ext hx7
  obtain ⟨q0, q1, q2, q3, ql⟩ := id hb87
  obtain ⟨r0, r1, r2, r3, rl⟩ := id hb97
  go_upto_region 5 with fail
  have hx8 : Ext w7 (w7.alloc (Obj.cells #[.bool nb3, .slice zo3 A3 zc3, .bool mb3, .slice yo3 B3 yc3] 41)) := (Ext.refl _).alloc _
  have hb10 : QBox (w7.alloc (Obj.cells #[.bool nb3, .slice zo3 A3 zc3, .bool mb3, .slice yo3 B3 yc3] 41)) w7.heap.size (.bool nb3) (.slice zo3 A3 zc3) (.bool mb3) (.slice yo3 B3 yc3) := ⟨by simp [go_sem], by simp [go_sem], by simp [go_sem], by simp [go_sem], by simp⟩
  generalize (w7.alloc (Obj.cells #[.bool nb3, .slice zo3 A3 zc3, .bool mb3, .slice yo3 B3 yc3] 41)) = w8 at *
  obtain ⟨b10, hb10e⟩ : ∃ b10, b10 = w7.heap.size := ⟨_, rfl⟩
  rw [← hb10e] at hb10 ⊢
  clear hb10e q0 q1 q2 q3 ql r0 r1 r2 r3 rl
  have hxw8 : Ext w w8 := (((hx24.trans hx5).trans hx6).trans hx7).trans hx8
  have hCQ8 := hCQ4.ext (((hx5.trans hx6).trans hx7).trans hx8)
  have hE8 := hR16.ext (hx7.trans hx8)
  have hS8 := hR26.ext (hx7.trans hx8)
  have hM8 := hR3.ext hx8
  have hb88 := hb87.ext hx8
  have hb98 := hb97.ext hx8
  clear hR1 hR2 hR3 hR16 hR26 hx2 hx3 hx4 hx5 hx6 hx7 hx8 hx23 hx24 hCQ hCQ4 hb87 hb97 hb8' hb9
  obtain ⟨q0, q1, q2, q3, ql⟩ := id hb88
  obtain ⟨r0, r1, r2, r3, rl⟩ := id hb98
  obtain ⟨s0, s1, s2, s3, sl⟩ := id hb10
  have hqc := qequal_calls w8 nb3 mb3 zo3 yo3 A3 zc3 B3 yc3 cl cc (fun i => 2 * ith xs i) n (2 * (isum xs - E)) (by
    have : Rat.divInt (2 * (isum xs - E)) 2 = Rat.divInt (isum xs - E) 1 := divInt_eq (by omega) (by omega) (by omega)
    rw [this]; exact hM8) (by
    have e := HCE.out
    rw [← HN.out] at e
    rw [← e]; exact hCQ8) ⟨h1, h7⟩ (by omega) (fun i hi => by
    have := HCL.out.at_ i (by rw [← HN.out]; exact hi)
    omega) (by
    rw [sm_mul, HN.out, ← isum_sm]; omega)
  go_wp2_with fail
  refine hqc.mono ?_
  rintro e w9 ⟨v, es, rs, rfl, hQO, hql, ⟨f, m, hEq⟩, hx9⟩
  obtain ⟨vo, vc', hv, hRS, -⟩ := hQO.qsIn
  rw [hql] at hv
  subst hv
  have hlc := qless_calls w9 cl vo cc vc' (xs.map fun x => Rat.divInt x 1) rs (hCQ8.ext hx9) hRS (by rw [HML.out]; omega) (by rw [hql, HML.out]) (fun k hk => by
    rw [HML.out] at hk
    have hk2 : k < xs.length := by rw [← HN.out]; exact hk
    rw [HCM.out k hk2]
    have h2 := HCL.out.at_ k hk2
    exact ⟨fine_small (by omega) (by omega) (by omega), hEq.fine (by omega) (fun i hi => by have := HCL.out.at_ i (by rw [← HN.out]; exact hi); omega) k hk⟩)
  rw [HML.out] at hlc
  have HEQ := Lib.hid hEq
  clear hqc hEq
  go_wp2_with fail
  refine hlc.mono ?_
  rintro e w10 ⟨v, es2, rfl, hQ2, hx10⟩
  obtain ⟨qs, hqs⟩ : ∃ qs, qs = (List.range n).map fun k => qth (xs.map fun x => Rat.divInt x 1) k - qth rs k := ⟨_, rfl⟩
  rw [← hqs] at hQ2
  have hqsl : qs.length = n := by rw [hqs]; simp
  have HR : Hid (ruleQ 1 E xs qs) := Lib.hid (ruleQ_loss (rs := rs) HP.out (by rw [hqsl, HN.out]) (by rw [← HN.out]; exact HEQ.out) (fun i hi => by
    rw [hqs, qth_map_range _ _ _ (by rw [HN.out]; exact hi), HCM.out i hi]))
  obtain ⟨vo2, vc2, hv, -, -⟩ := hQ2.qsIn
  rw [hqsl] at hv
  subst hv
  clear hlc hqs
  go_wp2_with fail
  go_ret
  exact ⟨_, es2, qs, rfl, ⟨hQ2.len, hQ2.own.rebase (hxw8.trans hx9).size, hQ2.num, hQ2.off⟩, HR.out, (hxw8.trans hx9).trans hx10⟩
theorem qsum_half (xs : List Int) : ∀ k, k ≤ xs.length → qsum ((List.range xs.length).map fun i => Rat.divInt (1 * ith xs i) 2) k = Rat.divInt (isum (xs.take k)) 2
  | 0, _ => by
    simp only [qsum, List.take_zero, isum_nil]
    exact divInt_eq (by omega) (by omega) (by simp)
  | k + 1, hk => by
    rw [qsum, qsum_half xs k (by omega), take_snoc xs k (by omega), isum_append, qth_map_range _ _ _ (by omega), divInt_add_same (by omega)]
    simp [isum_cons, isum_nil]
set_option maxRecDepth 100000 in
set_option maxHeartbeats 4000000 in
theorem qrule3_calls (w : World) (E : Int) (ao : Option Addr) (cap : Nat) (xs : List Int) (hI : IntsIn w ao xs) (hP : IsProb E xs) :
    Calls Try.prog 51 #[.int .i64 3, .int .i64 E, .slice ao xs.length cap] w (RuleRes w 3 E xs) := by
  have hI0 : xs.length = xs.length := rfl
  have hE := hP.estate
  have h7 := hP.seven
  have h1 := hP.one
  have he := hP.enough
  have hms := hP.claims.isum
  have HP := Lib.hid hP
  have HCL := Lib.hid hP.claims
  have hcm : ∀ i, i < xs.length → qth (xs.map fun x => Rat.divInt x 1) i = Rat.divInt (ith xs i) 1 := fun i hi => by simp [qth, ith, hi]
  have HCM := Lib.hid hcm
  have HCE : Hid ((xs.map fun x => Rat.divInt x 1) = (List.range xs.length).map fun i => Rat.divInt (2 * ith xs i) 2) := Lib.hid (by
    refine List.ext_getElem (by simp) (fun i h1 h2 => ?_)
    rw [List.length_map] at h1
    have e1 : (xs.map fun x => Rat.divInt x 1)[i] = Rat.divInt (ith xs i) 1 := by simp [ith, h1]
    rw [e1, List.getElem_map, List.getElem_range]
    exact divInt_eq (by omega) (by omega) (by omega))
  clear hP hcm
  obtain ⟨n, hn⟩ : ∃ n, n = xs.length := ⟨_, rfl⟩
  rw [← hn] at h7 h1 hI0 ⊢
  have HN := Lib.hid hn
  clear hn
  go_enter Try.func51, Try.ntmps51
  go_wp2_with fail
  have hwc := qwhole_calls w ao cap xs hI (by rw [← HN.out]; omega) (fun k hk => by have := HCL.out.at_ k hk; omega)
  rw [← HN.out] at hwc
  refine hwc.mono ?_
  rintro e w2 ⟨vc, ec, rfl, hoC, hx2⟩
  obtain ⟨cl, cc, rfl, hCQ, hclow⟩ := hoC.qsIn
  have hmlen : (xs.map fun x => Rat.divInt x 1).length = n := by rw [List.length_map, ← HN.out]
  rw [hmlen]
  have HML := Lib.hid hmlen
  clear hmlen hwc hoC hclow
  go_wp2_with fail
  refine (frac_calls w2 E 1 (by omega) (by omega) (by omega)).mono ?_
  rintro e w3 ⟨nb1, zo1, A1, zc1, mb1, yo1, B1, yc1, rfl, hR1, -, -, hx3⟩
  have hx23 := hx2.trans hx3
  go_wp2_with fail
  have hx4 : Ext w3 (w3.alloc (Obj.cells #[.bool nb1, .slice zo1 A1 zc1, .bool mb1, .slice yo1 B1 yc1] 41)) := (Ext.refl _).alloc _
  have hb8 : QBox (w3.alloc (Obj.cells #[.bool nb1, .slice zo1 A1 zc1, .bool mb1, .slice yo1 B1 yc1] 41)) w3.heap.size (.bool nb1) (.slice zo1 A1 zc1) (.bool mb1) (.slice yo1 B1 yc1) := ⟨by simp [go_sem], by simp [go_sem], by simp [go_sem], by simp [go_sem], by simp⟩
  generalize (w3.alloc (Obj.cells #[.bool nb1, .slice zo1 A1 zc1, .bool mb1, .slice yo1 B1 yc1] 41)) = w4 at *
  obtain ⟨b8, hb8e⟩ : ∃ b8, b8 = w3.heap.size := ⟨_, rfl⟩
  rw [← hb8e] at hb8 ⊢
  clear hb8e
  have hx24 := hx23.trans hx4
  have hCQ4 := hCQ.ext (hx3.trans hx4)
  have htc := qtotal_calls w4 cl cc (xs.map fun x => Rat.divInt x 1) hCQ4 (by rw [HML.out]; omega) (fun k hk => by
    rw [HML.out, HN.out] at hk
    rw [HCM.out k hk, qsum_whole xs k (by omega)]
    have h2 := HCL.out.at_ k hk
    have h3 : Upto 100000 (xs.take k) := fun x hx => HCL.out x (List.mem_of_mem_take hx)
    have h4 := h3.isum
    have h5 : (xs.take k).length ≤ 7 := by rw [List.length_take, ← HN.out]; omega
    exact ⟨fine_small (by omega) (by omega) (by omega), fine_small (by omega) (by omega) (by omega)⟩)
  rw [HML.out] at htc
  rw [HN.out, qsum_whole xs _ (Nat.le_refl _), List.take_length, ← HN.out] at htc
  refine htc.mono ?_
  rintro e w5 ⟨nb2, zo2, A2, zc2, mb2, yo2, B2, yc2, rfl, hR2, -, -, hx5⟩
  clear htc
  have hb8' := hb8.ext hx5
  obtain ⟨q0, q1, q2, q3, ql⟩ := id hb8'
  go_wp2_with fail
  have hx6 : Ext w5 (w5.alloc (Obj.cells #[.bool nb2, .slice zo2 A2 zc2, .bool mb2, .slice yo2 B2 yc2] 41)) := (Ext.refl _).alloc _
  have hb9 : QBox (w5.alloc (Obj.cells #[.bool nb2, .slice zo2 A2 zc2, .bool mb2, .slice yo2 B2 yc2] 41)) w5.heap.size (.bool nb2) (.slice zo2 A2 zc2) (.bool mb2) (.slice yo2 B2 yc2) := ⟨by simp [go_sem], by simp [go_sem], by simp [go_sem], by simp [go_sem], by simp⟩
  generalize (w5.alloc (Obj.cells #[.bool nb2, .slice zo2 A2 zc2, .bool mb2, .slice yo2 B2 yc2] 41)) = w6 at *
  obtain ⟨b9, hb9e⟩ : ∃ b9, b9 = w5.heap.size := ⟨_, rfl⟩
  rw [← hb9e] at hb9 ⊢
  clear hb9e q0 q1 q2 q3 ql hb8
  have f1 : Fine (Rat.divInt E 1) := fine_small (by omega) (by omega) (by omega)
  have hm7 : isum xs ≤ 700000 := by have := HN.out; omega
  have f2 : Fine (Rat.divInt (isum xs) 1) := fine_small (by omega) (by omega) (by omega)
  have hR16 := hR1.ext ((hx4.trans hx5).trans hx6)
  have hR26 := hR2.ext hx6
  refine (sub_calls w6 nb2 mb2 nb1 mb1 zo2 yo2 zo1 yo1 A2 zc2 B2 yc2 A1 zc1 B1 yc1 (Rat.divInt (isum xs) 1) (Rat.divInt E 1) hR26 hR16 f2 f1).mono ?_
  rintro e w7 ⟨nb3, zo3, A3, zc3, mb3, yo3, B3, yc3, rfl, hR3, -, -, hx7⟩
  rw [divInt_sub_same (by omega)] at hR3
  have hb87 := (hb8'.ext hx6).ext hx7
  have hb97 := hb9.ext hx7
  obtain ⟨q0, q1, q2, q3, ql⟩ := id hb87
  obtain ⟨r0, r1, r2, r3, rl⟩ := id hb97
  go_upto_region 5 with fail
  have hx8 : Ext w7 (w7.alloc (Obj.cells #[.bool nb3, .slice zo3 A3 zc3, .bool mb3, .slice yo3 B3 yc3] 41)) := (Ext.refl _).alloc _
  have hb10 : QBox (w7.alloc (Obj.cells #[.bool nb3, .slice zo3 A3 zc3, .bool mb3, .slice yo3 B3 yc3] 41)) w7.heap.size (.bool nb3) (.slice zo3 A3 zc3) (.bool mb3) (.slice yo3 B3 yc3) := ⟨by simp [go_sem], by simp [go_sem], by simp [go_sem], by simp [go_sem], by simp⟩
  generalize (w7.alloc (Obj.cells #[.bool nb3, .slice zo3 A3 zc3, .bool mb3, .slice yo3 B3 yc3] 41)) = w8 at *
  obtain ⟨b10, hb10e⟩ : ∃ b10, b10 = w7.heap.size := ⟨_, rfl⟩
  rw [← hb10e] at hb10 ⊢
  clear hb10e q0 q1 q2 q3 ql r0 r1 r2 r3 rl
  have hxw8 : Ext w w8 := (((hx24.trans hx5).trans hx6).trans hx7).trans hx8
  have hCQ8 := hCQ4.ext (((hx5.trans hx6).trans hx7).trans hx8)
  have hE8 := hR16.ext (hx7.trans hx8)
  have hS8 := hR26.ext (hx7.trans hx8)
  have hM8 := hR3.ext hx8
  have hb88 := hb87.ext hx8
  have hb98 := hb97.ext hx8
  clear hR1 hR2 hR3 hR16 hR26 hx2 hx3 hx4 hx5 hx6 hx7 hx8 hx23 hx24 hCQ hCQ4 hb87 hb97 hb8' hb9
  obtain ⟨q0, q1, q2, q3, ql⟩ := id hb88
  obtain ⟨r0, r1, r2, r3, rl⟩ := id hb98
  obtain ⟨s0, s1, s2, s3, sl⟩ := id hb10
  have hhc := qhalves_calls w8 cl cc (xs.map fun x => Rat.divInt x 1) hCQ8 (by rw [HML.out]; omega) (fun k hk => by
    rw [HML.out] at hk
    rw [HCM.out k (by rw [← HN.out]; exact hk)]
    have h2 := HCL.out.at_ k (by rw [← HN.out]; exact hk)
    exact fine_small (by omega) (by omega) (by omega))
  rw [HML.out] at hhc
  have HHE : Hid (((List.range n).map fun k => qth (xs.map fun x => Rat.divInt x 1) k * Rat.divInt 1 2) = (List.range xs.length).map fun i => Rat.divInt (1 * ith xs i) 2) := Lib.hid (by
    rw [HN.out]
    refine List.map_congr_left (fun k hk => ?_)
    rw [List.mem_range] at hk
    rw [HCM.out k hk, Rat.divInt_mul_divInt]
    exact divInt_eq (by omega) (by omega) (by omega))
  rw [HHE.out] at hhc
  go_wp2_with fail
  refine hhc.mono ?_
  rintro e w9 ⟨v, esh, rfl, hQH, hx9⟩
  obtain ⟨ho, hc', hv, hHS, -⟩ := hQH.qsIn
  rw [List.length_map, List.length_range, ← HN.out] at hv
  subst hv
  have hb89 := hb88.ext hx9
  have hE9 := hE8.ext hx9
  have htc := fun W (h : QsIn W ho ((List.range xs.length).map fun i => Rat.divInt (1 * ith xs i) 2)) => qtotal_calls W ho hc' ((List.range xs.length).map fun i => Rat.divInt (1 * ith xs i) 2) h (by rw [List.length_map, List.length_range, ← HN.out]; omega) (fun k hk => by
    rw [List.length_map, List.length_range] at hk
    rw [qth_map_range _ _ _ hk, qsum_half xs k (by omega)]
    have h2 := HCL.out.at_ k hk
    have h3 : Upto 100000 (xs.take k) := fun x hx => HCL.out x (List.mem_of_mem_take hx)
    have h4 := h3.isum
    have h5 : (xs.take k).length ≤ 7 := by rw [List.length_take, ← HN.out]; omega
    exact ⟨fine_small (by omega) (by omega) (by omega), fine_small (by omega) (by omega) (by omega)⟩)
  simp only [List.length_map, List.length_range, ← HN.out] at htc
  rw [HN.out, qsum_half xs _ (Nat.le_refl _), List.take_length, ← HN.out] at htc
  rw [← HN.out] at hHS
  have f3 : Fine (Rat.divInt (isum xs) 2) := fine_small (by omega) (by omega) (by omega)
  clear hhc q0 q1 q2 q3 ql r0 r1 r2 r3 rl s0 s1 s2 s3 sl
  obtain ⟨cq, hcq⟩ : ∃ cq, cmpQ (Rat.divInt E 1) (Rat.divInt (isum xs) 2) = cq := ⟨_, rfl⟩
  have hcc := cmpQ_cases E (isum xs) 1 2 (by omega) (by omega)
  rw [hcq] at hcc
  have HCC := Lib.hid hcc
  clear hcc
  go_wp2_with fail
  go_region_held3 (fun w' => (w'.cell? ⟨b8, 0, none⟩ = some (.bool nb1)) ∧ (w'.cell? ⟨b8, 1, none⟩ = some (.slice zo1 A1 zc1)) ∧ (w'.cell? ⟨b8, 2, none⟩ = some (.bool mb1)) ∧ (w'.cell? ⟨b8, 3, none⟩ = some (.slice yo1 B1 yc1)))
    (exact e4 hb89 (by repeat (with_reducible first | exact Ext.refl _ | assumption | refine Ext.alloc ?_ _ | refine Ext.drew ?_)))
    ((first
      | (go_at_call 28; refine (cmp_calls _ nb1 mb1 nb4 mb4 zo1 yo1 zo4 yo4 A1 zc1 B1 yc1 A4 zc4 B4 yc4 _ _ (hE9.ext hxt4) hR4 f1 f3).mono ?_; rintro e v3 ⟨rfl, hx13⟩; have hxt3 : Ext w9 v3 := hxt4.trans hx13; rw [hcq])
      | (go_at_call 88; refine (htc _ (hHS.ext (by repeat (with_reducible first | exact Ext.refl _ | assumption | refine Ext.alloc ?_ _ | refine Ext.drew ?_)))).mono ?_; rintro e v4 ⟨nb4, zo4, A4, zc4, mb4, yo4, B4, yc4, rfl, hR4, -, -, hx14⟩; have hxt4 : Ext w9 v4 := Ext.trans (by repeat (with_reducible first | exact Ext.refl _ | assumption | refine Ext.alloc ?_ _ | refine Ext.drew ?_)) hx14)))
  have hHS3 := hHS.ext hxt3
  have hb83 := hb89.ext hxt3
  have hb103 := (hb10.ext hx9).ext hxt3
  have hE3 := hE9.ext hxt3
  have hM3 := (hM8.ext hx9).ext hxt3
  have hCQ3 := (hCQ8.ext hx9).ext hxt3
  have hxw3 : Ext w v3 := (hxw8.trans hx9).trans hxt3
  clear htc hb89 hb10 hE9 hM8 hCQ8 hHS hQH hcq
  obtain ⟨q0, q1, q2, q3, ql⟩ := id hb83
  obtain ⟨s0, s1, s2, s3, sl⟩ := id hb103
  by_cases hc2 : 2 * E ≤ isum xs
  · have hcn : cq ≤ 0 := by
      rw [HCC.out]
      split
      · omega
      · rw [if_neg (by omega)]; omega
    have HC2 := Lib.hid hc2
    have hqc := qequal_calls v3 nb1 mb1 zo1 yo1 A1 zc1 B1 yc1 ho hc' (fun i => 1 * ith xs i) n (1 * (2 * E)) (by
      have : Rat.divInt (1 * (2 * E)) 2 = Rat.divInt E 1 := divInt_eq (by omega) (by omega) (by omega)
      rw [this]; exact hE3) hHS3 ⟨h1, h7⟩ (by omega) (fun i hi => by
      have := HCL.out.at_ i (by rw [← HN.out]; exact hi)
      omega) (by
      rw [sm_mul, HN.out, ← isum_sm]; omega)
    clear hc2
    go_wp2_with fail
    refine hqc.mono ?_
    rintro e w10 ⟨v, es, qs, rfl, hQO, hql, ⟨f, m, hEq⟩, hx10⟩
    have HR : Hid (ruleQ 3 E xs qs) := Lib.hid (ruleQ_talmud1 HP.out HC2.out (by rw [hql, HN.out]) (by rw [← HN.out]; exact hEq))
    obtain ⟨vo, vc', hv, -, -⟩ := hQO.qsIn
    rw [hql] at hv
    subst hv
    clear hqc hEq
    go_wp2_with fail
    go_ret
    exact ⟨_, es, qs, rfl, ⟨hQO.len, hQO.own.rebase hxw3.size, hQO.num, hQO.off⟩, HR.out, hxw3.trans hx10⟩
  · have hcn : 0 < cq := by rw [HCC.out, if_neg (by omega), if_pos (by omega)]; omega
    have HC2 := Lib.hid hc2
    have hqc := qequal_calls v3 nb3 mb3 zo3 yo3 A3 zc3 B3 yc3 ho hc' (fun i => 1 * ith xs i) n (1 * (2 * (isum xs - E))) (by
      have : Rat.divInt (1 * (2 * (isum xs - E))) 2 = Rat.divInt (isum xs - E) 1 := divInt_eq (by omega) (by omega) (by omega)
      rw [this]; exact hM3) hHS3 ⟨h1, h7⟩ (by omega) (fun i hi => by
      have := HCL.out.at_ i (by rw [← HN.out]; exact hi)
      omega) (by
      rw [sm_mul, HN.out, ← isum_sm]; omega)
    clear hc2
    go_wp2_with fail
    refine hqc.mono ?_
    rintro e w10 ⟨v, es, rs, rfl, hQO, hql, ⟨f, m, hEq⟩, hx10⟩
    obtain ⟨vo, vc', hv, hRS, -⟩ := hQO.qsIn
    rw [hql] at hv
    subst hv
    have hlc := qless_calls w10 cl vo cc vc' (xs.map fun x => Rat.divInt x 1) rs (hCQ3.ext hx10) hRS (by rw [HML.out]; omega) (by rw [hql, HML.out]) (fun k hk => by
      rw [HML.out] at hk
      have hk2 : k < xs.length := by rw [← HN.out]; exact hk
      rw [HCM.out k hk2]
      have h2 := HCL.out.at_ k hk2
      exact ⟨fine_small (by omega) (by omega) (by omega), hEq.fine (by omega) (fun i hi => by have := HCL.out.at_ i (by rw [← HN.out]; exact hi); omega) k hk⟩)
    rw [HML.out] at hlc
    have HEQ := Lib.hid hEq
    clear hqc hEq
    go_wp2_with fail
    refine hlc.mono ?_
    rintro e w11 ⟨v, es2, rfl, hQ2, hx11⟩
    obtain ⟨qs, hqs⟩ : ∃ qs, qs = (List.range n).map fun k => qth (xs.map fun x => Rat.divInt x 1) k - qth rs k := ⟨_, rfl⟩
    rw [← hqs] at hQ2
    have hqsl : qs.length = n := by rw [hqs]; simp
    have HR : Hid (ruleQ 3 E xs qs) := Lib.hid (ruleQ_talmud2 (rs := rs) HP.out (by have h := HC2.out; omega) (by rw [hqsl, HN.out]) (by rw [← HN.out]; exact HEQ.out) (fun i hi => by
      rw [hqs, qth_map_range _ _ _ (by rw [HN.out]; exact hi), HCM.out i hi]))
    obtain ⟨vo2, vc2, hv, -, -⟩ := hQ2.qsIn
    rw [hqsl] at hv
    subst hv
    clear hlc hqs
    go_wp2_with fail
    go_ret
    exact ⟨_, es2, qs, rfl, ⟨hQ2.len, hQ2.own.rebase (hxw3.trans hx10).size, hQ2.num, hQ2.off⟩, HR.out, (hxw3.trans hx10).trans hx11⟩
end Go.Proofs.Ytcngecibljgndaa
