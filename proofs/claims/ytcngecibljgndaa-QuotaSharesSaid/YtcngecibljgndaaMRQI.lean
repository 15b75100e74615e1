/- The specification's Rule: RulePart and RuleRun: the walks. -/
import Derived.Test.YtcngecibljgndaaMRQG
namespace Go.Proofs.Ytcngecibljgndaa
open Go.RowKit Go.Shelf

theorem num_one (n : Int) : (Rat.divInt n 1).num = n := by
  rw [low_num (n' := n) (by omega) (by simp)]; simp
theorem c12 {w w' : World} {b8 b9 b o : Nat} {u v x y u2 v2 x2 y2 : Value} {nb mb : Bool} {zo yo : Option Addr} {A zc B yc : Nat} (h8 : QBox w b8 u v x y) (h9 : QBox w b9 u2 v2 x2 y2) (hb : b < w.heap.size) (h : QCells w b o nb zo A zc mb yo B yc) (hx : Ext w w') :
    (w'.cell? ⟨b8, 0, none⟩ = some u) ∧ (w'.cell? ⟨b8, 1, none⟩ = some v) ∧ (w'.cell? ⟨b8, 2, none⟩ = some x) ∧ (w'.cell? ⟨b8, 3, none⟩ = some y) ∧ (w'.cell? ⟨b9, 0, none⟩ = some u2) ∧ (w'.cell? ⟨b9, 1, none⟩ = some v2) ∧ (w'.cell? ⟨b9, 2, none⟩ = some x2) ∧ (w'.cell? ⟨b9, 3, none⟩ = some y2) ∧
    (w'.cell? ⟨b, o, none⟩ = some (.bool nb)) ∧ (w'.cell? ⟨b, o + 1, none⟩ = some (.slice zo A zc)) ∧ (w'.cell? ⟨b, o + 2, none⟩ = some (.bool mb)) ∧ (w'.cell? ⟨b, o + 3, none⟩ = some (.slice yo B yc)) :=
  ⟨(h8.ext hx).c0, (h8.ext hx).c1, (h8.ext hx).c2, (h8.ext hx).c3, (h9.ext hx).c0, (h9.ext hx).c1, (h9.ext hx).c2, (h9.ext hx).c3, (h.ext hb hx).c0, (h.ext hb hx).c1, (h.ext hb hx).c2, (h.ext hb hx).c3⟩
set_option maxRecDepth 100000 in
set_option maxHeartbeats 4000000 in
theorem qrule2_calls (w : World) (E : Int) (ao : Option Addr) (cap : Nat) (xs : List Int) (hI : IntsIn w ao xs) (hP : IsProb E xs) :
    Calls Try.prog 51 #[.int .i64 2, .int .i64 E, .slice ao xs.length cap] w (RuleRes w 2 E xs) := by
  have hI0 : xs.length = xs.length := rfl
  obtain ⟨i0, hi, hz0, hz1, hz2⟩ := info_parts info_Q
  have hE := hP.estate
  have h7 := hP.seven
  have h1 := hP.one
  have he := hP.enough
  have hms := hP.claims.isum
  have HP := Lib.hid hP
  have HCL := Lib.hid hP.claims
  have hcm : ∀ i, i < xs.length → qth (xs.map fun x => Rat.divInt x 1) i = Rat.divInt (ith xs i) 1 := fun i hi => by simp [qth, ith, hi]
  have HCM := Lib.hid hcm
  have HCE : Hid ((xs.map fun x => Rat.divInt x 1) = (List.range xs.length).map fun i => Rat.divInt (2 * ith xs i) 2) := Lib.hid (by
    refine List.ext_getElem (by simp) (fun i h1 h2 => ?_)
    rw [List.length_map] at h1
    have e1 : (xs.map fun x => Rat.divInt x 1)[i] = Rat.divInt (ith xs i) 1 := by simp [ith, h1]
    rw [e1, List.getElem_map, List.getElem_range]
    exact divInt_eq (by omega) (by omega) (by omega))
  clear hP hcm
  obtain ⟨n, hn⟩ : ∃ n, n = xs.length := ⟨_, rfl⟩
  rw [← hn] at h7 h1 hI0 ⊢
  have HN := Lib.hid hn
  clear hn
  go_enter Try.func51, Try.ntmps51
  go_wp2_with fail
  have hwc := qwhole_calls w ao cap xs hI (by rw [← HN.out]; omega) (fun k hk => by have := HCL.out.at_ k hk; omega)
  rw [← HN.out] at hwc
  refine hwc.mono ?_
  rintro e w2 ⟨vc, ec, rfl, hoC, hx2⟩
  obtain ⟨cl, cc, rfl, hCQ, hclow⟩ := hoC.qsIn
  have hmlen : (xs.map fun x => Rat.divInt x 1).length = n := by rw [List.length_map, ← HN.out]
  rw [hmlen] at hoC ⊢
  have HML := Lib.hid hmlen
  clear hmlen hwc hclow
  go_wp2_with fail
  refine (frac_calls w2 E 1 (by omega) (by omega) (by omega)).mono ?_
  rintro e w3 ⟨nb1, zo1, A1, zc1, mb1, yo1, B1, yc1, rfl, hR1, -, -, hx3⟩
  have hx23 := hx2.trans hx3
  go_wp2_with fail
  have hx4 : Ext w3 (w3.alloc (Obj.cells #[.bool nb1, .slice zo1 A1 zc1, .bool mb1, .slice yo1 B1 yc1] 41)) := (Ext.refl _).alloc _
  have hb8 : QBox (w3.alloc (Obj.cells #[.bool nb1, .slice zo1 A1 zc1, .bool mb1, .slice yo1 B1 yc1] 41)) w3.heap.size (.bool nb1) (.slice zo1 A1 zc1) (.bool mb1) (.slice yo1 B1 yc1) := ⟨by simp [go_sem], by simp [go_sem], by simp [go_sem], by simp [go_sem], by simp⟩
  generalize (w3.alloc (Obj.cells #[.bool nb1, .slice zo1 A1 zc1, .bool mb1, .slice yo1 B1 yc1] 41)) = w4 at *
  obtain ⟨b8, hb8e⟩ : ∃ b8, b8 = w3.heap.size := ⟨_, rfl⟩
  rw [← hb8e] at hb8 ⊢
  clear hb8e
  have hx24 := hx23.trans hx4
  have hCQ4 := hCQ.ext (hx3.trans hx4)
  have htc := qtotal_calls w4 cl cc (xs.map fun x => Rat.divInt x 1) hCQ4 (by rw [HML.out]; omega) (fun k hk => by
    rw [HML.out, HN.out] at hk
    rw [HCM.out k hk, qsum_whole xs k (by omega)]
    have h2 := HCL.out.at_ k hk
    have h3 : Upto 100000 (xs.take k) := fun x hx => HCL.out x (List.mem_of_mem_take hx)
    have h4 := h3.isum
    have h5 : (xs.take k).length ≤ 7 := by rw [List.length_take, ← HN.out]; omega
    exact ⟨fine_small (by omega) (by omega) (by omega), fine_small (by omega) (by omega) (by omega)⟩)
  rw [HML.out] at htc
  rw [HN.out, qsum_whole xs _ (Nat.le_refl _), List.take_length, ← HN.out] at htc
  refine htc.mono ?_
  rintro e w5 ⟨nb2, zo2, A2, zc2, mb2, yo2, B2, yc2, rfl, hR2, -, -, hx5⟩
  clear htc
  have hb8' := hb8.ext hx5
  obtain ⟨q0, q1, q2, q3, ql⟩ := id hb8'
  go_wp2_with fail
  have hx6 : Ext w5 (w5.alloc (Obj.cells #[.bool nb2, .slice zo2 A2 zc2, .bool mb2, .slice yo2 B2 yc2] 41)) := (Ext.refl _).alloc _
  have hb9 : QBox (w5.alloc (Obj.cells #[.bool nb2, .slice zo2 A2 zc2, .bool mb2, .slice yo2 B2 yc2] 41)) w5.heap.size (.bool nb2) (.slice zo2 A2 zc2) (.bool mb2) (.slice yo2 B2 yc2) := ⟨by simp [go_sem], by simp [go_sem], by simp [go_sem], by simp [go_sem], by simp⟩
  generalize (w5.alloc (Obj.cells #[.bool nb2, .slice zo2 A2 zc2, .bool mb2, .slice yo2 B2 yc2] 41)) = w6 at *
  obtain ⟨b9, hb9e⟩ : ∃ b9, b9 = w5.heap.size := ⟨_, rfl⟩
  rw [← hb9e] at hb9 ⊢
  clear hb9e q0 q1 q2 q3 ql hb8
  have f1 : Fine (Rat.divInt E 1) := fine_small (by omega) (by omega) (by omega)
  have hm7 : isum xs ≤ 700000 := by have := HN.out; omega
  have f2 : Fine (Rat.divInt (isum xs) 1) := fine_small (by omega) (by omega) (by omega)
  have hR16 := hR1.ext ((hx4.trans hx5).trans hx6)
  have hR26 := hR2.ext hx6
  refine (sub_calls w6 nb2 mb2 nb1 mb1 zo2 yo2 zo1 yo1 A2 zc2 B2 yc2 A1 zc1 B1 yc1 (Rat.divInt (isum xs) 1) (Rat.divInt E 1) hR26 hR16 f2 f1).mono ?_
  rintro e w7 ⟨nb3, zo3, A3, zc3, mb3, yo3, B3, yc3, rfl, hR3, -, -, hx7⟩
  rw [divInt_sub_same (by omega)] at hR3
  have hb87 := (hb8'.ext hx6).ext hx7
  have hb97 := hb9.ext hx7
  obtain ⟨q0, q1, q2, q3, ql⟩ := id hb87
  obtain ⟨r0, r1, r2, r3, rl⟩ := id hb97
  go_upto_region 5 with fail
  have hx8 : Ext w7 (w7.alloc (Obj.cells #[.bool nb3, .slice zo3 A3 zc3, .bool mb3, .slice yo3 B3 yc3] 41)) := (Ext.refl _).alloc _
  have hb10 : QBox (w7.alloc (Obj.cells #[.bool nb3, .slice zo3 A3 zc3, .bool mb3, .slice yo3 B3 yc3] 41)) w7.heap.size (.bool nb3) (.slice zo3 A3 zc3) (.bool mb3) (.slice yo3 B3 yc3) := ⟨by simp [go_sem], by simp [go_sem], by simp [go_sem], by simp [go_sem], by simp⟩
  generalize (w7.alloc (Obj.cells #[.bool nb3, .slice zo3 A3 zc3, .bool mb3, .slice yo3 B3 yc3] 41)) = w8 at *
  obtain ⟨b10, hb10e⟩ : ∃ b10, b10 = w7.heap.size := ⟨_, rfl⟩
  rw [← hb10e] at hb10 ⊢
  clear hb10e q0 q1 q2 q3 ql r0 r1 r2 r3 rl
  have hxw8 : Ext w w8 := (((hx24.trans hx5).trans hx6).trans hx7).trans hx8
  have hCQ8 := hCQ4.ext (((hx5.trans hx6).trans hx7).trans hx8)
  have hE8 := hR16.ext (hx7.trans hx8)
  have hoC8 := hoC.ext ((((hx3.trans hx4).trans (hx5.trans hx6)).trans hx7).trans hx8)
  have hS8 := hR26.ext (hx7.trans hx8)
  have hM8 := hR3.ext hx8
  have hb88 := hb87.ext hx8
  have hb98 := hb97.ext hx8
  clear hoC hR1 hR2 hR3 hR16 hR26 hx2 hx3 hx4 hx5 hx6 hx7 hx8 hx23 hx24 hCQ hCQ4 hb87 hb97 hb8' hb9
  obtain ⟨q0, q1, q2, q3, ql⟩ := id hb88
  obtain ⟨r0, r1, r2, r3, rl⟩ := id hb98
  obtain ⟨s0, s1, s2, s3, sl⟩ := id hb10
  have hzc := zero_calls w8 nb2 zo2 A2 zc2 _ hS8.num
  rw [num_one] at hzc
  clear q0 q1 q2 q3 ql s0 s1 s2 s3 sl hM8
  by_cases h0 : isum xs = 0
  · rw [decide_eq_true h0] at hzc
    go_wp2_with fail
    refine hzc.mono ?_
    rintro e w9 ⟨rfl, hx9⟩
    have HR : Hid (ruleQ 2 E xs (xs.map fun x => Rat.divInt x 1)) := Lib.hid (ruleQ_part HP.out (by simp) (.inl ⟨h0, HCM.out⟩))
    clear hzc
    go_wp2_with fail
    go_ret
    exact ⟨_, ec, _, rfl, ⟨hoC8.len, (hoC8.own.ext hx9), fun k hk => isExt (hoC8.num k hk) hx9, hoC8.off⟩, HR.out, hxw8.trans hx9⟩
  · rw [decide_eq_false h0] at hzc
    go_wp2_with fail
    refine hzc.mono ?_
    rintro e w9 ⟨rfl, hx9⟩
    clear hzc r0 r1 r2 r3 rl hb10 hoC8
    obtain ⟨ps, hps⟩ : ∃ ps, ps = xs.map fun x => Rat.divInt x 1 := ⟨_, rfl⟩
    rw [← hps] at hCQ8 HCM HML HCE
    clear hps
    obtain ⟨ra, hra⟩ : ∃ ra, ra = Rat.divInt E 1 := ⟨_, rfl⟩
    obtain ⟨rs, hrs⟩ : ∃ rs, rs = Rat.divInt (isum xs) 1 := ⟨_, rfl⟩
    rw [← hra] at hE8 f1
    rw [← hrs] at hS8 f2
    have HRN : Hid (rs.num ≠ 0) := Lib.hid (by rw [hrs, num_one]; exact h0)
    have HFK : Hid (∀ k, k < n → Fine (qth ps k) ∧ Fine (ra * qth ps k)) := Lib.hid (fun k hk => by
      rw [HN.out] at hk
      have h2 := HCL.out.at_ k hk
      have h3 : 0 ≤ E * ith xs k := Int.mul_nonneg hE.1 h2.1
      have h4 : E * ith xs k ≤ 100000 * 100000 := Int.mul_le_mul hE.2 h2.2 h2.1 (by omega)
      rw [HCM.out k hk, hra, Rat.divInt_mul_divInt]
      exact ⟨fine_small (by omega) (by omega) (by omega), fine_small (by omega) (by omega) (by omega)⟩)
    have HRES : Hid (∀ qs : List Rat, qs = (List.range n).map (fun k => ra * qth ps k / rs) → ruleQ 2 E xs qs) := Lib.hid (fun qs hq => by
      refine ruleQ_part HP.out (by rw [hq]; simp [HN.out]) (.inr ⟨h0, fun i hi => ?_⟩)
      rw [hq, qth_map_range _ _ _ (by rw [HN.out]; exact hi), HCM.out i hi, hra, hrs])
    clear hra hrs h0 HCE
    obtain ⟨W, hW⟩ : ∃ W, W ≤ w9.heap.size ∧ w9.heap.size ≤ W := ⟨_, Nat.le_refl _, Nat.le_refl _⟩
    have hw9 : w.heap.size ≤ w9.heap.size := (hxw8.trans hx9).size
    have hb89 := hb88.ext hx9
    have hb99 := hb98.ext hx9
    have hE9 := hE8.ext hx9
    have hS9 := hS8.ext hx9
    have hCQ9 := hCQ8.ext hx9
    have hxw9 := hxw8.trans hx9
    clear hb88 hb98 hE8 hS8 hCQ8 hxw8 hx9
    go_wp2_with fail
    go_loopw [11, 12] (fun ov iv wr => ∃ (k : Nat) (es : List QV), k ≤ n ∧ iv = .int .i64 k ∧ Ext w9 wr ∧ QOn wr W ov es ((List.range k).map fun k => ra * qth ps k / rs)) (fun _ iv _ => n - (intOf iv).toNat)
    case atStart => exact ⟨0, [], by omega, rfl, Ext.refl _, QOn.nil _ _⟩
    case round =>
      obtain ⟨k, es, hk, rfl, hx, ho⟩ := hrel
      by_cases hlt : k < n
      · obtain ⟨b1, o1, nb4, zo4, A4, zc4, mb4, yo4, B4, yc4, rfl, hb1, hc1, hq1⟩ := hCQ9 k (by rw [HML.out]; exact hlt)
        obtain ⟨f4, f5⟩ := HFK.out k hlt
        have HT := Lib.hid (map_range_snoc (fun k => ra * qth ps k / rs) k)
        have hkl : ((List.range k).map fun k => ra * qth ps k / rs).length = k := by simp
        obtain ⟨ts, hts⟩ : ∃ ts, ts = (List.range k).map fun k => ra * qth ps k / rs := ⟨_, rfl⟩
        rw [← hts] at ho hkl HT
        clear hts
        have hel := ho.len
        have how := ho.own
        have hWr := hx.size
        have hk1 : (0 : Int) ≤ (k : Int) := by omega
        have hk2 : (k : Int) < (n : Int) := by omega
        have hdc := fun W nb5 mb5 zo5 yo5 A5 zc5 B5 yc5 h h' => div_calls W nb5 mb5 nb2 mb2 zo5 yo5 zo2 yo2 A5 zc5 B5 yc5 A2 zc2 B2 yc2 (ra * qth ps k) rs h h' f5 f2 HRN.out
        go_wp2_with fail
        go_region_held3 (fun w' => (w'.cell? ⟨b8, 0, none⟩ = some (.bool nb1)) ∧ (w'.cell? ⟨b8, 1, none⟩ = some (.slice zo1 A1 zc1)) ∧ (w'.cell? ⟨b8, 2, none⟩ = some (.bool mb1)) ∧ (w'.cell? ⟨b8, 3, none⟩ = some (.slice yo1 B1 yc1)) ∧ (w'.cell? ⟨b9, 0, none⟩ = some (.bool nb2)) ∧ (w'.cell? ⟨b9, 1, none⟩ = some (.slice zo2 A2 zc2)) ∧ (w'.cell? ⟨b9, 2, none⟩ = some (.bool mb2)) ∧ (w'.cell? ⟨b9, 3, none⟩ = some (.slice yo2 B2 yc2)) ∧
            (w'.cell? ⟨b1, o1 + k * 4, none⟩ = some (.bool nb4)) ∧ (w'.cell? ⟨b1, o1 + k * 4 + 1, none⟩ = some (.slice zo4 A4 zc4)) ∧ (w'.cell? ⟨b1, o1 + k * 4 + 2, none⟩ = some (.bool mb4)) ∧ (w'.cell? ⟨b1, o1 + k * 4 + 3, none⟩ = some (.slice yo4 B4 yc4)))
          (exact c12 hb89 hb99 hb1 hc1 (by repeat (with_reducible first | exact Ext.refl _ | assumption | refine Ext.alloc ?_ _ | refine Ext.drew ?_)))
          ((first
            | (go_at_call 93; refine (hdc _ nb6 mb6 zo6 yo6 A6 zc6 B6 yc6 hR6 (hS9.ext (by repeat (with_reducible first | exact Ext.refl _ | assumption | refine Ext.alloc ?_ _ | refine Ext.drew ?_)))).mono ?_; rintro e v1 ⟨nb, zo, A, zc, mb, yo, B, yc, rfl, hR, hbk, hbm, hx11⟩; have hxr1 : Ext wr v1 := hxr2.trans hx11; have hxk1 : Ext w9 v1 := hx.trans hxr1; have hs1 := hxr1.size)
            | (go_at_call 86; refine (mul_calls _ nb1 mb1 nb4 mb4 zo1 yo1 zo4 yo4 A1 zc1 B1 yc1 A4 zc4 B4 yc4 ra (qth ps k) (hE9.ext (by repeat (with_reducible first | exact Ext.refl _ | assumption | refine Ext.alloc ?_ _ | refine Ext.drew ?_))) (hq1.ext (by repeat (with_reducible first | exact Ext.refl _ | assumption | refine Ext.alloc ?_ _ | refine Ext.drew ?_))) f1 f4).mono ?_; rintro e v2 ⟨nb6, zo6, A6, zc6, mb6, yo6, B6, yc6, rfl, hR6, hbk6, hbm6, hx12⟩; have hxr2 : Ext wr v2 := Ext.trans (by repeat (with_reducible first | exact Ext.refl _ | assumption | refine Ext.alloc ?_ _ | refine Ext.drew ?_)) hx12; have hxk2 : Ext w9 v2 := hx.trans hxr2; have hs2 := hxr2.size)
            | (refine step_append_Own _ (by rfl) _ _ 58 (by rfl) 41 i0 (.agg #[.bool false, .slice none 0 0, .bool false, .slice none 0 0]) 4 64 Try.underlying58 hi hz0 hz1 hz2 rfl (by omega) W _ (qvals es) (by rfl) (Own.ext how (by repeat (with_reducible first | exact Ext.refl _ | assumption | refine Ext.alloc ?_ _ | refine Ext.drew ?_))) (by first | omega | (simp; omega)) _ 1 1 (QV.vals (⟨nb, zo, A, zc, mb, yo, B, yc⟩ : QV)) (by rfl) rfl (four_cell _ (⟨nb, zo, A, zc, mb, yo, B, yc⟩ : QV) _ _ (by first | rfl | simp)) (QV.one (⟨nb, zo, A, zc, mb, yo, B, yc⟩ : QV)) (by rw [qvals_length, QV.vals_length]; unfold maxLen; omega) (by rw [qvals_length, QV.vals_length]; omega) ?_; intro v' w5 ho5 hg5 hb5; have hxk5 : Ext w9 w5 := Ext.onto (show Ext w9 _ from hxk1.alloc _) hg5 (fun q hq => by have := (how.lt q hq).1; omega))))
        all_goals
          have hs := ho.snoc (hxr1.alloc _) (x := ⟨nb, zo, A, zc, mb, yo, B, yc⟩) (isExt (w := v1) (show QV.is ⟨nb, zo, A, zc, mb, yo, B, yc⟩ v1 _ from hR) ((Ext.refl _).alloc _)) (fun a ha => Nat.le_trans hs2 (hbk a ha)) (fun a ha => Nat.le_trans hs2 (hbm a ha)) ho5 hg5 hb5
          rw [← HT.out] at hs
          go_wp2_with fail
          exact ⟨⟨k + 1, _, by omega, rfl, hxk5, hs⟩, by simp only [intOf]; omega⟩
      · obtain rfl : k = n := by omega
        go_wp2_with fail
        go_ret
        exact ⟨_, es, _, rfl, ⟨ho.len, ho.own.rebase (by omega), ho.num, ho.off⟩, HRES.out _ rfl, hxw9.trans hx⟩
theorem bounds4 {E : Int} {xs : List Int} (hP : IsProb E xs) (i : Nat) (hi : i < xs.length) : 0 ≤ gets xs xs.length E (List.replicate xs.length false) i ∧ gets xs xs.length E (List.replicate xs.length false) i ≤ 1000000000 := by
  have h0 : ∀ i, i < xs.length → 0 ≤ ith xs i := fun i hi => (hP.claims.at_ i hi).1
  have h1 := gets_bounds xs h0 xs.length E (List.replicate xs.length false) i (by simp) (wait_all _) hP.estate.1 hi (bth_none _ _)
  refine ⟨h1.1, Int.le_trans h1.2 ?_⟩
  have hx := hP.claims.at_ i hi
  have hf := fact_seven hP.seven
  have h2 : ith xs i * (fact xs.length : Nat) ≤ 100000 * 5040 := Int.mul_le_mul (by omega) (by omega) (by omega) (by omega)
  omega
/-- The first k whole numbers. -/
def upI (k : Nat) : List Int := (List.range k).map fun (j : Nat) => (j : Int)
theorem upI_snoc (k : Nat) : upI (k + 1) = upI k ++ [(k : Int)] := by simp [upI, List.range_succ]
theorem upI_length (k : Nat) : (upI k).length = k := by simp [upI]
theorem upI_lft (n : Nat) : lftI (List.replicate n false) n = upI n := by
  unfold lftI lft upI
  rw [List.filter_eq_self.2 (fun i _ => by rw [bth_none]; rfl)]
set_option maxRecDepth 100000 in
set_option maxHeartbeats 4000000 in
theorem qrule4_calls (w : World) (E : Int) (ao : Option Addr) (cap : Nat) (xs : List Int) (hI : IntsIn w ao xs) (hP : IsProb E xs) :
    Calls Try.prog 51 #[.int .i64 4, .int .i64 E, .slice ao xs.length cap] w (RuleRes w 4 E xs) := by
  have hI0 : xs.length = xs.length := rfl
  have hE := hP.estate
  have h7 := hP.seven
  have h1 := hP.one
  have he := hP.enough
  have hms := hP.claims.isum
  have HP := Lib.hid hP
  have HCL := Lib.hid hP.claims
  have hcm : ∀ i, i < xs.length → qth (xs.map fun x => Rat.divInt x 1) i = Rat.divInt (ith xs i) 1 := fun i hi => by simp [qth, ith, hi]
  have HCM := Lib.hid hcm
  have HCE : Hid ((xs.map fun x => Rat.divInt x 1) = (List.range xs.length).map fun i => Rat.divInt (2 * ith xs i) 2) := Lib.hid (by
    refine List.ext_getElem (by simp) (fun i h1 h2 => ?_)
    rw [List.length_map] at h1
    have e1 : (xs.map fun x => Rat.divInt x 1)[i] = Rat.divInt (ith xs i) 1 := by simp [ith, h1]
    rw [e1, List.getElem_map, List.getElem_range]
    exact divInt_eq (by omega) (by omega) (by omega))
  clear hP hcm
  obtain ⟨n, hn⟩ : ∃ n, n = xs.length := ⟨_, rfl⟩
  rw [← hn] at h7 h1 hI0 ⊢
  have HN := Lib.hid hn
  clear hn
  go_enter Try.func51, Try.ntmps51
  go_wp2_with fail
  have hwc := qwhole_calls w ao cap xs hI (by rw [← HN.out]; omega) (fun k hk => by have := HCL.out.at_ k hk; omega)
  rw [← HN.out] at hwc
  refine hwc.mono ?_
  rintro e w2 ⟨vc, ec, rfl, hoC, hx2⟩
  obtain ⟨cl, cc, rfl, hCQ, hclow⟩ := hoC.qsIn
  have hmlen : (xs.map fun x => Rat.divInt x 1).length = n := by rw [List.length_map, ← HN.out]
  rw [hmlen] at hoC ⊢
  have HML := Lib.hid hmlen
  clear hmlen hwc hclow
  go_wp2_with fail
  refine (frac_calls w2 E 1 (by omega) (by omega) (by omega)).mono ?_
  rintro e w3 ⟨nb1, zo1, A1, zc1, mb1, yo1, B1, yc1, rfl, hR1, -, -, hx3⟩
  have hx23 := hx2.trans hx3
  go_wp2_with fail
  have hx4 : Ext w3 (w3.alloc (Obj.cells #[.bool nb1, .slice zo1 A1 zc1, .bool mb1, .slice yo1 B1 yc1] 41)) := (Ext.refl _).alloc _
  have hb8 : QBox (w3.alloc (Obj.cells #[.bool nb1, .slice zo1 A1 zc1, .bool mb1, .slice yo1 B1 yc1] 41)) w3.heap.size (.bool nb1) (.slice zo1 A1 zc1) (.bool mb1) (.slice yo1 B1 yc1) := ⟨by simp [go_sem], by simp [go_sem], by simp [go_sem], by simp [go_sem], by simp⟩
  generalize (w3.alloc (Obj.cells #[.bool nb1, .slice zo1 A1 zc1, .bool mb1, .slice yo1 B1 yc1] 41)) = w4 at *
  obtain ⟨b8, hb8e⟩ : ∃ b8, b8 = w3.heap.size := ⟨_, rfl⟩
  rw [← hb8e] at hb8 ⊢
  clear hb8e
  have hx24 := hx23.trans hx4
  have hCQ4 := hCQ.ext (hx3.trans hx4)
  have htc := qtotal_calls w4 cl cc (xs.map fun x => Rat.divInt x 1) hCQ4 (by rw [HML.out]; omega) (fun k hk => by
    rw [HML.out, HN.out] at hk
    rw [HCM.out k hk, qsum_whole xs k (by omega)]
    have h2 := HCL.out.at_ k hk
    have h3 : Upto 100000 (xs.take k) := fun x hx => HCL.out x (List.mem_of_mem_take hx)
    have h4 := h3.isum
    have h5 : (xs.take k).length ≤ 7 := by rw [List.length_take, ← HN.out]; omega
    exact ⟨fine_small (by omega) (by omega) (by omega), fine_small (by omega) (by omega) (by omega)⟩)
  rw [HML.out] at htc
  rw [HN.out, qsum_whole xs _ (Nat.le_refl _), List.take_length, ← HN.out] at htc
  refine htc.mono ?_
  rintro e w5 ⟨nb2, zo2, A2, zc2, mb2, yo2, B2, yc2, rfl, hR2, -, -, hx5⟩
  clear htc
  have hb8' := hb8.ext hx5
  obtain ⟨q0, q1, q2, q3, ql⟩ := id hb8'
  go_wp2_with fail
  have hx6 : Ext w5 (w5.alloc (Obj.cells #[.bool nb2, .slice zo2 A2 zc2, .bool mb2, .slice yo2 B2 yc2] 41)) := (Ext.refl _).alloc _
  have hb9 : QBox (w5.alloc (Obj.cells #[.bool nb2, .slice zo2 A2 zc2, .bool mb2, .slice yo2 B2 yc2] 41)) w5.heap.size (.bool nb2) (.slice zo2 A2 zc2) (.bool mb2) (.slice yo2 B2 yc2) := ⟨by simp [go_sem], by simp [go_sem], by simp [go_sem], by simp [go_sem], by simp⟩
  generalize (w5.alloc (Obj.cells #[.bool nb2, .slice zo2 A2 zc2, .bool mb2, .slice yo2 B2 yc2] 41)) = w6 at *
  obtain ⟨b9, hb9e⟩ : ∃ b9, b9 = w5.heap.size := ⟨_, rfl⟩
  rw [← hb9e] at hb9 ⊢
  clear hb9e q0 q1 q2 q3 ql hb8
  have f1 : Fine (Rat.divInt E 1) := fine_small (by omega) (by omega) (by omega)
  have hm7 : isum xs ≤ 700000 := by have := HN.out; omega
  have f2 : Fine (Rat.divInt (isum xs) 1) := fine_small (by omega) (by omega) (by omega)
  have hR16 := hR1.ext ((hx4.trans hx5).trans hx6)
  have hR26 := hR2.ext hx6
  refine (sub_calls w6 nb2 mb2 nb1 mb1 zo2 yo2 zo1 yo1 A2 zc2 B2 yc2 A1 zc1 B1 yc1 (Rat.divInt (isum xs) 1) (Rat.divInt E 1) hR26 hR16 f2 f1).mono ?_
  rintro e w7 ⟨nb3, zo3, A3, zc3, mb3, yo3, B3, yc3, rfl, hR3, -, -, hx7⟩
  rw [divInt_sub_same (by omega)] at hR3
  have hb87 := (hb8'.ext hx6).ext hx7
  have hb97 := hb9.ext hx7
  obtain ⟨q0, q1, q2, q3, ql⟩ := id hb87
  obtain ⟨r0, r1, r2, r3, rl⟩ := id hb97
  go_upto_region 5 with fail
  have hx8 : Ext w7 (w7.alloc (Obj.cells #[.bool nb3, .slice zo3 A3 zc3, .bool mb3, .slice yo3 B3 yc3] 41)) := (Ext.refl _).alloc _
  have hb10 : QBox (w7.alloc (Obj.cells #[.bool nb3, .slice zo3 A3 zc3, .bool mb3, .slice yo3 B3 yc3] 41)) w7.heap.size (.bool nb3) (.slice zo3 A3 zc3) (.bool mb3) (.slice yo3 B3 yc3) := ⟨by simp [go_sem], by simp [go_sem], by simp [go_sem], by simp [go_sem], by simp⟩
  generalize (w7.alloc (Obj.cells #[.bool nb3, .slice zo3 A3 zc3, .bool mb3, .slice yo3 B3 yc3] 41)) = w8 at *
  obtain ⟨b10, hb10e⟩ : ∃ b10, b10 = w7.heap.size := ⟨_, rfl⟩
  rw [← hb10e] at hb10 ⊢
  clear hb10e q0 q1 q2 q3 ql r0 r1 r2 r3 rl
  have hxw8 : Ext w w8 := (((hx24.trans hx5).trans hx6).trans hx7).trans hx8
  have hCQ8 := hCQ4.ext (((hx5.trans hx6).trans hx7).trans hx8)
  have hE8 := hR16.ext (hx7.trans hx8)
  have hoC8 := hoC.ext ((((hx3.trans hx4).trans (hx5.trans hx6)).trans hx7).trans hx8)
  have hS8 := hR26.ext (hx7.trans hx8)
  have hM8 := hR3.ext hx8
  have hb88 := hb87.ext hx8
  have hb98 := hb97.ext hx8
  clear hoC hR1 hR2 hR3 hR16 hR26 hx2 hx3 hx4 hx5 hx6 hx7 hx8 hx23 hx24 hCQ hCQ4 hb87 hb97 hb8' hb9
  obtain ⟨q0, q1, q2, q3, ql⟩ := id hb88
  obtain ⟨r0, r1, r2, r3, rl⟩ := id hb98
  obtain ⟨s0, s1, s2, s3, sl⟩ := id hb10
  clear q0 q1 q2 q3 ql r0 r1 r2 r3 rl s0 s1 s2 s3 sl hb88 hb98 hb10 hE8 hS8 hM8 hCQ8 hoC8 f1 f2
  have hI8 := hI.ext hxw8
  clear hI
  obtain ⟨i0, hi, hz0, hz1, hz2⟩ := info_parts info_int
  have hm1 := make_ints n (by omega)
  go_wp2_with fail
  have hx9 : Ext w8 (w8.alloc (Obj.cells (Array.replicate n (.int .i64 0)) 3)) := (Ext.refl _).alloc _
  have hC9 : CellsF (w8.alloc (Obj.cells (Array.replicate n (.int .i64 0)) 3)) w8.heap.size n (fun _ => 0) := fun j hj => ⟨by simp [go_sem, hj], by simp [go_sem]⟩
  obtain ⟨w9, hw9⟩ : ∃ w9, w9 = (w8.alloc (Obj.cells (Array.replicate n (.int .i64 0)) 3)) := ⟨_, rfl⟩
  have hQ9 : w8.heap.size < w9.heap.size := by rw [hw9]; simp
  rw [← hw9] at hx9 hC9 ⊢
  clear hw9
  obtain ⟨Q, hQ⟩ : ∃ Q, Q = w8.heap.size := ⟨_, rfl⟩
  rw [← hQ] at hC9 hQ9 ⊢
  have hQw : w8.heap.size ≤ Q := by omega
  clear hQ
  have hI9 := hI8.ext hx9
  obtain ⟨W, hW⟩ : ∃ W, W ≤ w9.heap.size ∧ w9.heap.size ≤ W := ⟨_, Nat.le_refl _, Nat.le_refl _⟩
  have hx89 : Ext w w9 := hxw8.trans hx9
  have hI8' := hI8
  have hxw8s := hxw8.size
  clear hx9 hxw8 hI8 hm1
  go_loopw [16, 17, 18] (fun mv lv iv wr => ∃ k : Nat, k ≤ n ∧ iv = .int .i64 k ∧ mv = .int .i64 (fact k : Nat) ∧ Ext w9 wr ∧ Own wr W 1 lv (ints (upI k))) (fun _ _ iv _ => n - (intOf iv).toNat)
  case atStart => exact ⟨0, by omega, rfl, rfl, Ext.refl _, Own.nil _ _ _⟩
  case round =>
    obtain ⟨k, hk, rfl, rfl, hx, ho⟩ := hrel
    have hWr := hx.size
    by_cases hlt : k < n
    · have hf := fact_seven (n := k + 1) (by omega)
      have hf0 := fact_seven (n := k) (by omega)
      have hfs : ((fact k : Nat) : Int) * ((k : Int) + 1) = ((fact (k + 1) : Nat) : Int) := by rw [fact]; simp; grind
      have hw1 : IntKind.i64.wrap (((fact k : Nat) : Int) * ((k : Int) + 1)) = ((fact (k + 1) : Nat) : Int) := by rw [hfs, IntKind.wrap_i64]; omega
      have hkl := upI_length k
      have hlow := ho.lt
      go_wp2_with (at_builtin; refine wpList_append_Own _ rfl _ _ 22 rfl 3 i0 (.int .i64 0) 1 8 Try.underlying22 hi hz0 hz1 hz2 rfl (by omega) W _ _ rfl (Own.ext ho ((Ext.refl _).alloc _)) (by first | omega | (simp; omega)) _ 1 1 [.int .i64 (k : Int)] rfl rfl (one_cell _ _ _ _ (by simp)) (by simp [Value.oneCell']) (by simp [ints_length, hkl]; unfold maxLen; omega) (by simp [ints_length, hkl]; omega) ?_; intro v' w5 ho5 hg5 hb5)
      rw [ints_snoc, ← upI_snoc] at ho5
      exact ⟨⟨k + 1, by omega, rfl, rfl, ((hx.alloc _).onto hg5 (fun q hq => by have := (hlow q hq).1; omega)), ho5⟩, by simp only [intOf]; omega⟩
    · obtain rfl : n = k := by omega
      obtain ⟨lo, lcap, hv, hLI, hLlow⟩ := ho.intsShape
      obtain ⟨lo2, ln2, lc2, hv2, hlcap⟩ := ho.shapeCap
      rw [hv] at hv2
      simp only [Value.slice.injEq, upI_length] at hv2
      obtain ⟨rfl, rfl, rfl⟩ := hv2
      rw [upI_length] at hv
      subst hv
      have hQz : Q < wr.heap.size := Nat.lt_of_lt_of_le hQ9 hx.size
      have hwl := wait_all xs.length
      have hrc := qrun_calls xs (by rw [← HN.out]; exact h7) HCL.out xs.length wr E ao lo cap lcap n Q (List.replicate xs.length false) (fun _ => 0) (hI9.ext hx) (fun a ha => by
        obtain ⟨b0, o0, e0, hl0, -⟩ := hI8' 0 (by have := HN.out; omega)
        rw [ha, Option.some.injEq] at e0
        subst e0
        show b0 ≠ Q
        omega) (by simp) hwl (by rw [upI_lft, ← HN.out]; exact hLI) (fun a ha => by have := (hLlow a ha).1; omega) (by rw [← HN.out]; exact hlcap) (by rw [← HN.out]; exact hC9.ext hQ9 hx) hQz hE (fun i hi => by
        have := bounds4 HP.out i hi
        omega)
      have HG : Hid (∀ i, i < n → 0 ≤ gets xs xs.length E (List.replicate xs.length false) i ∧ gets xs xs.length E (List.replicate xs.length false) i ≤ 1000000000) := Lib.hid (fun i hi => bounds4 HP.out i (by rw [← HN.out]; exact hi))
      have HRES : Hid (∀ qs : List Rat, qs = (List.range n).map (fun k => Rat.divInt (gets xs xs.length E (List.replicate xs.length false) k) (fact n : Nat)) → ruleQ 4 E xs qs) := Lib.hid (fun qs hq => by
        refine ruleQ_run (by rw [hq]; simp [HN.out]) (fun i hi => ?_)
        rw [hq, qth_map_range _ _ _ (by rw [HN.out]; exact hi), ← HN.out])
      obtain ⟨g, hg⟩ : ∃ g : Nat → Int, g = gets xs xs.length E (List.replicate xs.length false) := ⟨_, rfl⟩
      simp only [← hg, Int.zero_add] at hrc HG HRES
      rw [← HN.out] at hrc
      clear hg hwl hC9 hLI hI9 hI8'
      go_wp2_with fail
      refine hrc.mono ?_
      rintro e w10 ⟨rfl, hgr, hC10⟩
      have hx10 : Ext w w10 := (hx89.trans hx).onto hgr (fun q hq => by simp only [Option.some.injEq] at hq; have := hxw8s; omega)
      clear hi hz0 hz1 hz2
      clear i0
      obtain ⟨i0, hi, hz0, hz1, hz2⟩ := info_parts info_Q
      obtain ⟨V, hV⟩ : ∃ V, V ≤ w10.heap.size ∧ w10.heap.size ≤ V := ⟨_, Nat.le_refl _, Nat.le_refl _⟩
      have hQ10 : Q < w10.heap.size := Nat.lt_of_lt_of_le hQz hgr.size
      have hfn := fact_seven h7
      have hfp := fact_pos n
      obtain ⟨m, hm⟩ : ∃ m : Nat, m = fact n := ⟨_, rfl⟩
      rw [← hm] at hfn hfp HRES ⊢
      clear hm hgr
      go_wp2_with fail
      go_loopw [19, 20] (fun ov iv wz => ∃ (k : Nat) (es : List QV), k ≤ n ∧ iv = .int .i64 k ∧ Ext w10 wz ∧ QOn wz V ov es ((List.range k).map fun k => Rat.divInt (g k) m)) (fun _ iv _ => n - (intOf iv).toNat)
      case atStart => exact ⟨0, [], by omega, rfl, Ext.refl _, QOn.nil _ _⟩
      case round =>
        rename World => wz
        obtain ⟨k, es, hk, rfl, hx, ho⟩ := hrel
        by_cases hlt : k < n
        · have hc := (hC10 k hlt).1
          have hcz := (hx.cell (p := ⟨Q, k, none⟩) hQ10).trans hc
          simp only [] at hcz
          have hgk := HG.out k hlt
          have HT := Lib.hid (map_range_snoc (fun k => Rat.divInt (g k) m) k)
          have hkl : ((List.range k).map fun k => Rat.divInt (g k) m).length = k := by simp
          obtain ⟨ts, hts⟩ : ∃ ts, ts = (List.range k).map fun k => Rat.divInt (g k) m := ⟨_, rfl⟩
          rw [← hts] at ho hkl HT
          clear hts hc
          obtain ⟨x, hxg⟩ : ∃ x, x = g k := ⟨_, rfl⟩
          simp only [← hxg] at hcz hgk HT
          clear hxg
          have hel := ho.len
          have hWr := hx.size
          have how := ho.own
          go_wp2_with fail
          refine (frac_calls _ x m (by omega) (by omega) (by omega)).mono ?_
          rintro e w2 ⟨nb, zo, A, zc, mb, yo, B, yc, rfl, hR, hbk, hbm, hx2⟩
          have hx2s := hx2.size
          clear hcz
          go_wp2_with (at_builtin; refine wpList_append_Own _ rfl _ _ 58 rfl 41 i0 (.agg #[.bool false, .slice none 0 0, .bool false, .slice none 0 0]) 4 64 Try.underlying58 hi hz0 hz1 hz2 rfl (by omega) V _ (qvals es) rfl (Own.ext how ((hx2.trans (Ext.refl _)).alloc _)) (by first | omega | (simp; omega)) _ 1 1 (QV.vals (⟨nb, zo, A, zc, mb, yo, B, yc⟩ : QV)) rfl rfl (four_cell _ (⟨nb, zo, A, zc, mb, yo, B, yc⟩ : QV) _ _ (by first | rfl | simp)) (QV.one (⟨nb, zo, A, zc, mb, yo, B, yc⟩ : QV)) (by rw [qvals_length, QV.vals_length]; unfold maxLen; omega) (by rw [qvals_length, QV.vals_length]; omega) ?_; intro v' w5 ho5 hg5 hb5)
          have hs := ho.snoc (hx2.alloc _) (x := ⟨nb, zo, A, zc, mb, yo, B, yc⟩) (isExt (w := w2) (show QV.is ⟨nb, zo, A, zc, mb, yo, B, yc⟩ w2 _ from hR) ((Ext.refl _).alloc _)) hbk hbm ho5 hg5 hb5
          rw [← HT.out] at hs
          exact ⟨⟨k + 1, _, by omega, rfl, ((hx.trans hx2).alloc _).onto hg5 (fun q hq => by have := (how.lt q hq).1; omega), hs⟩, by simp only [intOf]; omega⟩
        · obtain rfl : n = k := by omega
          go_wp2_with fail
          go_ret
          exact ⟨_, es, _, rfl, ⟨ho.len, ho.own.rebase (by have := hx10.size; omega), ho.num, ho.off⟩, HRES.out _ rfl, hx10.trans hx⟩
end Go.Proofs.Ytcngecibljgndaa
