/- The specification's halves, total, lesser: the walks. -/
import Derived.Test.YtcngecibljgndaaMRQA
import Derived.Test.YtcngecibljgndaaMQW
import Derived.Test.YtcngecibljgndaaMRPB
import Derived.Test.YtcngecibljgndaaMQPD
import Derived.Test.YtcngecibljgndaaMQD
namespace Go.Proofs.Ytcngecibljgndaa
open Go.RowKit Go.Shelf

set_option maxRecDepth 100000 in
set_option maxHeartbeats 4000000 in
theorem qhalves_calls (w : World) (ao : Option Addr) (cap : Nat) (ps : List Rat) (hA : QsIn w ao ps) (hl : ps.length ≤ 1000) (hF : ∀ k, k < ps.length → Fine (qth ps k)) :
    Calls Try.prog 94 #[.slice ao ps.length cap] w (MadeQ w ((List.range ps.length).map fun k => qth ps k * Rat.divInt 1 2)) := by
  have HF := Lib.hid hF
  clear hF
  obtain ⟨i0, hi, hz0, hz1, hz2⟩ := info_parts info_Q
  obtain ⟨W, hW⟩ : ∃ W, W ≤ w.heap.size ∧ w.heap.size ≤ W := ⟨_, Nat.le_refl _, Nat.le_refl _⟩
  have hfh : Fine (Rat.divInt 1 2) := fine_small (by omega) (by omega) (by omega)
  go_enter Try.func94, Try.ntmps94
  go_wp2_with fail
  go_loopw [3, 4] (fun ov iv wr => ∃ (k : Nat) (es : List QV), k ≤ ps.length ∧ iv = .int .i64 k ∧ Ext w wr ∧ QOn wr W ov es ((List.range k).map fun k => qth ps k * Rat.divInt 1 2)) (fun _ iv _ => ps.length - (intOf iv).toNat)
  case atStart => exact ⟨0, [], by omega, rfl, Ext.refl _, QOn.nil _ _⟩
  case round =>
    obtain ⟨k, es, hk, rfl, hx, ho⟩ := hrel
    by_cases hlt : k < ps.length
    · obtain ⟨b1, o1, nb1, zo1, A1, zc1, mb1, yo1, B1, yc1, rfl, hb1, hc1, hq1⟩ := hA k hlt
      have f1 := HF.out k hlt
      have HT := Lib.hid (map_range_snoc (fun k => qth ps k * Rat.divInt 1 2) k)
      have hkl : ((List.range k).map fun k => qth ps k * Rat.divInt 1 2).length = k := by simp
      obtain ⟨rs, hrs⟩ : ∃ rs, rs = (List.range k).map fun k => qth ps k * Rat.divInt 1 2 := ⟨_, rfl⟩
      rw [← hrs] at ho hkl HT
      clear hrs
      have hel := ho.len
      have how := ho.own
      have hWr := hx.size
      have hk1 : (0 : Int) ≤ (k : Int) := by omega
      have hk2 : (k : Int) < (ps.length : Int) := by omega
      go_wp2_with fail
      go_region_held3 (fun w' => (w'.cell? ⟨b1, o1 + k * 4, none⟩ = some (.bool nb1)) ∧ (w'.cell? ⟨b1, o1 + k * 4 + 1, none⟩ = some (.slice zo1 A1 zc1)) ∧ (w'.cell? ⟨b1, o1 + k * 4 + 2, none⟩ = some (.bool mb1)) ∧ (w'.cell? ⟨b1, o1 + k * 4 + 3, none⟩ = some (.slice yo1 B1 yc1)))
        (exact c4 hb1 hc1 (by repeat (with_reducible first | exact Ext.refl _ | assumption | refine Ext.alloc ?_ _ | refine Ext.drew ?_)))
        ((first
          | (go_at_call 86; refine (mul_calls _ nb1 mb1 nb2 mb2 zo1 yo1 zo2 yo2 A1 zc1 B1 yc1 A2 zc2 B2 yc2 (qth ps k) (Rat.divInt 1 2) (hq1.ext hxk2) hR2 f1 hfh).mono ?_; rintro e v1 ⟨nb, zo, A, zc, mb, yo, B, yc, rfl, hR, hbk, hbm, hx11⟩; have hxr1 : Ext wr v1 := hxr2.trans hx11; have hxk1 : Ext w v1 := hx.trans hxr1; have hs1 := hxr1.size)
          | (go_at_call 31; refine (frac_calls _ 1 2 (by omega) (by omega) (by omega)).mono ?_; rintro e v2 ⟨nb2, zo2, A2, zc2, mb2, yo2, B2, yc2, rfl, hR2, hbk2, hbm2, hx12⟩; have hxr2 : Ext wr v2 := Ext.trans ((Ext.refl _).drew) hx12; have hxk2 : Ext w v2 := hx.trans hxr2; have hs2 := hxr2.size)
          | (refine step_append_Own _ (by rfl) _ _ 58 (by rfl) 41 i0 (.agg #[.bool false, .slice none 0 0, .bool false, .slice none 0 0]) 4 64 Try.underlying58 hi hz0 hz1 hz2 rfl (by omega) W _ (qvals es) (by rfl) (Own.ext how (by repeat (with_reducible first | exact Ext.refl _ | assumption | refine Ext.alloc ?_ _ | refine Ext.drew ?_))) (by first | omega | (simp; omega)) _ 1 1 (QV.vals (⟨nb, zo, A, zc, mb, yo, B, yc⟩ : QV)) (by rfl) rfl (four_cell _ (⟨nb, zo, A, zc, mb, yo, B, yc⟩ : QV) _ _ (by first | rfl | simp)) (QV.one (⟨nb, zo, A, zc, mb, yo, B, yc⟩ : QV)) (by rw [qvals_length, QV.vals_length]; unfold maxLen; omega) (by rw [qvals_length, QV.vals_length]; omega) ?_; intro v' w5 ho5 hg5 hb5; have hxk5 : Ext w w5 := Ext.onto (show Ext w _ from hxk1.alloc _) hg5 (fun q hq => by have := (how.lt q hq).1; omega))))
      all_goals
        have hs := ho.snoc (hxr1.alloc _) (x := ⟨nb, zo, A, zc, mb, yo, B, yc⟩) (isExt (w := v1) (show QV.is ⟨nb, zo, A, zc, mb, yo, B, yc⟩ v1 _ from hR) ((Ext.refl _).alloc _)) (fun a ha => Nat.le_trans hs2 (hbk a ha)) (fun a ha => Nat.le_trans hs2 (hbm a ha)) ho5 hg5 hb5
        rw [← HT.out] at hs
        go_wp2_with fail
        exact ⟨⟨k + 1, _, by omega, rfl, hxk5, hs⟩, by simp only [intOf]; omega⟩
    · obtain rfl : k = ps.length := by omega
      go_wp2_with fail
      go_ret
      exact ⟨_, es, rfl, ⟨ho.len, ho.own.rebase hW.2, ho.num, ho.off⟩, hx⟩
def qsum (qs : List Rat) : Nat → Rat
  | 0 => Rat.divInt 0 1
  | k + 1 => qsum qs k + qth qs k
set_option maxRecDepth 100000 in
set_option maxHeartbeats 4000000 in
theorem qtotal_calls (w : World) (ao : Option Addr) (cap : Nat) (ps : List Rat) (hA : QsIn w ao ps) (hl : ps.length ≤ 1000) (hF : ∀ k, k < ps.length → Fine (qth ps k) ∧ Fine (qsum ps k)) :
    Calls Try.prog 88 #[.slice ao ps.length cap] w (QR w (qsum ps ps.length)) := by
  have HF := Lib.hid hF
  clear hF
  go_enter Try.func88, Try.ntmps88
  go_wp2_with fail
  have hx1 : Ext w (w.alloc (Obj.cells #[.bool false, .slice none 0 0, .bool false, .slice none 0 0] 41)) := (by repeat (first | exact Ext.refl _ | assumption | refine Ext.alloc ?_ _ | refine Ext.drewN ?_ _ | refine Ext.drew ?_))
  have hs1 := Spot4.new w 41
  generalize (w.alloc (Obj.cells #[.bool false, .slice none 0 0, .bool false, .slice none 0 0] 41)) = w1 at *
  obtain ⟨R, hR⟩ : ∃ R, R = w.heap.size := ⟨_, rfl⟩
  rw [← hR] at hs1 ⊢
  have hRw : w.heap.size ≤ R := by omega
  clear hR
  refine (frac_calls w1 0 1 (by omega) (by omega) (by omega)).mono ?_
  rintro e w2 ⟨nb4, zo4, A4, zc4, mb4, yo4, B4, yc4, rfl, h4, hbk, hbm, hx2⟩
  go_wp2_with fail
  have hT := OneQ.made (zc := zc4) (yc := yc4) 41 hx2 h4 hbk hbm
  obtain ⟨C, hC⟩ : ∃ C, C = w2.heap.size := ⟨_, rfl⟩
  generalize (w2.alloc (Obj.cells #[.bool nb4, .slice zo4 A4 zc4, .bool mb4, .slice yo4 B4 yc4] 41)) = w3 at *
  rw [← hC] at hT ⊢
  clear hC h4 hbk hbm hx2
  go_loopw [4] (fun iv wr => ∃ (k : Nat), k ≤ ps.length ∧ iv = .int .i64 k ∧ OneQ w1 wr C (qsum ps k)) (fun iv _ => ps.length - (intOf iv).toNat)
  case atStart => exact ⟨0, by omega, rfl, hT⟩
  case round =>
    obtain ⟨k, hk, rfl, hTk⟩ := hrel
    have hTk2 := hTk
    obtain ⟨nb2, zo2, A2, zc2, mb2, yo2, B2, yc2, hC1, hbC, -, -, hz2, hy2, hxr⟩ := hTk
    by_cases hlt : k < ps.length
    · obtain ⟨b1, o1, nb1, zo1, A1, zc1, mb1, yo1, B1, yc1, rfl, hb1, hc1, hq1⟩ := (hA.ext (hx1.trans hxr)) k hlt
      obtain ⟨f1, f2⟩ := HF.out k hlt
      have hk1 : (0 : Int) ≤ (k : Int) := by omega
      have hk2 : (k : Int) < (ps.length : Int) := by omega
      obtain ⟨x0, x1, x2, x3, xl⟩ := id hbC.box
      obtain ⟨d0, d1, d2, d3⟩ := hc1
      have hadd := fun W h h' => add_calls W nb2 mb2 nb1 mb1 zo2 yo2 zo1 yo1 A2 zc2 B2 yc2 A1 zc1 B1 yc1 (qsum ps k) (qth ps k) h h' f2 f1
      go_wp2_with fail
      go_region_with (go_at_call 30; refine (hadd _ (hbC.num.ext (by repeat (with_reducible first | exact Ext.refl _ | assumption | refine Ext.alloc ?_ _ | refine Ext.drew ?_))) (hq1.ext (by repeat (with_reducible first | exact Ext.refl _ | assumption | refine Ext.alloc ?_ _ | refine Ext.drew ?_)))).mono ?_; rintro e v1 ⟨nb, zo, A, zc, mb, yo, B, yc, rfl, hR, hbk, hbm, hx11⟩; have hxr1 : Ext wr v1 := Ext.trans (by repeat (with_reducible first | exact Ext.refl _ | assumption | refine Ext.alloc ?_ _ | refine Ext.drew ?_)) hx11; have hTv := hTk2.ext hxr1; obtain ⟨s0, s1, s2, s3, s4, s5, s6, s7, s8⟩ := hbC.spot.ext hxr1; obtain ⟨c0, hc0⟩ := Option.isSome_iff_exists.1 s1; obtain ⟨c1, hc1⟩ := Option.isSome_iff_exists.1 s2; obtain ⟨c2, hc2⟩ := Option.isSome_iff_exists.1 s3; obtain ⟨c3, hc3⟩ := Option.isSome_iff_exists.1 s4; clear s1 s2 s3 s4)
      all_goals
        have hsz := hxr.size
        simp only [World.size_drew] at hbk hbm
        have hT5 := hTv.fill (zc := zc) (yc := yc) hR (off_fresh hbk xl) (off_fresh hbm xl) (fun a ha => Nat.le_trans hsz (hbk a ha)) (fun a ha => Nat.le_trans hsz (hbm a ha))
        clear hbk hbm
        go_wp2_with fail
        exact ⟨⟨k + 1, by omega, rfl, hT5⟩, by simp only [intOf]; omega⟩
    · obtain rfl : k = ps.length := by omega
      obtain ⟨x0, x1, x2, x3, xl⟩ := id hbC.box
      obtain ⟨s0, s1, s2, s3, s4, s5, s6, s7, s8⟩ := hs1.ext hxr
      obtain ⟨c0, hc0⟩ := Option.isSome_iff_exists.1 s1
      obtain ⟨c1, hc1⟩ := Option.isSome_iff_exists.1 s2
      obtain ⟨c2, hc2⟩ := Option.isSome_iff_exists.1 s3
      obtain ⟨c3, hc3⟩ := Option.isSome_iff_exists.1 s4
      clear s1 s2 s3 s4
      have hspot := hs1.ext hxr
      have hR1 := hs1.lt
      go_wp2_with fail
      obtain ⟨r0, r1, r2, r3⟩ := hspot.put (.bool nb2) (.slice zo2 A2 zc2) (.bool mb2) (.slice yo2 B2 yc2)
      refine bodyPost_ret (v := .agg #[.bool nb2, .slice zo2 A2 zc2, .bool mb2, .slice yo2 B2 yc2]) (by simp [results, Try.results88, go_sem, r0, r1, r2, r3]) rfl ?_
      exact q_done (hx1.trans hxr) hRw hR1 hx1.size hbC.num hz2 hy2
set_option maxRecDepth 100000 in
set_option maxHeartbeats 4000000 in
theorem qlesser_calls (w : World) (nb mb kb lb : Bool) (zo yo xo vo : Option Addr) (A zc B yc C xc D vc : Nat) (a b : Rat) (hP : QNum w a nb zo A mb yo B) (hQ : QNum w b kb xo C lb vo D) (hF : Fine a) (hG : Fine b) :
    Calls Try.prog 121 #[.agg #[.bool nb, .slice zo A zc, .bool mb, .slice yo B yc], .agg #[.bool kb, .slice xo C xc, .bool lb, .slice vo D vc]] w fun e w' => ((a < b ∧ e = .returned (.agg #[.bool nb, .slice zo A zc, .bool mb, .slice yo B yc])) ∨ (¬ a < b ∧ e = .returned (.agg #[.bool kb, .slice xo C xc, .bool lb, .slice vo D vc]))) ∧ Ext w w' := by
  go_enter Try.func121, Try.ntmps121
  go_wp2_with fail
  obtain ⟨w1, hw1⟩ : ∃ w1, w1 = (((w.alloc (Obj.cells #[.bool nb, .slice zo A zc, .bool mb, .slice yo B yc] 41)).alloc (Obj.cells #[.bool kb, .slice xo C xc, .bool lb, .slice vo D vc] 41)).alloc (Obj.cells #[.bool false, .slice none 0 0, .bool false, .slice none 0 0] 41)) := ⟨_, rfl⟩
  have hx1 : Ext w w1 := by rw [hw1]; exact (by repeat (first | exact Ext.refl _ | assumption | refine Ext.alloc ?_ _ | refine Ext.drewN ?_ _ | refine Ext.drew ?_))
  have hb1 : QBox w1 w.heap.size (.bool nb) (.slice zo A zc) (.bool mb) (.slice yo B yc) := by rw [hw1]; exact ⟨by simp [go_sem], by simp [go_sem], by simp [go_sem], by simp [go_sem], by first | (simp; done) | (simp; omega)⟩
  have hb2 : QBox w1 (w.heap.size + 1) (.bool kb) (.slice xo C xc) (.bool lb) (.slice vo D vc) := by rw [hw1]; exact ⟨by simp [go_sem], by simp [go_sem], by simp [go_sem], by simp [go_sem], by first | (simp; done) | (simp; omega)⟩
  have hs1 : Spot4 w1 (w.heap.size + 1 + 1) := by rw [hw1]; exact ⟨by first | (simp; done) | (simp; omega), by simp [go_sem], by simp [go_sem], by simp [go_sem], by simp [go_sem], by simp [go_sem], by simp [go_sem], by simp [go_sem], by simp [go_sem]⟩
  rw [← hw1]
  clear hw1
  obtain ⟨R, hR⟩ : ∃ R, R = w.heap.size := ⟨_, rfl⟩
  rw [← hR] at hb1 hb2 hs1 ⊢
  have hRw : w.heap.size ≤ R + 1 + 1 := by omega
  clear hR
  obtain ⟨cq, hcq⟩ : ∃ cq, cmpQ a b = cq := ⟨_, rfl⟩
  have hcc := cmp_calls w1 nb mb kb lb zo yo xo vo A zc B yc C xc D vc a b (hP.ext hx1) (hQ.ext hx1) hF hG
  rw [hcq] at hcc
  refine hcc.mono ?_
  rintro e w2 ⟨rfl, hx2⟩
  obtain ⟨x0, x1, x2, x3, xl⟩ := hb1.ext hx2
  obtain ⟨y0, y1, y2, y3, yl⟩ := hb2.ext hx2
  obtain ⟨s0, s1, s2, s3, s4, s5, s6, s7, s8⟩ := hs1.ext hx2
  obtain ⟨c0, hc0⟩ := Option.isSome_iff_exists.1 s1
  obtain ⟨c1, hc1⟩ := Option.isSome_iff_exists.1 s2
  obtain ⟨c2, hc2⟩ := Option.isSome_iff_exists.1 s3
  obtain ⟨c3, hc3⟩ := Option.isSome_iff_exists.1 s4
  have hspot := hs1.ext hx2
  have hx02 := hx1.trans hx2
  clear s1 s2 s3 s4 hcc
  by_cases hlt : a < b
  · have hcn : cq < 0 := by rw [← hcq]; unfold cmpQ; rw [if_pos hlt]; omega
    have HL := Lib.hid hlt
    clear hlt hcq
    go_wp2_with fail
    obtain ⟨r0, r1, r2, r3⟩ := hspot.put (.bool nb) (.slice zo A zc) (.bool mb) (.slice yo B yc)
    refine bodyPost_ret (v := .agg #[.bool nb, .slice zo A zc, .bool mb, .slice yo B yc]) (by simp [results, Try.results121, go_sem, r0, r1, r2, r3]) rfl ?_
    exact ⟨.inl ⟨HL.out, rfl⟩, hx02.onto (grown_put4 _ _ _ _ _ _) (fun q hq => by simp only [Option.some.injEq] at hq; omega)⟩
  · have hcn : 0 ≤ cq := by
      rw [← hcq]; unfold cmpQ; rw [if_neg hlt]
      split <;> omega
    have HL := Lib.hid hlt
    clear hlt hcq
    go_wp2_with fail
    obtain ⟨r0, r1, r2, r3⟩ := hspot.put (.bool kb) (.slice xo C xc) (.bool lb) (.slice vo D vc)
    refine bodyPost_ret (v := .agg #[.bool kb, .slice xo C xc, .bool lb, .slice vo D vc]) (by simp [results, Try.results121, go_sem, r0, r1, r2, r3]) rfl ?_
    exact ⟨.inr ⟨HL.out, rfl⟩, hx02.onto (grown_put4 _ _ _ _ _ _) (fun q hq => by simp only [Option.some.injEq] at hq; omega)⟩
end Go.Proofs.Ytcngecibljgndaa

/- The rules by fractions; plain. -/
namespace Go.Proofs.Ytcngecibljgndaa
open Go.RowKit Go.Shelf

theorem isum_map_sm (f : Int → Int) (xs : List Int) : isum (xs.map f) = sm xs.length fun i => f (ith xs i) := by
  rw [isum_sm, List.length_map]
  exact sm_congr _ (fun i hi => ith_map f xs i hi)
/-- The specification's equal division is the program's. -/
theorem eqIs_val {xs : List Int} {F f s : Int} {m : Nat} {out : Nat → Rat} (h0 : ∀ x ∈ xs, 0 ≤ x) (hF : 0 ≤ F) (hS : F ≤ isum xs) (hs : 1 ≤ s) (h : EqIs (fun i => s * ith xs i) xs.length (s * F) out f m) :
    ∀ i, i < xs.length → out i = Rat.divInt (s * ith (equalP F xs).1 i) (2 * (equalP F xs).2) := by
  obtain ⟨k, L, hk⟩ := equal_is h0 hF hS
  intro i hi
  have hk1 := hk.den
  obtain ⟨kn, rfl⟩ : ∃ kn : Nat, k = kn := ⟨k.toNat, by omega⟩
  have hsum := hk.sum
  rw [isum_map_sm] at hsum
  have hmin : ∀ c : Int, min (s * c * (kn : Int)) (s * L) = s * min (c * kn) L := fun c => by
    rw [show s * c * (kn : Int) = s * (c * kn) by grind]
    rcases Int.le_total (c * kn) L with h1 | h1
    · rw [Int.min_eq_left h1, Int.min_eq_left (Int.mul_le_mul_of_nonneg_left h1 (by omega))]
    · rw [Int.min_eq_right h1, Int.min_eq_right (Int.mul_le_mul_of_nonneg_left h1 (by omega))]
  have h2 : (sm xs.length fun i => min ((fun i => s * ith xs i) i * (kn : Int)) (s * L)) = s * F * kn := by
    rw [sm_congr _ (g := fun i => s * min (ith xs i * kn) L) (fun i _ => hmin _), sm_mul, hsum]; grind
  have h3 := eq_only (by omega) (by have := h.m1; omega) h.sum h2 i hi
  have hm := h.m1
  rw [h.got i hi, hk.val]
  simp only [ith_map _ _ _ hi]
  refine divInt_eq (by omega) (by omega) ?_
  simp only [hmin] at h3
  grind
theorem qsum_whole (xs : List Int) : ∀ k, k ≤ xs.length → qsum (xs.map fun x => Rat.divInt x 1) k = Rat.divInt (isum (xs.take k)) 1
  | 0, _ => by simp [qsum, isum_nil]
  | k + 1, hk => by
    rw [qsum, qsum_whole xs k (by omega), take_snoc xs k (by omega), isum_append]
    have : qth (xs.map fun x => Rat.divInt x 1) k = Rat.divInt (ith xs k) 1 := by simp [qth, ith, show k < xs.length by omega]
    rw [this, divInt_add_same (by omega)]
    simp [isum_cons, isum_nil]
theorem qth_map_range (f : Nat → Rat) (n k : Nat) (h : k < n) : qth ((List.range n).map f) k = f k := by simp [qth, h]
/-- What a rule gives, as fractions. -/
def ruleQ (rule E : Int) (xs : List Int) (qs : List Rat) : Prop := qs.length = xs.length ∧ ∀ i, i < xs.length → qth qs i = Rat.divInt (ith (ruleP rule E xs).1 i) (ruleP rule E xs).2
theorem ruleQ.eq {rule E : Int} {xs : List Int} {qs : List Rat} (h : ruleQ rule E xs qs) (hl : (ruleP rule E xs).1.length = xs.length) : qs = (ruleP rule E xs).1.map fun n => Rat.divInt n (ruleP rule E xs).2 := by
  refine List.ext_getElem (by rw [h.1, List.length_map, hl]) (fun i h1 h2 => ?_)
  have h3 := h.2 i (by rw [← h.1]; exact h1)
  rw [List.length_map] at h2
  have e1 : qth qs i = qs[i] := by simp [qth, h1]
  rw [List.getElem_map, ← e1, h3, ith_get _ h2]
theorem ruleQ_equal {E : Int} {xs : List Int} (hP : IsProb E xs) {qs : List Rat} (hl : qs.length = xs.length) {f : Int} {m : Nat} (h : EqIs (fun i => 2 * ith xs i) xs.length (2 * E) (qth qs) f m) : ruleQ 0 E xs qs := by
  refine ⟨hl, fun i hi => ?_⟩
  have hE := hP.estate
  have h1 := eqIs_val (fun x hx => (hP.claims x hx).1) hE.1 hP.enough (by omega) h i hi
  have h2 := (equalP_bounds hP.claims hP.seven hP.one hE.1).1
  rw [h1, show ruleP 0 E xs = equalP E xs by simp [ruleP]]
  exact divInt_eq (by omega) (by omega) (by grind)
theorem ruleQ_loss {E : Int} {xs : List Int} (hP : IsProb E xs) {qs rs : List Rat} (hl : qs.length = xs.length) {f : Int} {m : Nat} (h : EqIs (fun i => 2 * ith xs i) xs.length (2 * (isum xs - E)) (qth rs) f m) (hq : ∀ i, i < xs.length → qth qs i = Rat.divInt (ith xs i) 1 - qth rs i) : ruleQ 1 E xs qs := by
  refine ⟨hl, fun i hi => ?_⟩
  have hE := hP.estate
  have he := hP.enough
  have h1 := eqIs_val (fun x hx => (hP.claims x hx).1) (show 0 ≤ isum xs - E by omega) (by omega) (by omega) h i hi
  have h2 := (equalP_bounds (E := isum xs - E) hP.claims hP.seven hP.one (by omega)).1
  rw [hq i hi, h1, show ruleP 1 E xs = (lessOf xs (equalP (isum xs - E) xs).2 (equalP (isum xs - E) xs).1, (equalP (isum xs - E) xs).2) by simp [ruleP]]
  simp only []
  rw [lessOf_at _ _ _ _ hi, Rat.divInt_sub_divInt _ _ (by omega) (by omega)]
  exact divInt_eq (by omega) (by omega) (by grind)
theorem ruleQ_part {E : Int} {xs : List Int} (hP : IsProb E xs) {qs : List Rat} (hl : qs.length = xs.length) (hq : (isum xs = 0 ∧ ∀ i, i < xs.length → qth qs i = Rat.divInt (ith xs i) 1) ∨ (isum xs ≠ 0 ∧ ∀ i, i < xs.length → qth qs i = Rat.divInt E 1 * Rat.divInt (ith xs i) 1 / Rat.divInt (isum xs) 1)) : ruleQ 2 E xs qs := by
  refine ⟨hl, fun i hi => ?_⟩
  have hE := hP.estate
  have he := hP.enough
  rw [show ruleP 2 E xs = (xs.map (· * E), max (isum xs) 1) by simp [ruleP]]
  simp only []
  rw [ith_map _ _ _ hi]
  rcases hq with ⟨h1, h2⟩ | ⟨h1, h2⟩
  · have hx : ith xs i = 0 := by
      have h3 := le_isum (fun x hx => (hP.claims x hx).1) (ith xs i) (by rw [ith_get _ hi]; exact List.getElem_mem _)
      have := (hP.claims.at_ i hi).1
      omega
    rw [h2 i hi, hx]
    exact divInt_eq (by omega) (by omega) (by simp)
  · rw [h2 i hi, Rat.divInt_mul_divInt, divInt_over1 (by omega) h1]
    exact divInt_eq (by simp; exact h1) (by omega) (by
      have : max (isum xs) 1 = isum xs := by omega
      rw [this]; grind)
theorem ruleQ_talmud1 {E : Int} {xs : List Int} (hP : IsProb E xs) (hc : 2 * E ≤ isum xs) {qs : List Rat} (hl : qs.length = xs.length) {f : Int} {m : Nat} (h : EqIs (fun i => 1 * ith xs i) xs.length (1 * (2 * E)) (qth qs) f m) : ruleQ 3 E xs qs := by
  refine ⟨hl, fun i hi => ?_⟩
  have hE := hP.estate
  have h1 := eqIs_val (fun x hx => (hP.claims x hx).1) (show 0 ≤ 2 * E by omega) hc (by omega) h i hi
  rw [h1, show ruleP 3 E xs = talmudP E xs by simp [ruleP], talmudP, if_pos hc, Int.one_mul]
theorem ruleQ_talmud2 {E : Int} {xs : List Int} (hP : IsProb E xs) (hc : ¬ 2 * E ≤ isum xs) {qs rs : List Rat} (hl : qs.length = xs.length) {f : Int} {m : Nat} (h : EqIs (fun i => 1 * ith xs i) xs.length (1 * (2 * (isum xs - E))) (qth rs) f m) (hq : ∀ i, i < xs.length → qth qs i = Rat.divInt (ith xs i) 1 - qth rs i) : ruleQ 3 E xs qs := by
  refine ⟨hl, fun i hi => ?_⟩
  have hE := hP.estate
  have he := hP.enough
  have h1 := eqIs_val (fun x hx => (hP.claims x hx).1) (show 0 ≤ 2 * (isum xs - E) by omega) (by omega) (by omega) h i hi
  have h2 := (equalP_bounds (E := 2 * (isum xs - E)) hP.claims hP.seven hP.one (by omega)).1
  rw [hq i hi, h1, show ruleP 3 E xs = talmudP E xs by simp [ruleP], talmudP, if_neg hc, Int.one_mul]
  simp only []
  rw [lessOf_at _ _ _ _ hi, Rat.divInt_sub_divInt _ _ (by omega) (by omega)]
  exact divInt_eq (by omega) (by omega) (by grind)
theorem ruleQ_run {E : Int} {xs : List Int} {qs : List Rat} (hl : qs.length = xs.length) (hq : ∀ i, i < xs.length → qth qs i = Rat.divInt (gets xs xs.length E (List.replicate xs.length false) i) (fact xs.length : Nat)) : ruleQ 4 E xs qs := by
  refine ⟨hl, fun i hi => ?_⟩
  rw [hq i hi, show ruleP 4 E xs = inTurnP E xs by simp [ruleP], (inTurn_gets E xs).2 i hi, inTurn_ord]
end Go.Proofs.Ytcngecibljgndaa

/- Arrays of fractions that are filled place by place. -/
namespace Go.Proofs.Ytcngecibljgndaa
open Go.RowKit Go.Shelf

/-- A fraction is laid into four cells. -/
abbrev putQ (w : World) (O o : Nat) (x : QV) : World := (((w.setCell ⟨O, o, none⟩ (.bool x.nb)).setCell ⟨O, o + 1, none⟩ (.slice x.zo x.A x.zc)).setCell ⟨O, o + 2, none⟩ (.bool x.mb)).setCell ⟨O, o + 3, none⟩ (.slice x.yo x.B x.yc)
theorem grown_putQ (w : World) (O o : Nat) (x : QV) : w.grownBy (putQ w O o x) (some O) :=
  grownBy_trans (grownBy_trans (grownBy_trans (grownBy_setCell w ⟨O, o, none⟩ _) (grownBy_setCell _ ⟨O, o + 1, none⟩ _)) (grownBy_setCell _ ⟨O, o + 2, none⟩ _)) (grownBy_setCell _ ⟨O, o + 3, none⟩ _)
theorem putQ_other (w : World) (O o j : Nat) (x : QV) (h : j < o ∨ o + 4 ≤ j) : (putQ w O o x).cell? ⟨O, j, none⟩ = w.cell? ⟨O, j, none⟩ := by
  unfold putQ
  rw [World.cell?_setCell_other _ _ _ _ (by first | (simp; done) | (simp; omega)), World.cell?_setCell_other _ _ _ _ (by first | (simp; done) | (simp; omega)), World.cell?_setCell_other _ _ _ _ (by first | (simp; done) | (simp; omega)), World.cell?_setCell_other _ _ _ _ (by first | (simp; done) | (simp; omega))]
theorem putQ_at (w : World) (O o i : Nat) (x : QV) (hi : i < 4) (h : ∀ j, j < 4 → (w.cell? ⟨O, o + j, none⟩).isSome = true) : (putQ w O o x).cell? ⟨O, o + i, none⟩ = x.vals[i]? := by
  unfold putQ
  obtain ⟨v0, h0⟩ := Option.isSome_iff_exists.1 (h 0 (by omega))
  obtain ⟨v1, h1⟩ := Option.isSome_iff_exists.1 (h 1 (by omega))
  obtain ⟨v2, h2⟩ := Option.isSome_iff_exists.1 (h 2 (by omega))
  obtain ⟨v3, h3⟩ := Option.isSome_iff_exists.1 (h 3 (by omega))
  rw [Nat.add_zero] at h0
  match i, hi with
  | 0, _ =>
    rw [Nat.add_zero, World.cell?_setCell_other _ _ _ _ (by simp), World.cell?_setCell_other _ _ _ _ (by simp), World.cell?_setCell_other _ _ _ _ (by simp)]
    exact World.cell?_setCell_same _ _ _ h0
  | 1, _ =>
    rw [World.cell?_setCell_other _ _ _ _ (by simp), World.cell?_setCell_other _ _ _ _ (by simp)]
    exact World.cell?_setCell_same _ _ _ (by rw [World.cell?_setCell_other _ _ _ _ (by simp)]; exact h1)
  | 2, _ =>
    rw [World.cell?_setCell_other _ _ _ _ (by simp)]
    exact World.cell?_setCell_same _ _ _ (by rw [World.cell?_setCell_other _ _ _ _ (by simp), World.cell?_setCell_other _ _ _ _ (by simp)]; exact h2)
  | 3, _ =>
    exact World.cell?_setCell_same _ _ _ (by rw [World.cell?_setCell_other _ _ _ _ (by simp), World.cell?_setCell_other _ _ _ _ (by simp), World.cell?_setCell_other _ _ _ _ (by simp)]; exact h3)
theorem qe_set (es : List QV) (k j : Nat) (x : QV) (hk : k < es.length) : qe (es.set k x) j = if j = k then x else qe es j := by
  unfold qe
  simp only [List.getD_eq_getElem?_getD, List.getElem?_set]
  by_cases h : j = k
  · subst h; simp [hk]
  · rw [if_neg h, if_neg (Ne.symm h)]
theorem own_putQ {w : World} {W O off n cap k : Nat} {es : List QV} (h : Own w W 4 (.slice (some ⟨O, off, none⟩) n cap) (qvals es)) (hl : es.length = n) (hk : k < n) (x : QV) : Own (putQ w O (off + k * 4) x) W 4 (.slice (some ⟨O, off, none⟩) n cap) (qvals (es.set k x)) := by
  obtain ⟨n', hn, h1 | ⟨g, o, c, e, hb, hlt, hnc, hcm, hcc, hxx⟩⟩ := h
  · simp at h1
  · simp only [Value.slice.injEq, Option.some.injEq, Addr.mk.injEq, and_true] at e
    obtain ⟨⟨rfl, rfl⟩, rfl, rfl⟩ := e
    have hsm : ∀ j, j < 4 → (w.cell? ⟨O, off + k * 4 + j, none⟩).isSome = true := fun j hj => by
      rw [Nat.add_assoc]; exact (hcc (k * 4 + j) (by omega)).1
    have key : ∀ j, (putQ w O (off + k * 4) x).cell? ⟨O, off + j, none⟩ = if k * 4 ≤ j ∧ j < k * 4 + 4 then x.vals[j - k * 4]? else w.cell? ⟨O, off + j, none⟩ := fun j => by
      by_cases hj : k * 4 ≤ j ∧ j < k * 4 + 4
      · rw [if_pos hj]
        have := putQ_at w O (off + k * 4) (j - k * 4) x (by omega) hsm
        rw [show off + k * 4 + (j - k * 4) = off + j by omega] at this
        exact this
      · rw [if_neg hj]
        exact putQ_other _ _ _ _ _ (by omega)
    have hv4 : ∀ i, i < 4 → (x.vals[i]?).isSome = true := fun i hi => by
      rw [List.getElem?_eq_getElem (by rw [QV.vals_length]; exact hi)]; rfl
    refine ⟨n, by rw [qvals_length, List.length_set, hl], .inr ⟨O, off, cap, rfl, hb, Nat.lt_of_lt_of_le hlt (grown_putQ w O _ x).size, hnc, hcm, fun j hj => ⟨?_, ?_⟩, fun j hj => ?_⟩⟩
    · rw [key j]
      by_cases h2 : k * 4 ≤ j ∧ j < k * 4 + 4
      · rw [if_pos h2]; exact hv4 _ (by omega)
      · rw [if_neg h2]; exact (hcc j hj).1
    · unfold putQ
      rw [World.frozen?_setCell, World.frozen?_setCell, World.frozen?_setCell, World.frozen?_setCell]
      exact (hcc j hj).2
    · rw [key j]
      have hd : j = j / 4 * 4 + j % 4 := by omega
      have hq := qvals_at (es.set k x) (j / 4) (j % 4) (by rw [List.length_set]; omega) (by omega)
      rw [← hd, qe_set _ _ _ _ (by omega)] at hq
      rw [hq]
      by_cases h2 : k * 4 ≤ j ∧ j < k * 4 + 4
      · rw [if_pos h2, if_pos (by omega)]
        congr 1; omega
      · rw [if_neg h2, if_neg (by omega), hxx j hj]
        have hq2 := qvals_at es (j / 4) (j % 4) (by omega) (by omega)
        rw [← hd] at hq2
        exact hq2
theorem make_qs (n : Nat) (hn : n ≤ 100000) (W : World) : (Instr.makeSlice 58 (.int .i64 n) (.int .i64 n)).run Try.prog W = .ok (.slice (some ⟨W.heap.size, 0, none⟩) n n) (W.alloc (.cells (madeCells (Value.agg #[.bool false, .slice none 0 0, .bool false, .slice none 0 0]).cells (n * 4)) 41)) := by
  obtain ⟨i0, hi, hz0, hz1, hz2⟩ := info_parts info_Q
  have := run_make (P := Try.prog) W 58 41 i0 (.agg #[.bool false, .slice none 0 0, .bool false, .slice none 0 0]) Try.underlying58 hi hz0 .i64 .i64 n n (by omega) (Int.le_refl _) (by rw [hz2]; omega) (by omega)
  rw [hz1] at this
  simpa using this
theorem own_made (n : Nat) (hn : n ≤ 100000) (W : World) : Own (W.alloc (.cells (madeCells (Value.agg #[.bool false, .slice none 0 0, .bool false, .slice none 0 0]).cells (n * 4)) 41)) W.heap.size 4 (.slice (some ⟨W.heap.size, 0, none⟩) n n) (qvals (List.replicate n QV.zero)) := by
  have hc : ∀ j, j < n * 4 → (W.alloc (.cells (madeCells (Value.agg #[.bool false, .slice none 0 0, .bool false, .slice none 0 0]).cells (n * 4)) 41)).cell? ⟨W.heap.size, j, none⟩ = QV.zero.vals[j % 4]? := fun j hj => by
    have h4 : j % 4 < 4 := by omega
    obtain h | h | h | h : j % 4 = 0 ∨ j % 4 = 1 ∨ j % 4 = 2 ∨ j % 4 = 3 := by omega
    all_goals simp [go_sem, madeCells, hj, Value.cells, h, QV.vals, QV.zero]
  refine ⟨n, by rw [qvals_length]; simp, .inr ⟨W.heap.size, 0, n, rfl, Nat.le_refl _, by simp, Nat.le_refl _, by unfold maxLen; omega, fun j hj => ⟨?_, by simp [go_sem]⟩, fun j hj => ?_⟩⟩
  · rw [Nat.zero_add, hc j hj, List.getElem?_eq_getElem (by rw [QV.vals_length]; omega)]; rfl
  · rw [Nat.zero_add, hc j hj]
    have hd : j = j / 4 * 4 + j % 4 := by omega
    have hq := qvals_at (List.replicate n QV.zero) (j / 4) (j % 4) (by simp; omega) (by omega)
    rw [← hd] at hq
    rw [hq]
    have : qe (List.replicate n QV.zero) (j / 4) = QV.zero := by
      unfold qe
      simp only [List.getD_eq_getElem?_getD, List.getElem?_replicate]
      split <;> rfl
    rw [this]
end Go.Proofs.Ytcngecibljgndaa
