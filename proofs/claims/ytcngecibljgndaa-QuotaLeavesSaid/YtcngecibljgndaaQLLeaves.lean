/- QuotaLeaves: the walk. -/
import Derived.Test.YtcngecibljgndaaQPI
import Derived.Test.YtcngecibljgndaaQCA
import Derived.Test.YtcngecibljgndaaBK
import Derived.Test.YtcngecibljgndaaQOpen
import Derived.Test.YtcngecibljgndaaQLGrows
namespace Go.Proofs.Ytcngecibljgndaa
open Go.RowKit Go.Shelf

theorem share_some {rule E : Int} {xs : List Int} {r : List Int × Int} (h : shareP rule E xs = some r) (w : World) (ao : Option Addr) (cap : Nat) (hI : IntsIn w ao xs) (hl : xs.length ≤ 1000000) :
    Calls Try.prog 22 #[.int .i64 rule, .int .i64 E, .slice ao xs.length cap] w fun e w' => ∃ v, e = .returned (.tuple #[.agg #[v, .int .i64 r.2], .int .i64 0]) ∧ Own w' w.heap.size 1 v (ints r.1) ∧ Ext w w' := by
  refine (share_calls w rule E ao cap xs hI hl).mono ?_
  rintro e w' (⟨hn, -, -⟩ | ⟨q, v, hq, rfl, ho, hx⟩)
  · rw [h] at hn; simp at hn
  · rw [h, Option.some.injEq] at hq
    subst hq
    exact ⟨v, rfl, ho, hx⟩

theorem cmpQ_eq0 {a b : Rat} (h : a = b) : cmpQ a b = 0 := by subst h; unfold cmpQ; rw [if_neg (Rat.lt_irrefl), if_neg (Rat.lt_irrefl)]
theorem divInt_same {a b c d : Int} (hb : 0 < b) (hd : 0 < d) (h : a * d = c * b) : Rat.divInt a b = Rat.divInt c d := (Rat.divInt_eq_divInt_iff (by omega) (by omega)).2 h
theorem ints_take_cells {w : World} {b off : Nat} {xs : List Int} (h : IntsIn w (some ⟨b, off, none⟩) xs) (m n : Nat) : ∀ (j : Nat) (u : Value), (ints ((xs.drop m).take n))[j]? = some u → w.cell? (Addr.add ⟨b, off + m, none⟩ j) = some u := by
  intro j u hu
  have hj := (List.getElem?_eq_some_iff.1 hu).1
  rw [ints_length, List.length_take, List.length_drop] at hj
  obtain ⟨b', off', e, _, h0⟩ := h (m + j) (by omega)
  simp only [Option.some.injEq, Addr.mk.injEq, and_true] at e
  obtain ⟨rfl, rfl⟩ := e
  rw [addr_add, Nat.add_assoc, h0, ← hu]
  simp only [ints, List.getElem?_map, List.getElem?_take, List.getElem?_drop, ith]
  rw [if_pos (by omega), List.getElem?_eq_getElem (by omega)]
  simp [show m + j < xs.length by omega]
set_option maxRecDepth 100000 in
set_option maxHeartbeats 4000000 in
theorem quotaLeaves_law (hA : AliveOK) (w : World) (rule E : Int) (ao : Option Addr) (cap : Nat) (xs : List Int) (hI : IntsIn w ao xs) (hcp : xs.length ≤ cap) (who : Int) (hw : 0 ≤ who ∧ who ≤ 255) :
    Calls Try.prog 7 #[.int .i64 rule, .int .i64 E, .slice ao xs.length cap, .int .u8 who] w (TrueRes w) := by
  go_enter Try.func7, Try.ntmps7
  go_wp2_with fail
  refine (few_calls _ ao xs.length cap).mono ?_
  rintro e w2 ⟨rfl, hx2⟩
  cases hd : decide (xs.length ≤ 40) with
  | false =>
    go_wp2_with fail
    refine (hA w _ hx2).mono ?_
    rintro e w9 ⟨rfl, hx9⟩
    go_wp2_with fail
    go_ret
    exact ⟨rfl, hx9⟩
  | true =>
    have hl1 : xs.length ≤ 40 := by simpa using hd
    clear hd
    by_cases hr4 : rule = 4
    · subst hr4
      go_wp2_with fail
      refine (hA w _ hx2).mono ?_
      rintro e w9 ⟨rfl, hx9⟩
      go_wp2_with fail
      go_ret
      exact ⟨rfl, hx9⟩
    · have hrb : (rule == 4) = false := by simp [hr4]
      go_wp2_with fail
      refine (share_calls _ rule E ao cap xs (hI.ext hx2) (by omega)).mono ?_
      rintro e w3 (⟨hn, rfl, hx3⟩ | ⟨q, v, hq, rfl, ho, hx3⟩)
      · clear hn
        have hx03 := hx2.trans hx3
        go_wp2_with fail
        have hx4 : Ext w (w3.alloc (Obj.cells #[.slice none 0 0, .int .i64 0] 26)) := (by repeat (first | exact Ext.refl _ | assumption | refine Ext.alloc ?_ _ | refine Ext.drewN ?_ _ | refine Ext.drew ?_))
        refine (hA w _ hx4).mono ?_
        rintro e w9 ⟨rfl, hx9⟩
        go_wp2_with fail
        go_ret
        exact ⟨rfl, hx9⟩
      · obtain ⟨hP, hS⟩ := share_is hq
        have hx03 := hx2.trans hx3
        obtain ⟨so, sc, rfl, hSI, -⟩ := ho.intsShape
        clear ho
        obtain ⟨l, hl⟩ : ∃ l, l = q.1 := ⟨_, rfl⟩
        obtain ⟨d, hdd⟩ : ∃ d, d = q.2 := ⟨_, rfl⟩
        rw [← hl, ← hdd] at hS
        rw [← hl] at hSI
        rw [← hl, ← hdd]
        have HQ : Hid (shareP rule E xs = some (l, d)) := Lib.hid (by rw [hq, hl, hdd])
        clear hl hdd hq
        have h7 := hP.seven
        have hon := hP.one
        have HU := Lib.hid (is_upto hS hP.claims)
        have hdn := hS.den
        have hE := hP.estate
        have HLL := Lib.hid hS.len
        clear hS hP
        by_cases h2 : xs.length < 2
        · go_wp2_with fail
          have hx4 : Ext w (w3.alloc (Obj.cells #[.slice so l.length sc, .int .i64 d] 26)) := (by repeat (first | exact Ext.refl _ | assumption | refine Ext.alloc ?_ _ | refine Ext.drewN ?_ _ | refine Ext.drew ?_))
          refine (hA w _ hx4).mono ?_
          rintro e w9 ⟨rfl, hx9⟩
          go_wp2_with fail
          go_ret
          exact ⟨rfl, hx9⟩
        · have h2b : decide ((xs.length : Int) < 2) = false := by simp; omega
          go_wp2_with fail
          have hx4 : Ext w3 (w3.alloc (Obj.cells #[.slice so l.length sc, .int .i64 d] 26)) := (by repeat (first | exact Ext.refl _ | assumption | refine Ext.alloc ?_ _ | refine Ext.drewN ?_ _ | refine Ext.drew ?_))
          have hbx := PBox.new w3 26 (.slice so l.length sc) d
          obtain ⟨B, hB⟩ : ∃ B, B = w3.heap.size := ⟨_, rfl⟩
          generalize (w3.alloc (Obj.cells #[.slice so l.length sc, .int .i64 d] 26)) = w4 at *
          rw [← hB] at hbx ⊢
          clear hB
          have hx04 := hx03.trans hx4
          replace hSI := hSI.ext hx4
          refine (shaped_calls _ so sc l d xs.length).mono ?_
          rintro e w5 ⟨rfl, hx5⟩
          have hsh : decide (l.length = xs.length ∧ 0 < d) = true := by have := HLL.out; simp; omega
          rw [hsh]
          clear hsh
          have hx05 := hx04.trans hx5
          replace hSI := hSI.ext hx5
          replace hbx := hbx.ext hx5
          obtain ⟨k, hk⟩ : ∃ k : Nat, who % (xs.length : Int) = (k : Int) := ⟨(who % (xs.length : Int)).toNat, by have := Int.emod_nonneg who (show (xs.length : Int) ≠ 0 by omega); omega⟩
          have hkl : k < xs.length := by have := Int.emod_lt_of_pos who (show (0 : Int) < (xs.length : Int) by omega); omega
          have hk2 : k < l.length := by have := HLL.out; omega
          obtain ⟨b3, o3, rfl, hb3, hc3⟩ := hSI k hk2
          have u1 := HU.out.at_ k hk2
          obtain ⟨q0, q1, q2⟩ := id hbx
          have hk' : who.tmod (xs.length : Int) = (k : Int) := by rw [Int.tmod_eq_emod_of_nonneg hw.1]; exact hk
          have hk0 : (0 : Int) ≤ (k : Int) := by omega
          have hki : (k : Int) < (l.length : Int) := by omega
          have hkx : (k : Int) < (xs.length : Int) := by omega
          obtain ⟨b5, o5, rfl, hb5, -⟩ := hI 0 (by omega)
          cases hmb : (ith l k % d != 0) with
          | true =>
            go_wp2_with fail
            go_region
            go_wp2_with fail
            refine (hA w _ (hx05.trans ((Ext.refl _).drew))).mono ?_
            rintro e w9 ⟨rfl, hx9⟩
            go_wp2_with fail
            go_ret
            exact ⟨rfl, hx9⟩
          | false =>
            have hm : ith l k % d = 0 := by simpa using hmb
            have hs0 : ith l k = ith l k / d * d := by have := Int.mul_ediv_add_emod (ith l k) d; rw [hm, Int.mul_comm] at this; omega
            obtain ⟨s, hs⟩ : ∃ s, ith l k / d = s := ⟨_, rfl⟩
            rw [hs] at hs0
            obtain ⟨r, hr, hst⟩ := share_stays hr4 HQ.out hkl (by omega) hs0
            have hsb : 0 ≤ s ∧ s ≤ 100000000000 := by rw [← hs]; exact ⟨Int.ediv_nonneg u1.1 (by omega), Int.le_trans (Int.ediv_le_self _ u1.1) u1.2⟩
            have HR := Lib.hid hr
            have HST := Lib.hid hst
            clear hr hst hs0 hm
            go_wp2_with fail
            go_region
            have hx6 : Ext w5 w5.drew := (Ext.refl _).drew
            generalize w5.drew = w6 at *
            have hx06 := hx05.trans hx6
            replace hSI := hSI.ext hx6
            replace hbx := hbx.ext hx6
            clear q0 q1 q2 hb3 hc3 hx5 hx4 hx3
            obtain ⟨i0, hi, hz0, hz1, hz2⟩ := info_parts info_int
            have hI6 := hI.ext hx06
            have e0 : ([] : List Value) ++ ints ((xs.drop 0).take k) = ints (xs.take k) := by simp
            by_cases hck : cap = k + 1
            · subst hck
              have hxk : xs.length = k + 1 := by omega
              have hrl : ints (xs.take k) ++ ([] : List Value) = ints (restL xs k) := by unfold restL; rw [← hxk, List.drop_length]; simp
              go_wp2_with (first
                | (at_builtin; refine wpList_append_Own _ rfl _ _ 22 rfl 3 i0 (.int .i64 0) 1 8 Try.underlying22 hi hz0 hz1 hz2 rfl (by omega) w6.heap.size _ (ints (xs.take k)) rfl ho7 hx7.size ⟨b5, o5, none⟩ _ _ [] rfl (by simp) (by intro j u hu; simp at hu) (by simp) (by simp [ints_length]; unfold maxLen; omega) (by simp [ints_length]; omega) ?_; intro v8 w8 ho8 hg8 hb8; have hx8 : Ext w6 w8 := hx7.onto hg8 (fun q hq => (ho7.lt q hq).1); clear hg8 hb8 hx7 ho7; rw [hrl] at ho8; obtain ⟨o8, c8, rfl, hR8, -⟩ := ho8.intsShape)
                | (at_builtin; refine wpList_append_Own _ rfl _ _ 22 rfl 3 i0 (.int .i64 0) 1 8 Try.underlying22 hi hz0 hz1 hz2 rfl (by omega) w6.heap.size _ [] rfl (Own.nil _ _ _) (Nat.le_refl _) ⟨b5, o5, none⟩ k (k + 1) (ints ((xs.drop 0).take k)) rfl (by simp [ints_length]; omega) (ints_take_cells hI6 0 k) (ints_one _) (by simp [ints_length]; unfold maxLen; omega) (by simp [ints_length]; omega) ?_; intro v7 w7 ho7 hg7 hb7; have hx7 : Ext w6 w7 := Ext.ofGrown hg7; clear hg7 hb7; rw [e0] at ho7; obtain ⟨o7, n7, c7, rfl, -⟩ := ho7.shapeCap))
              have hx08 := hx06.trans hx8
              replace hSI := hSI.ext hx8
              replace hbx := hbx.ext hx8
              clear ho8 hrl
              obtain ⟨b6, o6, he6, hb3, hc3⟩ := hSI k hk2
              simp only [Option.some.injEq, Addr.mk.injEq, and_true] at he6
              obtain ⟨rfl, rfl⟩ := he6
              obtain ⟨q0, q1, q2⟩ := id hbx
              obtain ⟨l2, hl2⟩ : ∃ l2, l2 = r.1 := ⟨_, rfl⟩
              obtain ⟨d2, hdd2⟩ : ∃ d2, d2 = r.2 := ⟨_, rfl⟩
              have hrl7 := restL_length hkl
              obtain ⟨hP', hS'⟩ := share_is HR.out
              have hsc := fun W h => share_some HR.out W o8 c8 h (by omega)
              unfold Stay at HST
              rw [← hl2, ← hdd2] at hS'
              simp only [← hl2, ← hdd2] at hsc HST
              have hll2 := hS'.len
              have hdn2 := hS'.den
              have HU2 := Lib.hid (is_upto hS' hP'.claims)
              have HLL2 := Lib.hid hll2
              clear hP' hS' hll2 HR hl2 hdd2
              obtain ⟨M, hM⟩ : ∃ M, (restL xs k).length = M := ⟨_, rfl⟩
              have hRR : ∀ W, Ext w8 W → IntsIn W o8 (restL xs k) := fun W h => hR8.ext h
              have HLM : Hid (l2.length = M) := Lib.hid (by rw [HLL2.out, hM])
              simp only [hM] at hsc HST ⊢
              have hMk : M + 1 = xs.length := by omega
              clear HLL2 hrl7 hM hR8
              have hdne : ¬ d = 0 := by omega
              have hdnb : (d == 0) = false := by simp; omega
              have ht1 : (ith l k).tdiv d = s := by rw [Int.tdiv_eq_ediv_of_nonneg u1.1]; exact hs
              have hw1 : IntKind.i64.wrap s = s := by rw [IntKind.wrap_i64]; omega
              have hw2 : IntKind.i64.wrap (E - s) = E - s := by rw [IntKind.wrap_i64]; omega
              go_wp2_with fail
              go_region_held3 (fun w' => (w'.cell? ⟨B, 0, none⟩ = some (.slice (some ⟨b3, o3, none⟩) l.length sc)) ∧ (w'.cell? ⟨B, 1, none⟩ = some (.int .i64 d)) ∧ (w'.cell? ⟨b3, o3 + k, none⟩ = some (.int .i64 (ith l k))))
                (exact p3 q0 q1 hc3 q2 hb3 (by repeat (first | exact Ext.refl _ | with_reducible assumption | refine Ext.alloc ?_ _ | refine Ext.drew ?_ | (refine Ext.setOwn ?_ _ _ (by first | exact Nat.le_refl _ | exact hxk1.size)))))
                ((first
                  | (go_at_call 22; refine (hsc _ (hRR _ (by repeat (first | exact Ext.refl _ | with_reducible assumption | refine Ext.alloc ?_ _ | refine Ext.drew ?_ | (refine Ext.setOwn ?_ _ _ (by first | exact Nat.le_refl _ | exact hxk1.size)))))).mono ?_; rintro e v1 ⟨v, rfl, ho9, hx11⟩; have hxk1 : Ext w8 v1 := Ext.trans (by repeat (first | exact Ext.refl _ | with_reducible assumption | refine Ext.alloc ?_ _ | refine Ext.drew ?_ | (refine Ext.setOwn ?_ _ _ (by first | exact Nat.le_refl _ | exact hxk1.size)))) hx11; obtain ⟨so2, sc2, rfl, hSI2, hlow⟩ := ho9.intsShape; clear ho9; (first | (have hsp := ((Spot.new w8 26 (.slice none 0 0) (.int .i64 0)).ext ((Ext.refl _).drew)).ext hx11; obtain ⟨c0, hc0⟩ := Option.isSome_iff_exists.1 hsp.some0; obtain ⟨c1, hc1⟩ := Option.isSome_iff_exists.1 hsp.some1; have hf0 := hsp.free0; have hf1 := hsp.free1; have hspl := hsp.lt) | (have hsp := (Spot.new w8.drew 26 (.slice none 0 0) (.int .i64 0)).ext hx11; obtain ⟨c0, hc0⟩ := Option.isSome_iff_exists.1 hsp.some0; obtain ⟨c1, hc1⟩ := Option.isSome_iff_exists.1 hsp.some1; have hf0 := hsp.free0; have hf1 := hsp.free1; have hspl := hsp.lt) | skip))))
              · have hbx2 := PBox.new v1 26 (.slice so2 l2.length sc2) d2
                have hx10 : Ext v1 (v1.alloc (Obj.cells #[.slice so2 l2.length sc2, .int .i64 d2] 26)) := (Ext.refl _).alloc _
                obtain ⟨C, hC⟩ : ∃ C, C = v1.heap.size := ⟨_, rfl⟩
                generalize (v1.alloc (Obj.cells #[.slice so2 l2.length sc2, .int .i64 d2] 26)) = w10 at *
                rw [← hC] at hbx2 ⊢
                replace hSI2 := hSI2.ext hx10
                replace hx10 := hxk1.trans hx10
                clear hC hlow hx11 hxk1
                have hx010 := hx08.trans hx10
                replace hSI := hSI.ext hx10
                replace hbx := hbx.ext hx10
                clear q0 q1 q2 hb3 hc3
                obtain ⟨r0, r1, r2⟩ := id hbx2
                go_wp2_with fail
                refine (shaped_calls _ so2 sc2 l2 d2 M).mono ?_
                rintro e w11 ⟨rfl, hx11⟩
                have hsh : decide (l2.length = M ∧ 0 < d2) = true := by have := HLM.out; simp; omega
                rw [hsh]
                clear hsh
                have hx011 := hx010.trans hx11
                replace hSI := hSI.ext hx11
                replace hbx := hbx.ext hx11
                replace hSI2 := hSI2.ext hx11
                replace hbx2 := hbx2.ext hx11
                clear r0 r1 r2
                go_wp2_with fail
                go_loopw [15] (fun i wr => ∃ j : Nat, j ≤ M ∧ i = .int .i64 j ∧ Ext w11 wr) (fun i _ => M - (intOf i).toNat)
                case atStart => exact ⟨0, by omega, rfl, Ext.refl _⟩
                case round =>
                  rename World => wr
                  obtain ⟨j, hj, rfl, hx⟩ := hrel
                  by_cases hlt : j < M
                  · have hb1 := hbx.ext hx
                    have hb2 := hbx2.ext hx
                    have hst := HST.out j hlt
                    by_cases hkj : k ≤ j
                    · rw [if_pos hkj] at hst
                      obtain ⟨J, hJ⟩ : ∃ J, j + 1 = J := ⟨_, rfl⟩
                      rw [hJ] at hst
                      have hJi : (j : Int) + 1 = (J : Int) := by omega
                      have hkj2 : decide ((k : Int) ≤ (j : Int)) = true := by simp; omega
                      have hJl : J < l.length := by have := HLL.out; omega
                      clear hJ
                      have hk1 : j < l2.length := by have := HLM.out; omega
                      have u1 := HU.out.at_ J hJl
                      have u2 := HU2.out.at_ j hk1
                      have hc0 : cmpQ (Rat.divInt (ith l2 j) d2) (Rat.divInt (ith l J) d) = 0 := cmpQ_eq0 (divInt_same (by omega) (by omega) hst)
                      obtain ⟨q0, q1, q2⟩ := id hb1
                      obtain ⟨r0, r1, r2⟩ := id hb2
                      go_wp2_with fail
                      go_region_held3 (fun w' => (w'.cell? ⟨B, 0, none⟩ = some (.slice (some ⟨b3, o3, none⟩) l.length sc)) ∧ (w'.cell? ⟨B, 1, none⟩ = some (.int .i64 d)) ∧ (w'.cell? ⟨C, 0, none⟩ = some (.slice so2 l2.length sc2)) ∧ (w'.cell? ⟨C, 1, none⟩ = some (.int .i64 d2)))
                        (first | with_reducible exact p4 hb1 hb2 hxk3 | with_reducible exact p4 hb1 hb2 hxk2 | with_reducible exact p4 hb1 hb2 hxk1 | with_reducible exact p4 hb1 hb2 ((Ext.refl _).drew))
                        ((first
                          | (go_at_call 28; refine (cmp_calls _ nb1 mb1 nb2 mb2 zo1 yo1 zo2 yo2 A1 zc1 B1 yc1 A2 zc2 B2 yc2 _ _ (hR1.ext hx12) hR2 (fine_small (by omega) (by omega) (by omega)) (fine_small (by omega) (by omega) (by omega))).mono ?_; rintro e v3 ⟨rfl, hx13⟩; have hxk3 : Ext wr v3 := hxk2.trans hx13; rw [hc0])
                          | (go_at_call 29; refine (part_calls _ (some ⟨b3, o3, none⟩) sc l d J l.length ((hSI.ext hx).ext hxk1) rfl hJl (by omega) (by omega)).mono ?_; rintro e v2 ⟨nb2, zo2, A2, zc2, mb2, yo2, B2, yc2, rfl, hR2, hbk2, hbm2, hx12⟩; have hxk2 : Ext wr v2 := hxk1.trans hx12)
                          | (go_at_call 29; refine (part_calls _ so2 sc2 l2 d2 j l2.length ((hSI2.ext hx).ext ((Ext.refl _).drew)) rfl hk1 (by omega) (by omega)).mono ?_; rintro e v1 ⟨nb1, zo1, A1, zc1, mb1, yo1, B1, yc1, rfl, hR1, hbk1, hbm1, hx11⟩; have hxk1 : Ext wr v1 := Ext.trans ((Ext.refl _).drew) hx11)))
                      go_wp2_with fail
                      exact ⟨⟨j + 1, by omega, (by first | rfl | exact congrArg (Value.int .i64) (by omega)), hx.trans hxk3⟩, by simp only [intOf]; omega⟩
                    · rw [if_neg hkj] at hst
                      have hkj2 : decide ((k : Int) ≤ (j : Int)) = false := by simp; omega
                      have hJl : j < l.length := by have := HLL.out; omega
                      have hk1 : j < l2.length := by have := HLM.out; omega
                      have u1 := HU.out.at_ j hJl
                      have u2 := HU2.out.at_ j hk1
                      have hc0 : cmpQ (Rat.divInt (ith l2 j) d2) (Rat.divInt (ith l j) d) = 0 := cmpQ_eq0 (divInt_same (by omega) (by omega) hst)
                      obtain ⟨q0, q1, q2⟩ := id hb1
                      obtain ⟨r0, r1, r2⟩ := id hb2
                      go_wp2_with fail
                      go_region_held3 (fun w' => (w'.cell? ⟨B, 0, none⟩ = some (.slice (some ⟨b3, o3, none⟩) l.length sc)) ∧ (w'.cell? ⟨B, 1, none⟩ = some (.int .i64 d)) ∧ (w'.cell? ⟨C, 0, none⟩ = some (.slice so2 l2.length sc2)) ∧ (w'.cell? ⟨C, 1, none⟩ = some (.int .i64 d2)))
                        (first | with_reducible exact p4 hb1 hb2 hxk3 | with_reducible exact p4 hb1 hb2 hxk2 | with_reducible exact p4 hb1 hb2 hxk1 | with_reducible exact p4 hb1 hb2 ((Ext.refl _).drew))
                        ((first
                          | (go_at_call 28; refine (cmp_calls _ nb1 mb1 nb2 mb2 zo1 yo1 zo2 yo2 A1 zc1 B1 yc1 A2 zc2 B2 yc2 _ _ (hR1.ext hx12) hR2 (fine_small (by omega) (by omega) (by omega)) (fine_small (by omega) (by omega) (by omega))).mono ?_; rintro e v3 ⟨rfl, hx13⟩; have hxk3 : Ext wr v3 := hxk2.trans hx13; rw [hc0])
                          | (go_at_call 29; refine (part_calls _ (some ⟨b3, o3, none⟩) sc l d j l.length ((hSI.ext hx).ext hxk1) rfl hJl (by omega) (by omega)).mono ?_; rintro e v2 ⟨nb2, zo2, A2, zc2, mb2, yo2, B2, yc2, rfl, hR2, hbk2, hbm2, hx12⟩; have hxk2 : Ext wr v2 := hxk1.trans hx12)
                          | (go_at_call 29; refine (part_calls _ so2 sc2 l2 d2 j l2.length ((hSI2.ext hx).ext ((Ext.refl _).drew)) rfl hk1 (by omega) (by omega)).mono ?_; rintro e v1 ⟨nb1, zo1, A1, zc1, mb1, yo1, B1, yc1, rfl, hR1, hbk1, hbm1, hx11⟩; have hxk1 : Ext wr v1 := Ext.trans ((Ext.refl _).drew) hx11)))
                      go_wp2_with fail
                      exact ⟨⟨j + 1, by omega, (by first | rfl | exact congrArg (Value.int .i64) (by omega)), hx.trans hxk3⟩, by simp only [intOf]; omega⟩
                  · obtain rfl : j = M := by omega
                    have hx0r := hx011.trans hx
                    go_wp2_with fail
                    refine (hA w _ hx0r).mono ?_
                    rintro e w9 ⟨rfl, hx9⟩
                    go_wp2_with fail
                    go_ret
                    exact ⟨rfl, hx9⟩
              · obtain ⟨z0, z1⟩ := hsp.put (.slice so2 l2.length sc2) (.int .i64 d2)
                have hlow2 : ∀ a, so2 = some a → w8.heap.size + 1 ≤ a.block := fun a ha => by have := (hlow a ha).1; simp at this; omega
                clear hlow
                have hx10 : Ext w8 ((v1.setCell ⟨w8.heap.size, 0, none⟩ (.slice so2 l2.length sc2)).setCell ⟨w8.heap.size, 1, none⟩ (.int .i64 d2)) := (hxk1.setOwn _ _ (Nat.le_refl _)).setOwn _ _ (Nat.le_refl _)
                have hbx2 : PBox ((v1.setCell ⟨w8.heap.size, 0, none⟩ (.slice so2 l2.length sc2)).setCell ⟨w8.heap.size, 1, none⟩ (.int .i64 d2)) w8.heap.size (.slice so2 l2.length sc2) d2 := ⟨z0, z1, by simpa [World.setCell] using hspl⟩
                replace hSI2 := (hSI2.grown (grownBy_setCell _ ⟨w8.heap.size, 0, none⟩ (.slice so2 l2.length sc2)) (fun a ha e => by have := hlow2 a ha; simp only [Option.some.injEq] at e; omega)).grown (grownBy_setCell _ ⟨w8.heap.size, 1, none⟩ (.int .i64 d2)) (fun a ha e => by have := hlow2 a ha; simp only [Option.some.injEq] at e; omega)
                clear z0 z1 hsp hc0 hc1 hf0 hf1 hx11 hxk1 hlow2
                obtain ⟨C, hC⟩ : ∃ C, C = w8.heap.size := ⟨_, rfl⟩
                generalize ((v1.setCell ⟨w8.heap.size, 0, none⟩ (.slice so2 l2.length sc2)).setCell ⟨w8.heap.size, 1, none⟩ (.int .i64 d2)) = w10 at *
                rw [← hC] at hbx2 ⊢
                clear hC hspl
                have hx010 := hx08.trans hx10
                replace hSI := hSI.ext hx10
                replace hbx := hbx.ext hx10
                clear q0 q1 q2 hb3 hc3
                obtain ⟨r0, r1, r2⟩ := id hbx2
                go_wp2_with fail
                refine (shaped_calls _ so2 sc2 l2 d2 M).mono ?_
                rintro e w11 ⟨rfl, hx11⟩
                have hsh : decide (l2.length = M ∧ 0 < d2) = true := by have := HLM.out; simp; omega
                rw [hsh]
                clear hsh
                have hx011 := hx010.trans hx11
                replace hSI := hSI.ext hx11
                replace hbx := hbx.ext hx11
                replace hSI2 := hSI2.ext hx11
                replace hbx2 := hbx2.ext hx11
                clear r0 r1 r2
                go_wp2_with fail
                go_loopw [15] (fun i wr => ∃ j : Nat, j ≤ M ∧ i = .int .i64 j ∧ Ext w11 wr) (fun i _ => M - (intOf i).toNat)
                case atStart => exact ⟨0, by omega, rfl, Ext.refl _⟩
                case round =>
                  rename World => wr
                  obtain ⟨j, hj, rfl, hx⟩ := hrel
                  by_cases hlt : j < M
                  · have hb1 := hbx.ext hx
                    have hb2 := hbx2.ext hx
                    have hst := HST.out j hlt
                    by_cases hkj : k ≤ j
                    · rw [if_pos hkj] at hst
                      obtain ⟨J, hJ⟩ : ∃ J, j + 1 = J := ⟨_, rfl⟩
                      rw [hJ] at hst
                      have hJi : (j : Int) + 1 = (J : Int) := by omega
                      have hkj2 : decide ((k : Int) ≤ (j : Int)) = true := by simp; omega
                      have hJl : J < l.length := by have := HLL.out; omega
                      clear hJ
                      have hk1 : j < l2.length := by have := HLM.out; omega
                      have u1 := HU.out.at_ J hJl
                      have u2 := HU2.out.at_ j hk1
                      have hc0 : cmpQ (Rat.divInt (ith l2 j) d2) (Rat.divInt (ith l J) d) = 0 := cmpQ_eq0 (divInt_same (by omega) (by omega) hst)
                      obtain ⟨q0, q1, q2⟩ := id hb1
                      obtain ⟨r0, r1, r2⟩ := id hb2
                      go_wp2_with fail
                      go_region_held3 (fun w' => (w'.cell? ⟨B, 0, none⟩ = some (.slice (some ⟨b3, o3, none⟩) l.length sc)) ∧ (w'.cell? ⟨B, 1, none⟩ = some (.int .i64 d)) ∧ (w'.cell? ⟨C, 0, none⟩ = some (.slice so2 l2.length sc2)) ∧ (w'.cell? ⟨C, 1, none⟩ = some (.int .i64 d2)))
                        (first | with_reducible exact p4 hb1 hb2 hxk3 | with_reducible exact p4 hb1 hb2 hxk2 | with_reducible exact p4 hb1 hb2 hxk1 | with_reducible exact p4 hb1 hb2 ((Ext.refl _).drew))
                        ((first
                          | (go_at_call 28; refine (cmp_calls _ nb1 mb1 nb2 mb2 zo1 yo1 zo2 yo2 A1 zc1 B1 yc1 A2 zc2 B2 yc2 _ _ (hR1.ext hx12) hR2 (fine_small (by omega) (by omega) (by omega)) (fine_small (by omega) (by omega) (by omega))).mono ?_; rintro e v3 ⟨rfl, hx13⟩; have hxk3 : Ext wr v3 := hxk2.trans hx13; rw [hc0])
                          | (go_at_call 29; refine (part_calls _ (some ⟨b3, o3, none⟩) sc l d J l.length ((hSI.ext hx).ext hxk1) rfl hJl (by omega) (by omega)).mono ?_; rintro e v2 ⟨nb2, zo2, A2, zc2, mb2, yo2, B2, yc2, rfl, hR2, hbk2, hbm2, hx12⟩; have hxk2 : Ext wr v2 := hxk1.trans hx12)
                          | (go_at_call 29; refine (part_calls _ so2 sc2 l2 d2 j l2.length ((hSI2.ext hx).ext ((Ext.refl _).drew)) rfl hk1 (by omega) (by omega)).mono ?_; rintro e v1 ⟨nb1, zo1, A1, zc1, mb1, yo1, B1, yc1, rfl, hR1, hbk1, hbm1, hx11⟩; have hxk1 : Ext wr v1 := Ext.trans ((Ext.refl _).drew) hx11)))
                      go_wp2_with fail
                      exact ⟨⟨j + 1, by omega, (by first | rfl | exact congrArg (Value.int .i64) (by omega)), hx.trans hxk3⟩, by simp only [intOf]; omega⟩
                    · rw [if_neg hkj] at hst
                      have hkj2 : decide ((k : Int) ≤ (j : Int)) = false := by simp; omega
                      have hJl : j < l.length := by have := HLL.out; omega
                      have hk1 : j < l2.length := by have := HLM.out; omega
                      have u1 := HU.out.at_ j hJl
                      have u2 := HU2.out.at_ j hk1
                      have hc0 : cmpQ (Rat.divInt (ith l2 j) d2) (Rat.divInt (ith l j) d) = 0 := cmpQ_eq0 (divInt_same (by omega) (by omega) hst)
                      obtain ⟨q0, q1, q2⟩ := id hb1
                      obtain ⟨r0, r1, r2⟩ := id hb2
                      go_wp2_with fail
                      go_region_held3 (fun w' => (w'.cell? ⟨B, 0, none⟩ = some (.slice (some ⟨b3, o3, none⟩) l.length sc)) ∧ (w'.cell? ⟨B, 1, none⟩ = some (.int .i64 d)) ∧ (w'.cell? ⟨C, 0, none⟩ = some (.slice so2 l2.length sc2)) ∧ (w'.cell? ⟨C, 1, none⟩ = some (.int .i64 d2)))
                        (first | with_reducible exact p4 hb1 hb2 hxk3 | with_reducible exact p4 hb1 hb2 hxk2 | with_reducible exact p4 hb1 hb2 hxk1 | with_reducible exact p4 hb1 hb2 ((Ext.refl _).drew))
                        ((first
                          | (go_at_call 28; refine (cmp_calls _ nb1 mb1 nb2 mb2 zo1 yo1 zo2 yo2 A1 zc1 B1 yc1 A2 zc2 B2 yc2 _ _ (hR1.ext hx12) hR2 (fine_small (by omega) (by omega) (by omega)) (fine_small (by omega) (by omega) (by omega))).mono ?_; rintro e v3 ⟨rfl, hx13⟩; have hxk3 : Ext wr v3 := hxk2.trans hx13; rw [hc0])
                          | (go_at_call 29; refine (part_calls _ (some ⟨b3, o3, none⟩) sc l d j l.length ((hSI.ext hx).ext hxk1) rfl hJl (by omega) (by omega)).mono ?_; rintro e v2 ⟨nb2, zo2, A2, zc2, mb2, yo2, B2, yc2, rfl, hR2, hbk2, hbm2, hx12⟩; have hxk2 : Ext wr v2 := hxk1.trans hx12)
                          | (go_at_call 29; refine (part_calls _ so2 sc2 l2 d2 j l2.length ((hSI2.ext hx).ext ((Ext.refl _).drew)) rfl hk1 (by omega) (by omega)).mono ?_; rintro e v1 ⟨nb1, zo1, A1, zc1, mb1, yo1, B1, yc1, rfl, hR1, hbk1, hbm1, hx11⟩; have hxk1 : Ext wr v1 := Ext.trans ((Ext.refl _).drew) hx11)))
                      go_wp2_with fail
                      exact ⟨⟨j + 1, by omega, (by first | rfl | exact congrArg (Value.int .i64) (by omega)), hx.trans hxk3⟩, by simp only [intOf]; omega⟩
                  · obtain rfl : j = M := by omega
                    have hx0r := hx011.trans hx
                    go_wp2_with fail
                    refine (hA w _ hx0r).mono ?_
                    rintro e w9 ⟨rfl, hx9⟩
                    go_wp2_with fail
                    go_ret
                    exact ⟨rfl, hx9⟩
            · have hrl : ints (xs.take k) ++ ints ((xs.drop (k + 1)).take (xs.length - (k + 1))) = ints (restL xs k) := by
                have e9 : (xs.drop (k + 1)).take (xs.length - (k + 1)) = xs.drop (k + 1) := List.take_of_length_le (by simp)
                rw [e9, ints, ints, ← List.map_append]; rfl
              go_wp2_with (first
                | (at_builtin; refine wpList_append_Own _ rfl _ _ 22 rfl 3 i0 (.int .i64 0) 1 8 Try.underlying22 hi hz0 hz1 hz2 rfl (by omega) w6.heap.size _ (ints (xs.take k)) rfl ho7 hx7.size ⟨b5, o5 + (k + 1), none⟩ (xs.length - (k + 1)) _ (ints ((xs.drop (k + 1)).take (xs.length - (k + 1)))) rfl (by simp [ints_length]) (ints_take_cells (hI6.ext hx7) (k + 1) _) (ints_one _) (by simp [ints_length]; unfold maxLen; omega) (by simp [ints_length]; omega) ?_; intro v8 w8 ho8 hg8 hb8; have hx8 : Ext w6 w8 := hx7.onto hg8 (fun q hq => (ho7.lt q hq).1); clear hg8 hb8 hx7 ho7; rw [hrl] at ho8; obtain ⟨o8, c8, rfl, hR8, -⟩ := ho8.intsShape)
                | (at_builtin; refine wpList_append_Own _ rfl _ _ 22 rfl 3 i0 (.int .i64 0) 1 8 Try.underlying22 hi hz0 hz1 hz2 rfl (by omega) w6.heap.size _ [] rfl (Own.nil _ _ _) (Nat.le_refl _) ⟨b5, o5, none⟩ k cap (ints ((xs.drop 0).take k)) rfl (by simp [ints_length]; omega) (ints_take_cells hI6 0 k) (ints_one _) (by simp [ints_length]; unfold maxLen; omega) (by simp [ints_length]; omega) ?_; intro v7 w7 ho7 hg7 hb7; have hx7 : Ext w6 w7 := Ext.ofGrown hg7; clear hg7 hb7; rw [e0] at ho7; obtain ⟨o7, n7, c7, rfl, -⟩ := ho7.shapeCap))
              have hx08 := hx06.trans hx8
              replace hSI := hSI.ext hx8
              replace hbx := hbx.ext hx8
              clear ho8 hrl
              obtain ⟨b6, o6, he6, hb3, hc3⟩ := hSI k hk2
              simp only [Option.some.injEq, Addr.mk.injEq, and_true] at he6
              obtain ⟨rfl, rfl⟩ := he6
              obtain ⟨q0, q1, q2⟩ := id hbx
              obtain ⟨l2, hl2⟩ : ∃ l2, l2 = r.1 := ⟨_, rfl⟩
              obtain ⟨d2, hdd2⟩ : ∃ d2, d2 = r.2 := ⟨_, rfl⟩
              have hrl7 := restL_length hkl
              obtain ⟨hP', hS'⟩ := share_is HR.out
              have hsc := fun W h => share_some HR.out W o8 c8 h (by omega)
              unfold Stay at HST
              rw [← hl2, ← hdd2] at hS'
              simp only [← hl2, ← hdd2] at hsc HST
              have hll2 := hS'.len
              have hdn2 := hS'.den
              have HU2 := Lib.hid (is_upto hS' hP'.claims)
              have HLL2 := Lib.hid hll2
              clear hP' hS' hll2 HR hl2 hdd2
              obtain ⟨M, hM⟩ : ∃ M, (restL xs k).length = M := ⟨_, rfl⟩
              have hRR : ∀ W, Ext w8 W → IntsIn W o8 (restL xs k) := fun W h => hR8.ext h
              have HLM : Hid (l2.length = M) := Lib.hid (by rw [HLL2.out, hM])
              simp only [hM] at hsc HST ⊢
              have hMk : M + 1 = xs.length := by omega
              clear HLL2 hrl7 hM hR8
              have hdne : ¬ d = 0 := by omega
              have hdnb : (d == 0) = false := by simp; omega
              have ht1 : (ith l k).tdiv d = s := by rw [Int.tdiv_eq_ediv_of_nonneg u1.1]; exact hs
              have hw1 : IntKind.i64.wrap s = s := by rw [IntKind.wrap_i64]; omega
              have hw2 : IntKind.i64.wrap (E - s) = E - s := by rw [IntKind.wrap_i64]; omega
              go_wp2_with fail
              go_region_held3 (fun w' => (w'.cell? ⟨B, 0, none⟩ = some (.slice (some ⟨b3, o3, none⟩) l.length sc)) ∧ (w'.cell? ⟨B, 1, none⟩ = some (.int .i64 d)) ∧ (w'.cell? ⟨b3, o3 + k, none⟩ = some (.int .i64 (ith l k))))
                (exact p3 q0 q1 hc3 q2 hb3 (by repeat (first | exact Ext.refl _ | with_reducible assumption | refine Ext.alloc ?_ _ | refine Ext.drew ?_ | (refine Ext.setOwn ?_ _ _ (by first | exact Nat.le_refl _ | exact hxk1.size)))))
                ((first
                  | (go_at_call 22; refine (hsc _ (hRR _ (by repeat (first | exact Ext.refl _ | with_reducible assumption | refine Ext.alloc ?_ _ | refine Ext.drew ?_ | (refine Ext.setOwn ?_ _ _ (by first | exact Nat.le_refl _ | exact hxk1.size)))))).mono ?_; rintro e v1 ⟨v, rfl, ho9, hx11⟩; have hxk1 : Ext w8 v1 := Ext.trans (by repeat (first | exact Ext.refl _ | with_reducible assumption | refine Ext.alloc ?_ _ | refine Ext.drew ?_ | (refine Ext.setOwn ?_ _ _ (by first | exact Nat.le_refl _ | exact hxk1.size)))) hx11; obtain ⟨so2, sc2, rfl, hSI2, hlow⟩ := ho9.intsShape; clear ho9; (first | (have hsp := ((Spot.new w8 26 (.slice none 0 0) (.int .i64 0)).ext ((Ext.refl _).drew)).ext hx11; obtain ⟨c0, hc0⟩ := Option.isSome_iff_exists.1 hsp.some0; obtain ⟨c1, hc1⟩ := Option.isSome_iff_exists.1 hsp.some1; have hf0 := hsp.free0; have hf1 := hsp.free1; have hspl := hsp.lt) | (have hsp := (Spot.new w8.drew 26 (.slice none 0 0) (.int .i64 0)).ext hx11; obtain ⟨c0, hc0⟩ := Option.isSome_iff_exists.1 hsp.some0; obtain ⟨c1, hc1⟩ := Option.isSome_iff_exists.1 hsp.some1; have hf0 := hsp.free0; have hf1 := hsp.free1; have hspl := hsp.lt) | skip))))
              · have hbx2 := PBox.new v1 26 (.slice so2 l2.length sc2) d2
                have hx10 : Ext v1 (v1.alloc (Obj.cells #[.slice so2 l2.length sc2, .int .i64 d2] 26)) := (Ext.refl _).alloc _
                obtain ⟨C, hC⟩ : ∃ C, C = v1.heap.size := ⟨_, rfl⟩
                generalize (v1.alloc (Obj.cells #[.slice so2 l2.length sc2, .int .i64 d2] 26)) = w10 at *
                rw [← hC] at hbx2 ⊢
                replace hSI2 := hSI2.ext hx10
                replace hx10 := hxk1.trans hx10
                clear hC hlow hx11 hxk1
                have hx010 := hx08.trans hx10
                replace hSI := hSI.ext hx10
                replace hbx := hbx.ext hx10
                clear q0 q1 q2 hb3 hc3
                obtain ⟨r0, r1, r2⟩ := id hbx2
                go_wp2_with fail
                refine (shaped_calls _ so2 sc2 l2 d2 M).mono ?_
                rintro e w11 ⟨rfl, hx11⟩
                have hsh : decide (l2.length = M ∧ 0 < d2) = true := by have := HLM.out; simp; omega
                rw [hsh]
                clear hsh
                have hx011 := hx010.trans hx11
                replace hSI := hSI.ext hx11
                replace hbx := hbx.ext hx11
                replace hSI2 := hSI2.ext hx11
                replace hbx2 := hbx2.ext hx11
                clear r0 r1 r2
                go_wp2_with fail
                go_loopw [15] (fun i wr => ∃ j : Nat, j ≤ M ∧ i = .int .i64 j ∧ Ext w11 wr) (fun i _ => M - (intOf i).toNat)
                case atStart => exact ⟨0, by omega, rfl, Ext.refl _⟩
                case round =>
                  rename World => wr
                  obtain ⟨j, hj, rfl, hx⟩ := hrel
                  by_cases hlt : j < M
                  · have hb1 := hbx.ext hx
                    have hb2 := hbx2.ext hx
                    have hst := HST.out j hlt
                    by_cases hkj : k ≤ j
                    · rw [if_pos hkj] at hst
                      obtain ⟨J, hJ⟩ : ∃ J, j + 1 = J := ⟨_, rfl⟩
                      rw [hJ] at hst
                      have hJi : (j : Int) + 1 = (J : Int) := by omega
                      have hkj2 : decide ((k : Int) ≤ (j : Int)) = true := by simp; omega
                      have hJl : J < l.length := by have := HLL.out; omega
                      clear hJ
                      have hk1 : j < l2.length := by have := HLM.out; omega
                      have u1 := HU.out.at_ J hJl
                      have u2 := HU2.out.at_ j hk1
                      have hc0 : cmpQ (Rat.divInt (ith l2 j) d2) (Rat.divInt (ith l J) d) = 0 := cmpQ_eq0 (divInt_same (by omega) (by omega) hst)
                      obtain ⟨q0, q1, q2⟩ := id hb1
                      obtain ⟨r0, r1, r2⟩ := id hb2
                      go_wp2_with fail
                      go_region_held3 (fun w' => (w'.cell? ⟨B, 0, none⟩ = some (.slice (some ⟨b3, o3, none⟩) l.length sc)) ∧ (w'.cell? ⟨B, 1, none⟩ = some (.int .i64 d)) ∧ (w'.cell? ⟨C, 0, none⟩ = some (.slice so2 l2.length sc2)) ∧ (w'.cell? ⟨C, 1, none⟩ = some (.int .i64 d2)))
                        (first | with_reducible exact p4 hb1 hb2 hxk3 | with_reducible exact p4 hb1 hb2 hxk2 | with_reducible exact p4 hb1 hb2 hxk1 | with_reducible exact p4 hb1 hb2 ((Ext.refl _).drew))
                        ((first
                          | (go_at_call 28; refine (cmp_calls _ nb1 mb1 nb2 mb2 zo1 yo1 zo2 yo2 A1 zc1 B1 yc1 A2 zc2 B2 yc2 _ _ (hR1.ext hx12) hR2 (fine_small (by omega) (by omega) (by omega)) (fine_small (by omega) (by omega) (by omega))).mono ?_; rintro e v3 ⟨rfl, hx13⟩; have hxk3 : Ext wr v3 := hxk2.trans hx13; rw [hc0])
                          | (go_at_call 29; refine (part_calls _ (some ⟨b3, o3, none⟩) sc l d J l.length ((hSI.ext hx).ext hxk1) rfl hJl (by omega) (by omega)).mono ?_; rintro e v2 ⟨nb2, zo2, A2, zc2, mb2, yo2, B2, yc2, rfl, hR2, hbk2, hbm2, hx12⟩; have hxk2 : Ext wr v2 := hxk1.trans hx12)
                          | (go_at_call 29; refine (part_calls _ so2 sc2 l2 d2 j l2.length ((hSI2.ext hx).ext ((Ext.refl _).drew)) rfl hk1 (by omega) (by omega)).mono ?_; rintro e v1 ⟨nb1, zo1, A1, zc1, mb1, yo1, B1, yc1, rfl, hR1, hbk1, hbm1, hx11⟩; have hxk1 : Ext wr v1 := Ext.trans ((Ext.refl _).drew) hx11)))
                      go_wp2_with fail
                      exact ⟨⟨j + 1, by omega, (by first | rfl | exact congrArg (Value.int .i64) (by omega)), hx.trans hxk3⟩, by simp only [intOf]; omega⟩
                    · rw [if_neg hkj] at hst
                      have hkj2 : decide ((k : Int) ≤ (j : Int)) = false := by simp; omega
                      have hJl : j < l.length := by have := HLL.out; omega
                      have hk1 : j < l2.length := by have := HLM.out; omega
                      have u1 := HU.out.at_ j hJl
                      have u2 := HU2.out.at_ j hk1
                      have hc0 : cmpQ (Rat.divInt (ith l2 j) d2) (Rat.divInt (ith l j) d) = 0 := cmpQ_eq0 (divInt_same (by omega) (by omega) hst)
                      obtain ⟨q0, q1, q2⟩ := id hb1
                      obtain ⟨r0, r1, r2⟩ := id hb2
                      go_wp2_with fail
                      go_region_held3 (fun w' => (w'.cell? ⟨B, 0, none⟩ = some (.slice (some ⟨b3, o3, none⟩) l.length sc)) ∧ (w'.cell? ⟨B, 1, none⟩ = some (.int .i64 d)) ∧ (w'.cell? ⟨C, 0, none⟩ = some (.slice so2 l2.length sc2)) ∧ (w'.cell? ⟨C, 1, none⟩ = some (.int .i64 d2)))
                        (first | with_reducible exact p4 hb1 hb2 hxk3 | with_reducible exact p4 hb1 hb2 hxk2 | with_reducible exact p4 hb1 hb2 hxk1 | with_reducible exact p4 hb1 hb2 ((Ext.refl _).drew))
                        ((first
                          | (go_at_call 28; refine (cmp_calls _ nb1 mb1 nb2 mb2 zo1 yo1 zo2 yo2 A1 zc1 B1 yc1 A2 zc2 B2 yc2 _ _ (hR1.ext hx12) hR2 (fine_small (by omega) (by omega) (by omega)) (fine_small (by omega) (by omega) (by omega))).mono ?_; rintro e v3 ⟨rfl, hx13⟩; have hxk3 : Ext wr v3 := hxk2.trans hx13; rw [hc0])
                          | (go_at_call 29; refine (part_calls _ (some ⟨b3, o3, none⟩) sc l d j l.length ((hSI.ext hx).ext hxk1) rfl hJl (by omega) (by omega)).mono ?_; rintro e v2 ⟨nb2, zo2, A2, zc2, mb2, yo2, B2, yc2, rfl, hR2, hbk2, hbm2, hx12⟩; have hxk2 : Ext wr v2 := hxk1.trans hx12)
                          | (go_at_call 29; refine (part_calls _ so2 sc2 l2 d2 j l2.length ((hSI2.ext hx).ext ((Ext.refl _).drew)) rfl hk1 (by omega) (by omega)).mono ?_; rintro e v1 ⟨nb1, zo1, A1, zc1, mb1, yo1, B1, yc1, rfl, hR1, hbk1, hbm1, hx11⟩; have hxk1 : Ext wr v1 := Ext.trans ((Ext.refl _).drew) hx11)))
                      go_wp2_with fail
                      exact ⟨⟨j + 1, by omega, (by first | rfl | exact congrArg (Value.int .i64) (by omega)), hx.trans hxk3⟩, by simp only [intOf]; omega⟩
                  · obtain rfl : j = M := by omega
                    have hx0r := hx011.trans hx
                    go_wp2_with fail
                    refine (hA w _ hx0r).mono ?_
                    rintro e w9 ⟨rfl, hx9⟩
                    go_wp2_with fail
                    go_ret
                    exact ⟨rfl, hx9⟩
              · obtain ⟨z0, z1⟩ := hsp.put (.slice so2 l2.length sc2) (.int .i64 d2)
                have hlow2 : ∀ a, so2 = some a → w8.heap.size + 1 ≤ a.block := fun a ha => by have := (hlow a ha).1; simp at this; omega
                clear hlow
                have hx10 : Ext w8 ((v1.setCell ⟨w8.heap.size, 0, none⟩ (.slice so2 l2.length sc2)).setCell ⟨w8.heap.size, 1, none⟩ (.int .i64 d2)) := (hxk1.setOwn _ _ (Nat.le_refl _)).setOwn _ _ (Nat.le_refl _)
                have hbx2 : PBox ((v1.setCell ⟨w8.heap.size, 0, none⟩ (.slice so2 l2.length sc2)).setCell ⟨w8.heap.size, 1, none⟩ (.int .i64 d2)) w8.heap.size (.slice so2 l2.length sc2) d2 := ⟨z0, z1, by simpa [World.setCell] using hspl⟩
                replace hSI2 := (hSI2.grown (grownBy_setCell _ ⟨w8.heap.size, 0, none⟩ (.slice so2 l2.length sc2)) (fun a ha e => by have := hlow2 a ha; simp only [Option.some.injEq] at e; omega)).grown (grownBy_setCell _ ⟨w8.heap.size, 1, none⟩ (.int .i64 d2)) (fun a ha e => by have := hlow2 a ha; simp only [Option.some.injEq] at e; omega)
                clear z0 z1 hsp hc0 hc1 hf0 hf1 hx11 hxk1 hlow2
                obtain ⟨C, hC⟩ : ∃ C, C = w8.heap.size := ⟨_, rfl⟩
                generalize ((v1.setCell ⟨w8.heap.size, 0, none⟩ (.slice so2 l2.length sc2)).setCell ⟨w8.heap.size, 1, none⟩ (.int .i64 d2)) = w10 at *
                rw [← hC] at hbx2 ⊢
                clear hC hspl
                have hx010 := hx08.trans hx10
                replace hSI := hSI.ext hx10
                replace hbx := hbx.ext hx10
                clear q0 q1 q2 hb3 hc3
                obtain ⟨r0, r1, r2⟩ := id hbx2
                go_wp2_with fail
                refine (shaped_calls _ so2 sc2 l2 d2 M).mono ?_
                rintro e w11 ⟨rfl, hx11⟩
                have hsh : decide (l2.length = M ∧ 0 < d2) = true := by have := HLM.out; simp; omega
                rw [hsh]
                clear hsh
                have hx011 := hx010.trans hx11
                replace hSI := hSI.ext hx11
                replace hbx := hbx.ext hx11
                replace hSI2 := hSI2.ext hx11
                replace hbx2 := hbx2.ext hx11
                clear r0 r1 r2
                go_wp2_with fail
                go_loopw [15] (fun i wr => ∃ j : Nat, j ≤ M ∧ i = .int .i64 j ∧ Ext w11 wr) (fun i _ => M - (intOf i).toNat)
                case atStart => exact ⟨0, by omega, rfl, Ext.refl _⟩
                case round =>
                  rename World => wr
                  obtain ⟨j, hj, rfl, hx⟩ := hrel
                  by_cases hlt : j < M
                  · have hb1 := hbx.ext hx
                    have hb2 := hbx2.ext hx
                    have hst := HST.out j hlt
                    by_cases hkj : k ≤ j
                    · rw [if_pos hkj] at hst
                      obtain ⟨J, hJ⟩ : ∃ J, j + 1 = J := ⟨_, rfl⟩
                      rw [hJ] at hst
                      have hJi : (j : Int) + 1 = (J : Int) := by omega
                      have hkj2 : decide ((k : Int) ≤ (j : Int)) = true := by simp; omega
                      have hJl : J < l.length := by have := HLL.out; omega
                      clear hJ
                      have hk1 : j < l2.length := by have := HLM.out; omega
                      have u1 := HU.out.at_ J hJl
                      have u2 := HU2.out.at_ j hk1
                      have hc0 : cmpQ (Rat.divInt (ith l2 j) d2) (Rat.divInt (ith l J) d) = 0 := cmpQ_eq0 (divInt_same (by omega) (by omega) hst)
                      obtain ⟨q0, q1, q2⟩ := id hb1
                      obtain ⟨r0, r1, r2⟩ := id hb2
                      go_wp2_with fail
                      go_region_held3 (fun w' => (w'.cell? ⟨B, 0, none⟩ = some (.slice (some ⟨b3, o3, none⟩) l.length sc)) ∧ (w'.cell? ⟨B, 1, none⟩ = some (.int .i64 d)) ∧ (w'.cell? ⟨C, 0, none⟩ = some (.slice so2 l2.length sc2)) ∧ (w'.cell? ⟨C, 1, none⟩ = some (.int .i64 d2)))
                        (first | with_reducible exact p4 hb1 hb2 hxk3 | with_reducible exact p4 hb1 hb2 hxk2 | with_reducible exact p4 hb1 hb2 hxk1 | with_reducible exact p4 hb1 hb2 ((Ext.refl _).drew))
                        ((first
                          | (go_at_call 28; refine (cmp_calls _ nb1 mb1 nb2 mb2 zo1 yo1 zo2 yo2 A1 zc1 B1 yc1 A2 zc2 B2 yc2 _ _ (hR1.ext hx12) hR2 (fine_small (by omega) (by omega) (by omega)) (fine_small (by omega) (by omega) (by omega))).mono ?_; rintro e v3 ⟨rfl, hx13⟩; have hxk3 : Ext wr v3 := hxk2.trans hx13; rw [hc0])
                          | (go_at_call 29; refine (part_calls _ (some ⟨b3, o3, none⟩) sc l d J l.length ((hSI.ext hx).ext hxk1) rfl hJl (by omega) (by omega)).mono ?_; rintro e v2 ⟨nb2, zo2, A2, zc2, mb2, yo2, B2, yc2, rfl, hR2, hbk2, hbm2, hx12⟩; have hxk2 : Ext wr v2 := hxk1.trans hx12)
                          | (go_at_call 29; refine (part_calls _ so2 sc2 l2 d2 j l2.length ((hSI2.ext hx).ext ((Ext.refl _).drew)) rfl hk1 (by omega) (by omega)).mono ?_; rintro e v1 ⟨nb1, zo1, A1, zc1, mb1, yo1, B1, yc1, rfl, hR1, hbk1, hbm1, hx11⟩; have hxk1 : Ext wr v1 := Ext.trans ((Ext.refl _).drew) hx11)))
                      go_wp2_with fail
                      exact ⟨⟨j + 1, by omega, (by first | rfl | exact congrArg (Value.int .i64) (by omega)), hx.trans hxk3⟩, by simp only [intOf]; omega⟩
                    · rw [if_neg hkj] at hst
                      have hkj2 : decide ((k : Int) ≤ (j : Int)) = false := by simp; omega
                      have hJl : j < l.length := by have := HLL.out; omega
                      have hk1 : j < l2.length := by have := HLM.out; omega
                      have u1 := HU.out.at_ j hJl
                      have u2 := HU2.out.at_ j hk1
                      have hc0 : cmpQ (Rat.divInt (ith l2 j) d2) (Rat.divInt (ith l j) d) = 0 := cmpQ_eq0 (divInt_same (by omega) (by omega) hst)
                      obtain ⟨q0, q1, q2⟩ := id hb1
                      obtain ⟨r0, r1, r2⟩ := id hb2
                      go_wp2_with fail
                      go_region_held3 (fun w' => (w'.cell? ⟨B, 0, none⟩ = some (.slice (some ⟨b3, o3, none⟩) l.length sc)) ∧ (w'.cell? ⟨B, 1, none⟩ = some (.int .i64 d)) ∧ (w'.cell? ⟨C, 0, none⟩ = some (.slice so2 l2.length sc2)) ∧ (w'.cell? ⟨C, 1, none⟩ = some (.int .i64 d2)))
                        (first | with_reducible exact p4 hb1 hb2 hxk3 | with_reducible exact p4 hb1 hb2 hxk2 | with_reducible exact p4 hb1 hb2 hxk1 | with_reducible exact p4 hb1 hb2 ((Ext.refl _).drew))
                        ((first
                          | (go_at_call 28; refine (cmp_calls _ nb1 mb1 nb2 mb2 zo1 yo1 zo2 yo2 A1 zc1 B1 yc1 A2 zc2 B2 yc2 _ _ (hR1.ext hx12) hR2 (fine_small (by omega) (by omega) (by omega)) (fine_small (by omega) (by omega) (by omega))).mono ?_; rintro e v3 ⟨rfl, hx13⟩; have hxk3 : Ext wr v3 := hxk2.trans hx13; rw [hc0])
                          | (go_at_call 29; refine (part_calls _ (some ⟨b3, o3, none⟩) sc l d j l.length ((hSI.ext hx).ext hxk1) rfl hJl (by omega) (by omega)).mono ?_; rintro e v2 ⟨nb2, zo2, A2, zc2, mb2, yo2, B2, yc2, rfl, hR2, hbk2, hbm2, hx12⟩; have hxk2 : Ext wr v2 := hxk1.trans hx12)
                          | (go_at_call 29; refine (part_calls _ so2 sc2 l2 d2 j l2.length ((hSI2.ext hx).ext ((Ext.refl _).drew)) rfl hk1 (by omega) (by omega)).mono ?_; rintro e v1 ⟨nb1, zo1, A1, zc1, mb1, yo1, B1, yc1, rfl, hR1, hbk1, hbm1, hx11⟩; have hxk1 : Ext wr v1 := Ext.trans ((Ext.refl _).drew) hx11)))
                      go_wp2_with fail
                      exact ⟨⟨j + 1, by omega, (by first | rfl | exact congrArg (Value.int .i64) (by omega)), hx.trans hxk3⟩, by simp only [intOf]; omega⟩
                  · obtain rfl : j = M := by omega
                    have hx0r := hx011.trans hx
                    go_wp2_with fail
                    refine (hA w _ hx0r).mono ?_
                    rintro e w9 ⟨rfl, hx9⟩
                    go_wp2_with fail
                    go_ret
                    exact ⟨rfl, hx9⟩
end Go.Proofs.Ytcngecibljgndaa
