/- QuotaGrows: the walk. -/
import Derived.Test.YtcngecibljgndaaQCA
import Derived.Test.YtcngecibljgndaaQPD
import Derived.Test.YtcngecibljgndaaBK
import Derived.Test.YtcngecibljgndaaQOpen
namespace Go.Proofs.Ytcngecibljgndaa
open Go.RowKit Go.Shelf

theorem cmpQ_le {a b : Rat} (h : a ≤ b) : cmpQ a b ≤ 0 := by
  unfold cmpQ
  split
  · omega
  · rw [if_neg (Rat.not_lt.2 h)]; omega
theorem p4 {w w' : World} {B C : Nat} {u x : Value} {v y : Int} (h : PBox w B u v) (k : PBox w C x y) (hx : Ext w w') : (w'.cell? ⟨B, 0, none⟩ = some u) ∧ (w'.cell? ⟨B, 1, none⟩ = some (.int .i64 v)) ∧ (w'.cell? ⟨C, 0, none⟩ = some x) ∧ (w'.cell? ⟨C, 1, none⟩ = some (.int .i64 y)) :=
  ⟨(h.ext hx).c0, (h.ext hx).c1, (k.ext hx).c0, (k.ext hx).c1⟩
set_option maxRecDepth 100000 in
set_option maxHeartbeats 4000000 in
theorem quotaGrows_law (hA : AliveOK) (w : World) (rule E M : Int) (ao : Option Addr) (cap : Nat) (xs : List Int) (hI : IntsIn w ao xs) :
    Calls Try.prog 5 #[.int .i64 rule, .int .i64 E, .int .i64 M, .slice ao xs.length cap] w (TrueRes w) := by
  go_enter Try.func5, Try.ntmps5
  go_wp2_with fail
  refine (few_calls _ ao xs.length cap).mono ?_
  rintro e w2 ⟨rfl, hx2⟩
  cases hd : decide (xs.length ≤ 40) with
  | false =>
    go_wp2_with fail
    refine (hA w _ hx2).mono ?_
    rintro e w9 ⟨rfl, hx9⟩
    go_wp2_with fail
    go_ret
    exact ⟨rfl, hx9⟩
  | true =>
    have hl1 : xs.length ≤ 40 := by simpa using hd
    clear hd
    by_cases hme : M < E
    · go_wp2_with fail
      refine (hA w _ hx2).mono ?_
      rintro e w9 ⟨rfl, hx9⟩
      go_wp2_with fail
      go_ret
      exact ⟨rfl, hx9⟩
    · have hme2 : decide (M < E) = false := by simp; omega
      have hs1 := fun W h => share_calls W rule E ao cap xs h (by omega)
      have hs2 := fun W h => share_calls W rule M ao cap xs h (by omega)
      go_wp2_with fail
      refine (hs1 _ (hI.ext hx2)).mono ?_
      rintro e w3 (⟨hn, rfl, hx3⟩ | ⟨q, v, hq, rfl, ho, hx3⟩)
      · clear hn
        have hx03 := hx2.trans hx3
        go_wp2_with fail
        have hx4 : Ext w (w3.alloc (Obj.cells #[.slice none 0 0, .int .i64 0] 26)) := (by repeat (first | exact Ext.refl _ | assumption | refine Ext.alloc ?_ _ | refine Ext.drewN ?_ _ | refine Ext.drew ?_))
        refine (hs2 _ (hI.ext hx4)).mono ?_
        rintro e w5 (⟨hn, rfl, hx5⟩ | ⟨q, v, hq, rfl, ho, hx5⟩)
        · clear hn
          have hx05 := hx4.trans hx5
          go_wp2_with fail
          have hx6 : Ext w (w5.alloc (Obj.cells #[.slice none 0 0, .int .i64 0] 26)) := (by repeat (first | exact Ext.refl _ | assumption | refine Ext.alloc ?_ _ | refine Ext.drewN ?_ _ | refine Ext.drew ?_))
          refine (hA w _ hx6).mono ?_
          rintro e w9 ⟨rfl, hx9⟩
          go_wp2_with fail
          go_ret
          exact ⟨rfl, hx9⟩
        · obtain ⟨so, sc, rfl, hSI, -⟩ := ho.intsShape
          have hx05 := hx4.trans hx5
          clear hq ho
          go_wp2_with fail
          have hx6 : Ext w (w5.alloc (Obj.cells #[.slice so q.1.length sc, .int .i64 q.2] 26)) := (by repeat (first | exact Ext.refl _ | assumption | refine Ext.alloc ?_ _ | refine Ext.drewN ?_ _ | refine Ext.drew ?_))
          refine (hA w _ hx6).mono ?_
          rintro e w9 ⟨rfl, hx9⟩
          go_wp2_with fail
          go_ret
          exact ⟨rfl, hx9⟩
      · obtain ⟨hP, hS⟩ := share_is hq
        have hx03 := hx2.trans hx3
        obtain ⟨so, sc, rfl, hSI, -⟩ := ho.intsShape
        clear ho
        obtain ⟨l, hl⟩ : ∃ l, l = q.1 := ⟨_, rfl⟩
        obtain ⟨d, hdd⟩ : ∃ d, d = q.2 := ⟨_, rfl⟩
        rw [← hl, ← hdd] at hS
        rw [← hl] at hSI
        rw [← hl, ← hdd]
        have HL := Lib.hid hl
        have HDD := Lib.hid hdd
        clear hl hdd
        have HQ := Lib.hid hq
        clear hq
        go_wp2_with fail
        have hx4 : Ext w3 (w3.alloc (Obj.cells #[.slice so l.length sc, .int .i64 d] 26)) := (by repeat (first | exact Ext.refl _ | assumption | refine Ext.alloc ?_ _ | refine Ext.drewN ?_ _ | refine Ext.drew ?_))
        have hbx := PBox.new w3 26 (.slice so l.length sc) d
        obtain ⟨B, hB⟩ : ∃ B, B = w3.heap.size := ⟨_, rfl⟩
        generalize (w3.alloc (Obj.cells #[.slice so l.length sc, .int .i64 d] 26)) = w4 at *
        rw [← hB] at hbx ⊢
        clear hB
        have hx04 := hx03.trans hx4
        replace hSI := hSI.ext hx4
        refine (hs2 _ (hI.ext hx04)).mono ?_
        rintro e w5 (⟨hn, rfl, hx5⟩ | ⟨r, v, hr, rfl, ho, hx5⟩)
        · clear hn
          have hx05 := hx04.trans hx5
          clear hS hP
          go_wp2_with fail
          have hx6 : Ext w (w5.alloc (Obj.cells #[.slice none 0 0, .int .i64 0] 26)) := (by repeat (first | exact Ext.refl _ | assumption | refine Ext.alloc ?_ _ | refine Ext.drewN ?_ _ | refine Ext.drew ?_))
          refine (hA w _ hx6).mono ?_
          rintro e w9 ⟨rfl, hx9⟩
          go_wp2_with fail
          go_ret
          exact ⟨rfl, hx9⟩
        · obtain ⟨hP', hS'⟩ := share_is hr
          have hx05 := hx04.trans hx5
          replace hSI := hSI.ext hx5
          replace hbx := hbx.ext hx5
          obtain ⟨so2, sc2, rfl, hSI2, -⟩ := ho.intsShape
          clear ho
          have hNL := share_grows HQ.out hr (by omega)
          obtain ⟨l2, hl2⟩ : ∃ l2, l2 = r.1 := ⟨_, rfl⟩
          obtain ⟨d2, hdd2⟩ : ∃ d2, d2 = r.2 := ⟨_, rfl⟩
          unfold NoLess at hNL
          rw [← HL.out, ← HDD.out, ← hl2, ← hdd2] at hNL
          rw [← hl2, ← hdd2] at hS'
          rw [← hl2] at hSI2
          rw [← hl2, ← hdd2]
          clear hl2 hdd2 HL HDD hr HQ
          have HNL := Lib.hid hNL
          have hll := hS.len
          have hll2 := hS'.len
          have hdn := hS.den
          have hdn2 := hS'.den
          have HU := Lib.hid (is_upto hS hP.claims)
          have HU2 := Lib.hid (is_upto hS' hP'.claims)
          have h7 := hP.seven
          have HLL := Lib.hid hll
          have HLL2 := Lib.hid hll2
          clear hS hS' hP hP' hNL hll hll2 hs1 hs2
          obtain ⟨q0, q1, q2⟩ := id hbx
          go_wp2_with fail
          have hx6 : Ext w5 (w5.alloc (Obj.cells #[.slice so2 l2.length sc2, .int .i64 d2] 26)) := (by repeat (first | exact Ext.refl _ | assumption | refine Ext.alloc ?_ _ | refine Ext.drewN ?_ _ | refine Ext.drew ?_))
          have hbx2 := PBox.new w5 26 (.slice so2 l2.length sc2) d2
          obtain ⟨C, hC⟩ : ∃ C, C = w5.heap.size := ⟨_, rfl⟩
          clear q0 q1 q2
          generalize (w5.alloc (Obj.cells #[.slice so2 l2.length sc2, .int .i64 d2] 26)) = w6 at *
          rw [← hC] at hbx2 ⊢
          clear hC
          have hx06 := hx05.trans hx6
          replace hSI := hSI.ext hx6
          replace hSI2 := hSI2.ext hx6
          replace hbx := hbx.ext hx6
          refine (shaped_calls _ so sc l d xs.length).mono ?_
          rintro e w7 ⟨rfl, hx7⟩
          have hsh : decide (l.length = xs.length ∧ 0 < d) = true := by have := HLL.out; simp; omega
          rw [hsh]
          clear hsh
          obtain ⟨q0, q1, q2⟩ := hbx2.ext hx7
          go_wp2_with fail
          refine (shaped_calls _ so2 sc2 l2 d2 xs.length).mono ?_
          rintro e w8 ⟨rfl, hx8⟩
          have hsh : decide (l2.length = xs.length ∧ 0 < d2) = true := by have := HLL2.out; simp; omega
          rw [hsh]
          clear hsh q0 q1 q2
          have hx68 := hx7.trans hx8
          have hx08 := hx06.trans hx68
          replace hSI := hSI.ext hx68
          replace hSI2 := hSI2.ext hx68
          replace hbx := hbx.ext hx68
          replace hbx2 := hbx2.ext hx68
          go_wp2_with fail
          go_loopw [13] (fun i wr => ∃ k : Nat, k ≤ xs.length ∧ i = .int .i64 k ∧ Ext w8 wr) (fun i _ => xs.length - (intOf i).toNat)
          case atStart => exact ⟨0, by omega, rfl, Ext.refl _⟩
          case round =>
            rename World => wr
            obtain ⟨k, hk, rfl, hx⟩ := hrel
            by_cases hlt : k < xs.length
            · have hb1 := hbx.ext hx
              have hb2 := hbx2.ext hx
              have hk1 : k < l.length := by have := HLL.out; omega
              have hk2 : k < l2.length := by have := HLL2.out; omega
              have u1 := HU.out.at_ k hk1
              have u2 := HU2.out.at_ k hk2
              have hc0 : cmpQ (Rat.divInt (ith l k) d) (Rat.divInt (ith l2 k) d2) ≤ 0 := cmpQ_le (divInt_le (by omega) (by omega) (HNL.out k hlt))
              obtain ⟨cq, hcq⟩ : ∃ cq, cmpQ (Rat.divInt (ith l k) d) (Rat.divInt (ith l2 k) d2) = cq := ⟨_, rfl⟩
              rw [hcq] at hc0
              obtain ⟨q0, q1, q2⟩ := id hb1
              obtain ⟨r0, r1, r2⟩ := id hb2
              go_wp2_with fail
              go_region_held3 (fun w' => (w'.cell? ⟨B, 0, none⟩ = some (.slice so l.length sc)) ∧ (w'.cell? ⟨B, 1, none⟩ = some (.int .i64 d)) ∧ (w'.cell? ⟨C, 0, none⟩ = some (.slice so2 l2.length sc2)) ∧ (w'.cell? ⟨C, 1, none⟩ = some (.int .i64 d2)))
                (first | with_reducible exact p4 hb1 hb2 hxk3 | with_reducible exact p4 hb1 hb2 hxk2 | with_reducible exact p4 hb1 hb2 hxk1 | with_reducible exact p4 hb1 hb2 ((Ext.refl _).drew))
                ((first
                  | (go_at_call 28; refine (cmp_calls _ nb1 mb1 nb2 mb2 zo1 yo1 zo2 yo2 A1 zc1 B1 yc1 A2 zc2 B2 yc2 _ _ (hR1.ext hx12) hR2 (fine_small (by omega) (by omega) (by omega)) (fine_small (by omega) (by omega) (by omega))).mono ?_; rintro e v3 ⟨rfl, hx13⟩; have hxk3 : Ext wr v3 := hxk2.trans hx13; rw [hcq])
                  | (go_at_call 29; refine (part_calls _ so2 sc2 l2 d2 k l2.length ((hSI2.ext hx).ext hxk1) rfl hk2 (by omega) (by omega)).mono ?_; rintro e v2 ⟨nb2, zo2, A2, zc2, mb2, yo2, B2, yc2, rfl, hR2, hbk2, hbm2, hx12⟩; have hxk2 : Ext wr v2 := hxk1.trans hx12)
                  | (go_at_call 29; refine (part_calls _ so sc l d k l.length ((hSI.ext hx).ext ((Ext.refl _).drew)) rfl hk1 (by omega) (by omega)).mono ?_; rintro e v1 ⟨nb1, zo1, A1, zc1, mb1, yo1, B1, yc1, rfl, hR1, hbk1, hbm1, hx11⟩; have hxk1 : Ext wr v1 := Ext.trans ((Ext.refl _).drew) hx11)))
              go_wp2_with fail
              exact ⟨⟨k + 1, by omega, rfl, hx.trans hxk3⟩, by simp only [intOf]; omega⟩
            · obtain rfl : k = xs.length := by omega
              have hx0r := hx08.trans hx
              go_wp2_with fail
              refine (hA w _ hx0r).mono ?_
              rintro e w9 ⟨rfl, hx9⟩
              go_wp2_with fail
              go_ret
              exact ⟨rfl, hx9⟩
end Go.Proofs.Ytcngecibljgndaa
