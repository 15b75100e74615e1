/- QuotaRules: the walk. -/
import Derived.Test.YtcngecibljgndaaQCA
import Derived.Test.YtcngecibljgndaaQPC
import Derived.Test.YtcngecibljgndaaQOpen
namespace Go.Proofs.Ytcngecibljgndaa
open Go.RowKit Go.Shelf

theorem IntsIn.two {w : World} {ao : Option Addr} {xs : List Int} (h : IntsIn w ao xs) {i j : Nat} (hi : i < xs.length) (hj : j < xs.length) :
    ∃ b off, ao = some ⟨b, off, none⟩ ∧ b < w.heap.size ∧ w.cell? ⟨b, off + i, none⟩ = some (.int .i64 (ith xs i)) ∧ w.cell? ⟨b, off + j, none⟩ = some (.int .i64 (ith xs j)) := by
  obtain ⟨b, off, rfl, hb, hc⟩ := h i hi
  obtain ⟨b2, off2, he, hb2, hc2⟩ := h j hj
  simp only [Option.some.injEq, Addr.mk.injEq] at he
  obtain ⟨rfl, rfl, -⟩ := he
  exact ⟨b, off, rfl, hb, hc, hc2⟩
set_option maxRecDepth 100000 in
set_option maxHeartbeats 4000000 in
theorem quotaRules_law (hA : AliveOK) (w : World) (rule E : Int) (ao : Option Addr) (cap : Nat) (xs : List Int) (hI : IntsIn w ao xs) :
    Calls Try.prog 9 #[.int .i64 rule, .int .i64 E, .slice ao xs.length cap] w (TrueRes w) := by
  go_enter Try.func9, Try.ntmps9
  go_wp2_with fail
  refine (few_calls _ ao xs.length cap).mono ?_
  rintro e w2 ⟨rfl, hx2⟩
  cases hd : decide (xs.length ≤ 40) with
  | false =>
    go_wp2_with fail
    refine (hA w _ hx2).mono ?_
    rintro e w9 ⟨rfl, hx9⟩
    go_wp2_with fail
    go_ret
    exact ⟨rfl, hx9⟩
  | true =>
    have hl1 : xs.length ≤ 40 := by simpa using hd
    clear hd
    go_wp2_with fail
    refine (share_calls _ rule E ao cap xs (hI.ext hx2) (by omega)).mono ?_
    rintro e w3 (⟨hn, rfl, hx3⟩ | ⟨q, v, hq, rfl, ho, hx3⟩)
    · clear hn
      have hx03 := hx2.trans hx3
      go_wp2_with fail
      have hx4 : Ext w (w3.alloc (Obj.cells #[.slice none 0 0, .int .i64 0] 26)) := (by repeat (first | exact Ext.refl _ | assumption | refine Ext.alloc ?_ _ | refine Ext.drewN ?_ _ | refine Ext.drew ?_))
      refine (hA w _ hx4).mono ?_
      rintro e w9 ⟨rfl, hx9⟩
      go_wp2_with fail
      go_ret
      exact ⟨rfl, hx9⟩
    · obtain ⟨hP, hS⟩ := share_is hq
      have hO := share_orderly hq
      clear hq
      have hx03 := hx2.trans hx3
      obtain ⟨so, sc, rfl, hSI, -⟩ := ho.intsShape
      clear ho
      obtain ⟨l, hl⟩ : ∃ l, l = q.1 := ⟨_, rfl⟩
      obtain ⟨d, hdd⟩ : ∃ d, d = q.2 := ⟨_, rfl⟩
      unfold Orderly at hO
      rw [← hl, ← hdd] at hS hO
      rw [← hl] at hSI
      rw [← hl, ← hdd]
      clear hl hdd
      go_wp2_with fail
      have hx4 : Ext w3 (w3.alloc (Obj.cells #[.slice so l.length sc, .int .i64 d] 26)) := (by repeat (first | exact Ext.refl _ | assumption | refine Ext.alloc ?_ _ | refine Ext.drewN ?_ _ | refine Ext.drew ?_))
      have hbx := PBox.new w3 26 (.slice so l.length sc) d
      obtain ⟨B, hB⟩ : ∃ B, B = w3.heap.size := ⟨_, rfl⟩
      generalize (w3.alloc (Obj.cells #[.slice so l.length sc, .int .i64 d] 26)) = w4 at *
      rw [← hB] at hbx ⊢
      clear hB
      have hx04 := hx03.trans hx4
      replace hSI := hSI.ext hx4
      have hll := hS.len
      have h7 := hP.seven
      refine (quotaIs_calls _ E ao so cap sc xs l d (hI.ext hx04) hSI (by omega) (by omega)).mono ?_
      rintro e w5 ⟨rfl, hx5⟩
      have hpb := (probB_true E xs).2 hP
      have hib := isB_yes hS
      rw [hpb, hib]
      clear hpb hib
      simp only [errI, Bool.and_self, if_true]
      have hx05 := hx04.trans hx5
      replace hSI := hSI.ext hx5
      replace hbx := hbx.ext hx5
      have HU := Lib.hid (is_upto hS hP.claims)
      have HC := Lib.hid hP.claims
      have HO := Lib.hid hO
      have hdn := hS.den
      have HLL := Lib.hid hll
      clear hll hP hO hS
      obtain ⟨q0, q1, q2⟩ := id hbx
      go_wp2_with fail
      refine (shaped_calls _ so sc l d xs.length).mono ?_
      rintro e w6 ⟨rfl, hx6⟩
      have hsh : decide (l.length = xs.length ∧ 0 < d) = true := by have := HLL.out; simp; omega
      rw [hsh]
      clear hsh
      have hx06 := hx05.trans hx6
      replace hSI := hSI.ext hx6
      replace hbx := hbx.ext hx6
      clear q0 q1 q2
      go_wp2_with fail
      go_loopw [11] (fun i wr => ∃ k : Nat, k ≤ xs.length ∧ i = .int .i64 k ∧ Ext w6 wr) (fun i _ => xs.length - (intOf i).toNat)
      case atStart => exact ⟨0, by omega, rfl, Ext.refl _⟩
      case round =>
        obtain ⟨k, hk, rfl, hx⟩ := hrel
        by_cases hlt : k < xs.length
        · go_wp2_with fail
          go_loopw [12] (fun i ws => ∃ j : Nat, j ≤ xs.length ∧ i = .int .i64 j ∧ Ext wr ws) (fun i _ => xs.length - (intOf i).toNat)
          case atStart => exact ⟨0, by omega, rfl, Ext.refl _⟩
          case round =>
            rename World => ws
            obtain ⟨j, hj, rfl, hx2⟩ := hrel
            have hx6s := hx.trans hx2
            by_cases hlt2 : j < xs.length
            · obtain ⟨q0, q1, q2⟩ := hbx.ext hx6s
              have hkl : k < l.length := by have := HLL.out; omega
              have hjl : j < l.length := by have := HLL.out; omega
              obtain ⟨lb, lf, rfl, hlb, hl1c, hl2c⟩ := (hSI.ext hx6s).two hkl hjl
              obtain ⟨xb, xf, rfl, hxb, hx1c, hx2c⟩ := (hI.ext (hx06.trans hx6s)).two hlt hlt2
              have u1 := HC.out.at_ k hlt
              have u2 := HC.out.at_ j hlt2
              have v1 := HU.out.at_ k hkl
              have v2 := HU.out.at_ j hjl
              have p1 : ith xs k * d ≤ 100000 * 1000000 := Int.mul_le_mul u1.2 hdn.2 (by omega) (by omega)
              have p2 : ith xs j * d ≤ 100000 * 1000000 := Int.mul_le_mul u2.2 hdn.2 (by omega) (by omega)
              have p3 : 0 ≤ ith xs k * d := Int.mul_nonneg u1.1 (by omega)
              have p4 : 0 ≤ ith xs j * d := Int.mul_nonneg u2.1 (by omega)
              have w1 : IntKind.i64.wrap (ith xs k * d) = ith xs k * d := by rw [IntKind.wrap_i64]; omega
              have w2 : IntKind.i64.wrap (ith xs j * d) = ith xs j * d := by rw [IntKind.wrap_i64]; omega
              have w3 : IntKind.i64.wrap (ith xs k * d - ith l k) = ith xs k * d - ith l k := by rw [IntKind.wrap_i64]; omega
              have w4 : IntKind.i64.wrap (ith xs j * d - ith l j) = ith xs j * d - ith l j := by rw [IntKind.wrap_i64]; omega
              have a0 := After.cell q0 q2
              have a1 := After.cell q1 q2
              have a2 := After.cell hl1c hlb
              have a3 := After.cell hl2c hlb
              have a4 := After.cell hx1c hxb
              have a5 := After.cell hx2c hxb
              have k1 : (0 : Int) ≤ (k : Int) := by omega
              have k2 : (0 : Int) ≤ (j : Int) := by omega
              have k3 : (k : Int) < (l.length : Int) := by omega
              have k4 : (j : Int) < (l.length : Int) := by omega
              have k5 : (k : Int) < (xs.length : Int) := by omega
              have k6 : (j : Int) < (xs.length : Int) := by omega
              cases hd1 : decide (ith xs k ≤ ith xs j) with
              | false =>
                go_wp2_with fail
                refine wp_region_after (by kernel_rfl) (by kernel_rfl) ?_
                intro hne
                repeat (go_big_quiet_step (fail))
                refine wpQuiet_nil ?_
                intro w7 hx7
                go_wp2_with fail
                exact ⟨⟨j + 1, by omega, rfl, hx2.trans hx7⟩, by simp only [intOf]; omega⟩
              | true =>
                have hoo := HO.out k j hlt hlt2 (by simpa using hd1)
                have hd2 : decide (ith l j < ith l k) = false := by simp; omega
                have hd3 : decide (ith xs j * d - ith l j < ith xs k * d - ith l k) = false := by simp; omega
                clear hoo p1 p2 p3 p4 v1 v2 u1 u2
                go_wp2_with fail
                refine wp_region_after (by kernel_rfl) (by kernel_rfl) ?_
                intro hne
                repeat (go_big_quiet_step (fail))
                refine wpQuiet_nil ?_
                intro w7 hx7
                go_wp2_with fail
                exact ⟨⟨j + 1, by omega, rfl, hx2.trans hx7⟩, by simp only [intOf]; omega⟩
            · obtain rfl : j = xs.length := by omega
              go_wp2_with fail
              exact ⟨⟨k + 1, by omega, rfl, hx.trans hx2⟩, by simp only [intOf]; omega⟩
        · obtain rfl : k = xs.length := by omega
          have hx0r := hx06.trans hx
          go_wp2_with fail
          refine (hA w _ hx0r).mono ?_
          rintro e w9 ⟨rfl, hx9⟩
          go_wp2_with fail
          go_ret
          exact ⟨rfl, hx9⟩
end Go.Proofs.Ytcngecibljgndaa
