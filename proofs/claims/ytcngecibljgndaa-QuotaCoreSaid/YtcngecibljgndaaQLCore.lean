/- QuotaCore: the walk. -/
import Derived.Test.YtcngecibljgndaaQCA
import Derived.Test.YtcngecibljgndaaQOpen
namespace Go.Proofs.Ytcngecibljgndaa
open Go.RowKit Go.Shelf

set_option maxRecDepth 100000 in
set_option maxHeartbeats 4000000 in
theorem quotaCore_law (hA : AliveOK) (w : World) (rule E : Int) (ao : Option Addr) (cap : Nat) (xs : List Int) (hI : IntsIn w ao xs) :
    Calls Try.prog 10 #[.int .i64 rule, .int .i64 E, .slice ao xs.length cap] w (TrueRes w) := by
  go_enter Try.func10, Try.ntmps10
  go_wp2_with fail
  refine (few_calls _ ao xs.length cap).mono ?_
  rintro e w2 ⟨rfl, hx2⟩
  cases hd : decide (xs.length ≤ 40) with
  | false =>
    go_wp2_with fail
    refine (hA w _ hx2).mono ?_
    rintro e w9 ⟨rfl, hx9⟩
    go_wp2_with fail
    go_ret
    exact ⟨rfl, hx9⟩
  | true =>
    have hl1 : xs.length ≤ 40 := by simpa using hd
    clear hd
    go_wp2_with fail
    refine (share_calls _ rule E ao cap xs (hI.ext hx2) (by omega)).mono ?_
    rintro e w3 (⟨hn, rfl, hx3⟩ | ⟨q, v, hq, rfl, ho, hx3⟩)
    · have HN := Lib.hid hn
      clear hn
      have hx03 := hx2.trans hx3
      go_wp2_with fail
      have hx4 : Ext w (w3.alloc (Obj.cells #[.slice none 0 0, .int .i64 0] 26)) := (by repeat (first | exact Ext.refl _ | assumption | refine Ext.alloc ?_ _ | refine Ext.drewN ?_ _ | refine Ext.drew ?_))
      refine (quotaGame_calls _ E ao cap xs (hI.ext hx4) (by omega)).mono ?_
      rintro e w5 (⟨hp, rfl, hx5⟩ | ⟨hp, v, rfl, ho, hx5⟩)
      · clear hp HN
        have hx05 := hx4.trans hx5
        go_wp2_with fail
        refine (hA w _ hx05).mono ?_
        rintro e w9 ⟨rfl, hx9⟩
        go_wp2_with fail
        go_ret
        exact ⟨rfl, hx9⟩
      · clear hp HN
        have hx05 := hx4.trans hx5
        go_wp2_with fail
        refine (hA w _ hx05).mono ?_
        rintro e w9 ⟨rfl, hx9⟩
        go_wp2_with fail
        go_ret
        exact ⟨rfl, hx9⟩
    · obtain ⟨hP, hS⟩ := share_is hq
      clear hq
      have hx03 := hx2.trans hx3
      obtain ⟨so, sc, rfl, hSI, -⟩ := ho.intsShape
      clear ho
      obtain ⟨l, hl⟩ : ∃ l, l = q.1 := ⟨_, rfl⟩
      obtain ⟨d, hdd⟩ : ∃ d, d = q.2 := ⟨_, rfl⟩
      rw [← hl, ← hdd] at hS
      rw [← hl] at hSI
      rw [← hl, ← hdd]
      clear hl hdd
      go_wp2_with fail
      have hx4 : Ext w3 (w3.alloc (Obj.cells #[.slice so l.length sc, .int .i64 d] 26)) := (by repeat (first | exact Ext.refl _ | assumption | refine Ext.alloc ?_ _ | refine Ext.drewN ?_ _ | refine Ext.drew ?_))
      have hbx := PBox.new w3 26 (.slice so l.length sc) d
      obtain ⟨B, hB⟩ : ∃ B, B = w3.heap.size := ⟨_, rfl⟩
      generalize (w3.alloc (Obj.cells #[.slice so l.length sc, .int .i64 d] 26)) = w4 at *
      rw [← hB] at hbx ⊢
      clear hB
      have hx04 := hx03.trans hx4
      replace hSI := hSI.ext hx4
      refine (quotaGame_calls _ E ao cap xs (hI.ext hx04) (by omega)).mono ?_
      rintro e w5 (⟨hp, rfl, hx5⟩ | ⟨hp, v, rfl, ho, hx5⟩)
      · rw [(probB_true E xs).2 hP] at hp; simp at hp
      · clear hp
        have hx05 := hx04.trans hx5
        replace hSI := hSI.ext hx5
        replace hbx := hbx.ext hx5
        obtain ⟨q0, q1, q2⟩ := id hbx
        obtain ⟨vo, vc, rfl, hV, -⟩ := ho.intsShape
        clear ho
        obtain ⟨N, hN, HN, hNb⟩ : ∃ N : Nat, (2 : Int) ^ xs.length = N ∧ Hid (N = 2 ^ xs.length) ∧ N ≤ 128 := by
          refine ⟨2 ^ xs.length, by simp, Lib.hid rfl, ?_⟩
          have : 2 ^ xs.length ≤ 2 ^ 7 := Nat.pow_le_pow_right (by omega) hP.seven
          omega
        have hvl := gameP_length E xs
        rw [← HN.out] at hvl
        have HC : Hid (∀ s, s < N → ith (gameP E xs) s * d ≤ setP l s xs.length) := Lib.hid (fun s h => core_ok hS hP.claims s (by rw [← HN.out]; exact h))
        have HG : Hid (∀ s, s < N → 0 ≤ ith (gameP E xs) s ∧ ith (gameP E xs) s ≤ 100000) := Lib.hid (fun s h => gameP_at E xs hP.claims hP.estate s (by rw [← HN.out]; exact h))
        have HU := Lib.hid (is_upto hS hP.claims)
        have hll := hS.len
        have hdn := hS.den
        have hx7 := hP.seven
        generalize gameP E xs = vs at *
        have hV' : ∀ k, k < N → ∃ b off, vo = some ⟨b, off, none⟩ ∧ b < w5.heap.size ∧ w5.cell? ⟨b, off + k, none⟩ = some (.int .i64 (ith vs k)) := fun k hk => hV k (by omega)
        rw [hvl]
        clear hvl hV hP hS
        have HLL := Lib.hid hll
        clear hll
        go_wp2_with fail
        refine (shaped_calls _ so sc l d xs.length).mono ?_
        rintro e w6 ⟨rfl, hx6⟩
        have hsh : decide (l.length = xs.length ∧ 0 < d) = true := by have := HLL.out; simp; omega
        rw [hsh]
        clear hsh
        have hx06 := hx05.trans hx6
        replace hSI := hSI.ext hx6
        replace hbx := hbx.ext hx6
        replace hV' : ∀ k, k < N → ∃ b off, vo = some ⟨b, off, none⟩ ∧ b < w6.heap.size ∧ w6.cell? ⟨b, off + k, none⟩ = some (.int .i64 (ith vs k)) := fun k hk => by
          obtain ⟨b, off, h1, h2, h3⟩ := hV' k hk
          exact ⟨b, off, h1, Nat.lt_of_lt_of_le h2 hx6.size, (hx6.cell (p := ⟨b, off + k, none⟩) h2).trans h3⟩
        clear q0 q1 q2
        go_wp2_with fail
        go_loopw [11] (fun i wr => ∃ k : Nat, k ≤ N ∧ i = .int .i64 k ∧ Ext w6 wr) (fun i _ => N - (intOf i).toNat)
        case atStart => exact ⟨0, by omega, rfl, Ext.refl _⟩
        case round =>
          obtain ⟨k, hk, rfl, hx⟩ := hrel
          by_cases hlt : k < N
          · go_wp2_with fail
            go_loopw [12, 13] (fun sv i ws => ∃ j : Nat, j ≤ xs.length ∧ i = .int .i64 j ∧ sv = .int .i64 (setP l k j) ∧ Ext wr ws) (fun _ i _ => xs.length - (intOf i).toNat)
            case atStart => exact ⟨0, by omega, rfl, rfl, Ext.refl _⟩
            case round =>
              rename World => ws
              obtain ⟨j, hj, rfl, rfl, hx2⟩ := hrel
              have hx6s := hx.trans hx2
              have hsb := setP_bounds l HU.out k j (by have := HLL.out; omega)
              obtain ⟨q0, q1, q2⟩ := hbx.ext hx6s
              by_cases hlt2 : j < xs.length
              · obtain ⟨b, off, rfl, hb, hc⟩ := hSI.ext hx6s j (by have := HLL.out; omega)
                have hxj := HU.out.at_ j (by have := HLL.out; omega)
                have hbt := rem_test k j (by omega) (by omega)
                have hjl : j < l.length := by have := HLL.out; omega
                cases hb : k.testBit j with
                | true =>
                  rw [hb] at hbt
                  have HB := Lib.hid (setP_in l k j hb)
                  clear hb
                  go_wp2_with fail
                  exact ⟨⟨j + 1, by omega, rfl, by rw [HB.out], hx2⟩, by simp only [intOf]; omega⟩
                | false =>
                  rw [hb] at hbt
                  have HB := Lib.hid (setP_out l k j hb)
                  clear hb
                  go_wp2_with fail
                  exact ⟨⟨j + 1, by omega, rfl, by rw [HB.out], hx2⟩, by simp only [intOf]; omega⟩
              · obtain rfl : j = xs.length := by omega
                obtain ⟨vb, voff, rfl, hvb, hvc⟩ := hV' k hlt
                replace hvc := (hx6s.cell (p := ⟨vb, voff + k, none⟩) hvb).trans hvc
                have hvb2 := Nat.lt_of_lt_of_le hvb hx6s.size
                have hg := HG.out k hlt
                have hpr : ith vs k * d ≤ 100000 * 1000000 := Int.mul_le_mul hg.2 hdn.2 (by omega) (by omega)
                have hpr0 : 0 ≤ ith vs k * d := Int.mul_nonneg hg.1 (by omega)
                have hw1 : IntKind.i64.wrap (ith vs k * d) = ith vs k * d := by rw [IntKind.wrap_i64]; omega
                have hcc : decide (setP l k xs.length < ith vs k * d) = false := by have := HC.out k hlt; simp; omega
                go_wp2_with fail
                go_region
                go_wp2_with fail
                exact ⟨⟨k + 1, by omega, rfl, (by repeat (first | exact Ext.refl _ | assumption | refine Ext.alloc ?_ _ | refine Ext.drewN ?_ _ | refine Ext.drew ?_))⟩, by simp only [intOf]; omega⟩
          · obtain rfl : k = N := by omega
            have hx0r := hx06.trans hx
            go_wp2_with fail
            refine (hA w _ hx0r).mono ?_
            rintro e w9 ⟨rfl, hx9⟩
            go_wp2_with fail
            go_ret
            exact ⟨rfl, hx9⟩
end Go.Proofs.Ytcngecibljgndaa
