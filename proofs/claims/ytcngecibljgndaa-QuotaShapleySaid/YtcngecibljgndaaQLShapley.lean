/- QuotaShapley: the walk. -/
import Derived.Test.YtcngecibljgndaaQCA
import Derived.Test.YtcngecibljgndaaQPG
import Derived.Test.YtcngecibljgndaaBK
import Derived.Test.YtcngecibljgndaaQOpen
namespace Go.Proofs.Ytcngecibljgndaa
open Go.RowKit Go.Shelf

theorem cmpQ_same {a b : Rat} (h : a = b) : cmpQ a b = 0 := by
  subst h
  have h : ¬ a < a := Rat.not_lt.2 Rat.le_refl
  unfold cmpQ; rw [if_neg h, if_neg h]
theorem fact_up (k : Nat) : (fact (k + 1) : Int) = ((k : Int) + 1) * (fact k : Int) := by rw [fact, Int.natCast_mul]; rfl
set_option maxRecDepth 100000 in
theorem factorial_calls (w : World) (n : Nat) (hn : n ≤ 7) : Calls Try.prog 35 #[.int .i64 n] w fun e w' => e = .returned (.int .i64 (fact n)) ∧ Ext w w' := by
  go_enter Try.func35, Try.ntmps35
  go_wp2_with fail
  go_loopw [3, 4] (fun o i wr => ∃ k : Nat, (1 ≤ k ∧ k ≤ 7 ∧ (k ≤ n ∨ k = 1)) ∧ i = .int .i64 (k + 1) ∧ o = .int .i64 (fact k) ∧ wr = w) (fun _ i _ => 10 - (intOf i).toNat)
  case atStart => exact ⟨1, by omega, rfl, rfl, rfl⟩
  case round =>
    obtain ⟨k, hk, rfl, rfl, rfl⟩ := hrel
    have hf := fact_seven (n := k) (by omega)
    by_cases hlt : k + 1 ≤ n
    · have hs := fact_up k
      have hle : ((k : Int) + 1) * (fact k : Int) ≤ 8 * 5040 := Int.mul_le_mul (by omega) (by omega) (by omega) (by omega)
      have h0 : 0 ≤ ((k : Int) + 1) * (fact k : Int) := Int.mul_nonneg (by omega) (by omega)
      obtain ⟨g, hg⟩ : ∃ g, fact (k + 1) = g := ⟨_, rfl⟩
      have HG := Lib.hid hg
      obtain ⟨f, hfe⟩ : ∃ f, fact k = f := ⟨_, rfl⟩
      rw [hg] at hs
      rw [hfe] at hf hle h0 hs ⊢
      clear hg hfe
      have hw1 : IntKind.i64.wrap ((f : Int) * ((k : Int) + 1)) = (g : Int) := by rw [IntKind.wrap_i64, Int.mul_comm]; omega
      have HS := Lib.hid hs
      clear hs hle h0
      go_wp2_with fail
      exact ⟨⟨k + 1, by omega, by simp, by rw [HG.out], trivial⟩, by simp only [intOf]; omega⟩
    · go_wp2_with fail
      go_ret
      refine ⟨?_, Ext.refl _⟩
      rcases Nat.lt_or_ge n 1 with h | h
      · obtain rfl : n = 0 := by omega
        obtain rfl : k = 1 := by omega
        rfl
      · obtain rfl : k = n := by omega
        rfl
theorem remv_all : ∀ s : Fin 128, ∀ c : Fin 7, (Int.tmod ((s.val : Int) / 2 ^ c.val) 2) = if s.val.testBit c.val = true then 1 else 0 := by decide +kernel
theorem rem_val (s c : Nat) (hs : s < 128) (hc : c < 7) : Int.tmod ((s : Int) / 2 ^ c) 2 = if s.testBit c = true then 1 else 0 := remv_all ⟨s, hs⟩ ⟨c, hc⟩
/-- What one adds, up to a set. -/
def sumS (E : Int) (xs : List Int) (i k : Nat) : Int := isum ((List.range k).map fun s => addsP E xs i s)
theorem sumS_succ (E : Int) (xs : List Int) (i k : Nat) : sumS E xs i (k + 1) = sumS E xs i k + addsP E xs i k := by
  unfold sumS; rw [range_snoc, isum_append, isum_cons, isum_nil]; omega
theorem fact_le6 {n : Nat} (h : n ≤ 7) : (fact n : Int) ≤ 5040 := by have := fact_seven h; omega
theorem adds_bounds (E : Int) (xs : List Int) (hu : Upto 100000 xs) (hE : 0 ≤ E ∧ E ≤ 100000) (h7 : xs.length ≤ 7) (i s : Nat) (hs : s < 2 ^ xs.length) (hi : i < xs.length) :
    -2540160000000 ≤ addsP E xs i s ∧ addsP E xs i s ≤ 2540160000000 := by
  unfold addsP
  cases hb : s.testBit i with
  | true => simp
  | false =>
    rw [if_neg (by simp), add_or hb]
    have g1 := gameP_at E xs hu hE s hs
    have g2 := gameP_at E xs hu hE (s ||| 2 ^ i) (Nat.or_lt_two_pow hs (Nat.pow_lt_pow_right (by omega) hi))
    have m := many1_le s xs.length
    have f1 := fact_le6 (n := many1 s xs.length) (by omega)
    have f2 := fact_le6 (n := xs.length - 1 - many1 s xs.length) (by omega)
    generalize ith (gameP E xs) s = a at *
    generalize ith (gameP E xs) (s ||| 2 ^ i) = b at *
    generalize fact (many1 s xs.length) = p at *
    generalize fact (xs.length - 1 - many1 s xs.length) = q at *
    have h1 : (p : Int) * q ≤ 5040 * 5040 := Int.mul_le_mul f1 f2 (by omega) (by omega)
    have h2 : 0 ≤ (p : Int) * q := Int.mul_nonneg (by omega) (by omega)
    generalize (p : Int) * q = pq at *
    have h3 : pq * (b - a) ≤ pq * 100000 := Int.mul_le_mul_of_nonneg_left (by omega) h2
    have h4 : pq * (-100000) ≤ pq * (b - a) := Int.mul_le_mul_of_nonneg_left (by omega) h2
    omega
theorem sumS_bounds (E : Int) (xs : List Int) (hu : Upto 100000 xs) (hE : 0 ≤ E ∧ E ≤ 100000) (h7 : xs.length ≤ 7) (i : Nat) (hi : i < xs.length) : ∀ k : Nat, k ≤ 2 ^ xs.length → -2540160000000 * (k : Int) ≤ sumS E xs i k ∧ sumS E xs i k ≤ 2540160000000 * k
  | 0, _ => by simp [sumS, isum_nil]
  | k + 1, h => by
    have h1 := sumS_bounds E xs hu hE h7 i hi k (by omega)
    have h2 := adds_bounds E xs hu hE h7 i k (by omega) hi
    rw [sumS_succ]
    omega
theorem many1_succ (s k : Nat) : (many1 s (k + 1) : Int) = (many1 s k : Int) + if s.testBit k = true then 1 else 0 := by
  rw [many1]
  cases s.testBit k <;> simp
theorem p2 {w w' : World} {zb zo yo : Nat} {z y : Value} (hz : w.cell? ⟨zb, zo, none⟩ = some z) (hy : w.cell? ⟨zb, yo, none⟩ = some y) (hb : zb < w.heap.size) (hx : Ext w w') :
    (w'.cell? ⟨zb, zo, none⟩ = some z) ∧ (w'.cell? ⟨zb, yo, none⟩ = some y) :=
  ⟨(hx.cell (p := ⟨zb, zo, none⟩) hb).trans hz, (hx.cell (p := ⟨zb, yo, none⟩) hb).trans hy⟩
set_option maxRecDepth 100000 in
set_option maxHeartbeats 4000000 in
theorem quotaShapley_law (hA : AliveOK) (w : World) (E : Int) (ao : Option Addr) (cap : Nat) (xs : List Int) (hI : IntsIn w ao xs) :
    Calls Try.prog 11 #[.int .i64 E, .slice ao xs.length cap] w (TrueRes w) := by
  go_enter Try.func11, Try.ntmps11
  go_wp2_with fail
  refine (few_calls _ ao xs.length cap).mono ?_
  rintro e w2 ⟨rfl, hx2⟩
  cases hd : decide (xs.length ≤ 40) with
  | false =>
    go_wp2_with fail
    refine (hA w _ hx2).mono ?_
    rintro e w9 ⟨rfl, hx9⟩
    go_wp2_with fail
    go_ret
    exact ⟨rfl, hx9⟩
  | true =>
    have hl1 : xs.length ≤ 40 := by simpa using hd
    clear hd
    go_wp2_with fail
    refine (share_calls _ 4 E ao cap xs (hI.ext hx2) (by omega)).mono ?_
    rintro e w3 (⟨hn, rfl, hx3⟩ | ⟨q, v, hq, rfl, ho, hx3⟩)
    · have HN := Lib.hid hn
      clear hn
      have hx03 := hx2.trans hx3
      go_wp2_with fail
      have hx4 : Ext w (w3.alloc (Obj.cells #[.slice none 0 0, .int .i64 0] 26)) := (by repeat (first | exact Ext.refl _ | assumption | refine Ext.alloc ?_ _ | refine Ext.drewN ?_ _ | refine Ext.drew ?_))
      refine (quotaGame_calls _ E ao cap xs (hI.ext hx4) (by omega)).mono ?_
      rintro e w5 (⟨hp, rfl, hx5⟩ | ⟨hp, v, rfl, ho, hx5⟩)
      · clear hp HN
        have hx05 := hx4.trans hx5
        go_wp2_with fail
        refine (hA w _ hx05).mono ?_
        rintro e w9 ⟨rfl, hx9⟩
        go_wp2_with fail
        go_ret
        exact ⟨rfl, hx9⟩
      · have h1 := HN.out
        unfold shareP at h1
        rw [if_pos ⟨hp, by omega, by omega⟩] at h1
        simp at h1
    · obtain ⟨hP, hS⟩ := share_is hq
      have HM : Hid (∀ k, k < xs.length → ith q.1 k * fact xs.length = sumS E xs k (2 ^ xs.length) * q.2) := Lib.hid (fun k hk => share_shapley hq k hk)
      clear hq
      have hx03 := hx2.trans hx3
      obtain ⟨so, sc, rfl, hSI, -⟩ := ho.intsShape
      clear ho
      obtain ⟨l, hl⟩ : ∃ l, l = q.1 := ⟨_, rfl⟩
      obtain ⟨d, hdd⟩ : ∃ d, d = q.2 := ⟨_, rfl⟩
      rw [← hl, ← hdd] at hS HM
      rw [← hl] at hSI
      rw [← hl, ← hdd]
      clear hl hdd
      go_wp2_with fail
      have hx4 : Ext w3 (w3.alloc (Obj.cells #[.slice so l.length sc, .int .i64 d] 26)) := (by repeat (first | exact Ext.refl _ | assumption | refine Ext.alloc ?_ _ | refine Ext.drewN ?_ _ | refine Ext.drew ?_))
      have hbx := PBox.new w3 26 (.slice so l.length sc) d
      obtain ⟨B, hB⟩ : ∃ B, B = w3.heap.size := ⟨_, rfl⟩
      generalize (w3.alloc (Obj.cells #[.slice so l.length sc, .int .i64 d] 26)) = w4 at *
      rw [← hB] at hbx ⊢
      clear hB
      have hx04 := hx03.trans hx4
      replace hSI := hSI.ext hx4
      refine (quotaGame_calls _ E ao cap xs (hI.ext hx04) (by omega)).mono ?_
      rintro e w5 (⟨hp, rfl, hx5⟩ | ⟨hp, v, rfl, ho, hx5⟩)
      · rw [(probB_true E xs).2 hP] at hp; simp at hp
      · clear hp
        have hx05 := hx04.trans hx5
        replace hSI := hSI.ext hx5
        replace hbx := hbx.ext hx5
        obtain ⟨q0, q1, q2⟩ := id hbx
        obtain ⟨vo, vc, rfl, hV, -⟩ := ho.intsShape
        clear ho
        obtain ⟨N, hN, HN, hNb⟩ : ∃ N : Nat, (2 : Int) ^ xs.length = N ∧ Hid (N = 2 ^ xs.length) ∧ N ≤ 128 := by
          refine ⟨2 ^ xs.length, by simp, Lib.hid rfl, ?_⟩
          have : 2 ^ xs.length ≤ 2 ^ 7 := Nat.pow_le_pow_right (by omega) hP.seven
          omega
        have hvl := gameP_length E xs
        rw [← HN.out] at hvl HM
        have HG : Hid (∀ s, s < N → 0 ≤ ith (gameP E xs) s ∧ ith (gameP E xs) s ≤ 100000) := Lib.hid (fun s h => gameP_at E xs hP.claims hP.estate s (by rw [← HN.out]; exact h))
        have HB : Hid (∀ i k : Nat, i < xs.length → k ≤ N → -2540160000000 * (k : Int) ≤ sumS E xs i k ∧ sumS E xs i k ≤ 2540160000000 * k) := Lib.hid (fun i k hi hk => sumS_bounds E xs hP.claims hP.estate hP.seven i hi k (by rw [← HN.out]; exact hk))
        have HT : Hid (∀ i s, i < xs.length → s < N → s.testBit i = false → many1 s xs.length + 1 ≤ xs.length ∧ s + 2 ^ i < N ∧ addsP E xs i s = (fact (many1 s xs.length) : Int) * fact (xs.length - 1 - many1 s xs.length) * (ith (gameP E xs) (s + 2 ^ i) - ith (gameP E xs) s)) := Lib.hid (fun i s hi hs hb => by
          refine ⟨by have := many_others (n := xs.length) (by rw [← HN.out]; exact hs) hb xs.length (Nat.le_refl _); rw [if_pos hi] at this; omega, by rw [add_or hb, HN.out]; exact Nat.or_lt_two_pow (by rw [← HN.out]; exact hs) (Nat.pow_lt_pow_right (by omega) hi), ?_⟩
          unfold addsP
          rw [if_neg (by simp [hb])])
        have HZ : Hid (∀ i s, s.testBit i = true → addsP E xs i s = 0) := Lib.hid (fun i s hb => by unfold addsP; rw [if_pos hb])
        have HU := Lib.hid (is_upto hS hP.claims)
        have hll := hS.len
        have hdn := hS.den
        have hx7 := hP.seven
        obtain ⟨vs, hvs⟩ : ∃ vs, vs = gameP E xs := ⟨_, rfl⟩
        rw [← hvs] at hvl hV HG HT ⊢
        clear hvs
        have hV' : ∀ k, k < N → ∃ b off, vo = some ⟨b, off, none⟩ ∧ b < w5.heap.size ∧ w5.cell? ⟨b, off + k, none⟩ = some (.int .i64 (ith vs k)) := fun k hk => hV k (by omega)
        rw [hvl]
        clear hvl hV hP hS
        have HLL := Lib.hid hll
        clear hll
        go_wp2_with fail
        refine (shaped_calls _ so sc l d xs.length).mono ?_
        rintro e w6 ⟨rfl, hx6⟩
        have hsh : decide (l.length = xs.length ∧ 0 < d) = true := by have := HLL.out; simp; omega
        rw [hsh]
        clear hsh
        have hx06 := hx05.trans hx6
        replace hSI := hSI.ext hx6
        replace hbx := hbx.ext hx6
        replace hV' : ∀ k, k < N → ∃ b off, vo = some ⟨b, off, none⟩ ∧ b < w6.heap.size ∧ w6.cell? ⟨b, off + k, none⟩ = some (.int .i64 (ith vs k)) := fun k hk => by
          obtain ⟨b, off, h1, h2, h3⟩ := hV' k hk
          exact ⟨b, off, h1, Nat.lt_of_lt_of_le h2 hx6.size, (hx6.cell (p := ⟨b, off + k, none⟩) h2).trans h3⟩
        clear q0 q1 q2
        go_wp2_with fail
        go_loopw [10] (fun i wr => ∃ k : Nat, k ≤ xs.length ∧ i = .int .i64 k ∧ Ext w6 wr) (fun i _ => xs.length - (intOf i).toNat)
        case atStart => exact ⟨0, by omega, rfl, Ext.refl _⟩
        case round =>
          rename World => wr
          obtain ⟨i, hi, rfl, hx⟩ := hrel
          by_cases hlt : i < xs.length
          · go_wp2_with fail
            go_loopw [11, 12] (fun sv s ws => ∃ j : Nat, j ≤ N ∧ s = .int .i64 j ∧ sv = .int .i64 (sumS E xs i j) ∧ Ext wr ws) (fun _ s _ => N - (intOf s).toNat)
            case atStart => exact ⟨0, by omega, rfl, by simp [sumS, isum_nil], Ext.refl _⟩
            case round =>
              rename World => ws
              obtain ⟨j, hj, rfl, rfl, hx2⟩ := hrel
              have hx6s := hx.trans hx2
              have hsb := HB.out i j hlt hj
              by_cases hlt2 : j < N
              · have hbt := rem_test j i (by omega) (by omega)
                have hss := Lib.hid (sumS_succ E xs i j)
                cases hb : j.testBit i with
                | true =>
                  rw [hb] at hbt
                  have HZ2 := Lib.hid (HZ.out i j hb)
                  clear hb
                  go_wp2_with fail
                  exact ⟨⟨j + 1, by omega, rfl, by rw [hss.out, HZ2.out, Int.add_zero], hx2⟩, by simp only [intOf]; omega⟩
                | false =>
                  rw [hb] at hbt
                  obtain ⟨hmn, hsl, hse⟩ := HT.out i j hlt hlt2 hb
                  clear hb
                  obtain ⟨P, hP, HP⟩ : ∃ P : Nat, (2 : Int) ^ i = P ∧ Hid (P = 2 ^ i) := ⟨2 ^ i, by simp, Lib.hid rfl⟩
                  rw [hP] at hbt
                  rw [← HP.out] at hsl hse
                  obtain ⟨T, hT⟩ : ∃ T : Nat, j + P = T := ⟨_, rfl⟩
                  rw [hT] at hsl hse
                  have hTi : (j : Int) + (P : Int) = (T : Int) := by omega
                  have HTi := Lib.hid hT
                  clear hT
                  have HSE := Lib.hid hse
                  clear hse
                  go_wp2_with fail
                  go_loopw [13, 14] (fun mv k wt => ∃ c : Nat, c ≤ xs.length ∧ k = .int .i64 c ∧ mv = .int .i64 (many1 j c) ∧ Ext ws wt) (fun _ k _ => xs.length - (intOf k).toNat)
                  case atStart => exact ⟨0, by omega, rfl, rfl, Ext.refl _⟩
                  case round =>
                    rename World => wt
                    obtain ⟨c, hc, rfl, rfl, hx3⟩ := hrel
                    have hmc := many1_le j c
                    by_cases hlt3 : c < xs.length
                    · have hrv := rem_val j c (by omega) (by omega)
                      have hup := many1_succ j c
                      obtain ⟨y, hy⟩ : ∃ y : Int, (if j.testBit c = true then 1 else 0) = y := ⟨_, rfl⟩
                      obtain ⟨m, hm⟩ : ∃ m, many1 j c = m := ⟨_, rfl⟩
                      rw [hy] at hrv hup
                      rw [hm] at hup hmc ⊢
                      have hy2 : 0 ≤ y ∧ y ≤ 1 := by rw [← hy]; split <;> omega
                      have HUP := Lib.hid hup
                      clear hup hy hm
                      go_wp2_with fail
                      exact ⟨⟨c + 1, by omega, rfl, by rw [HUP.out], hx3⟩, by simp only [intOf]; omega⟩
                    · obtain rfl : c = xs.length := by omega
                      obtain ⟨vb, voff, rfl, hvb, hvc⟩ := hV' j hlt2
                      obtain ⟨vb2, voff2, he2, hvb2, hvc2⟩ := hV' T hsl
                      simp only [Option.some.injEq, Addr.mk.injEq, and_true] at he2
                      obtain ⟨rfl, rfl⟩ := he2
                      have hx6t := hx6s.trans hx3
                      replace hvc := (hx6t.cell (p := ⟨vb, voff + j, none⟩) hvb).trans hvc
                      replace hvc2 := (hx6t.cell (p := ⟨vb, voff + T, none⟩) hvb).trans hvc2
                      replace hvb := Nat.lt_of_lt_of_le hvb hx6t.size
                      clear hvb2
                      have g1 := HG.out j hlt2
                      have g2 := HG.out T hsl
                      have hsb2 := HB.out i (j + 1) hlt (by omega)
                      rw [hss.out, HSE.out] at hsb2
                      obtain ⟨M, hM⟩ : ∃ M, many1 j xs.length = M := ⟨_, rfl⟩
                      rw [hM] at hmn hsb2 hmc ⊢
                      have HSE2 : Hid (addsP E xs i j = (fact M : Int) * fact (xs.length - 1 - M) * (ith vs T - ith vs j)) := Lib.hid (by rw [← hM]; exact HSE.out)
                      clear hM HSE
                      obtain ⟨R, hR⟩ : ∃ R, xs.length - 1 - M = R := ⟨_, rfl⟩
                      rw [hR] at hsb2 HSE2
                      have hRi : (xs.length : Int) - 1 - (M : Int) = (R : Int) := by omega
                      have hR7 : R ≤ 7 := by omega
                      clear hR
                      have hf1 := fun W => factorial_calls W M (by omega)
                      have hf2 := fun W => factorial_calls W R hR7
                      have hb1 := fact_le6 (n := M) (by omega)
                      have hb2 := fact_le6 (n := R) (by omega)
                      obtain ⟨p, hp⟩ : ∃ p, fact M = p := ⟨_, rfl⟩
                      obtain ⟨r, hr⟩ : ∃ r, fact R = r := ⟨_, rfl⟩
                      simp only [hp] at hf1 hb1 hsb2 HSE2
                      simp only [hr] at hf2 hb2 hsb2 HSE2
                      clear hp hr
                      have h1 : (p : Int) * r ≤ 5040 * 5040 := Int.mul_le_mul hb1 hb2 (by omega) (by omega)
                      have h2 : 0 ≤ (p : Int) * r := Int.mul_nonneg (by omega) (by omega)
                      have hw1 : IntKind.i64.wrap ((p : Int) * r) = (p : Int) * r := by rw [IntKind.wrap_i64]; omega
                      obtain ⟨pr, hpr⟩ : ∃ pr, (p : Int) * r = pr := ⟨_, rfl⟩
                      rw [hpr] at h1 h2 hw1 hsb2
                      have HSE3 : Hid (addsP E xs i j = pr * (ith vs T - ith vs j)) := Lib.hid (by rw [← hpr]; exact HSE2.out)
                      have HPR := Lib.hid hpr
                      clear HSE2 hpr
                      have h3 : pr * (ith vs T - ith vs j) ≤ pr * 100000 := Int.mul_le_mul_of_nonneg_left (by omega) h2
                      have h4 : pr * (-100000) ≤ pr * (ith vs T - ith vs j) := Int.mul_le_mul_of_nonneg_left (by omega) h2
                      have hw2 : IntKind.i64.wrap (pr * (ith vs T - ith vs j)) = pr * (ith vs T - ith vs j) := by rw [IntKind.wrap_i64]; omega
                      obtain ⟨z, hz⟩ : ∃ z, pr * (ith vs T - ith vs j) = z := ⟨_, rfl⟩
                      rw [hz] at hsb2 hw2
                      have HZ3 : Hid (addsP E xs i j = z) := Lib.hid (by rw [← hz]; exact HSE3.out)
                      have HZZ := Lib.hid hz
                      clear HSE3 hz h3 h4
                      have hw3 : IntKind.i64.wrap (T : Int) = (T : Int) := by rw [IntKind.wrap_i64]; omega
                      have hw4 : IntKind.i64.wrap (P : Int) = (P : Int) := by rw [IntKind.wrap_i64]; omega
                      have hw5 : IntKind.i64.wrap ((xs.length : Int) - 1) = (xs.length : Int) - 1 := by rw [IntKind.wrap_i64]; omega
                      have hw6 : IntKind.i64.wrap (R : Int) = (R : Int) := by rw [IntKind.wrap_i64]; omega
                      have hw7 : IntKind.i64.wrap (ith vs T - ith vs j) = ith vs T - ith vs j := by rw [IntKind.wrap_i64]; omega
                      have hw8 : IntKind.i64.wrap (sumS E xs i j + z) = sumS E xs i j + z := by rw [IntKind.wrap_i64]; omega
                      have hj0 : (0 : Int) ≤ (j : Int) := by omega
                      have hj1 : (j : Int) < (N : Int) := by omega
                      have hT0 : (0 : Int) ≤ (T : Int) := by omega
                      have hT1 : (T : Int) < (N : Int) := by omega
                      go_wp2_with fail
                      go_region_held3 (fun w' => (w'.cell? ⟨vb, voff + T, none⟩ = some (.int .i64 (ith vs T))) ∧ (w'.cell? ⟨vb, voff + j, none⟩ = some (.int .i64 (ith vs j))))
                        (first | with_reducible exact p2 hvc2 hvc hvb hxk2 | with_reducible exact p2 hvc2 hvc hvb hxk1 | with_reducible exact p2 hvc2 hvc hvb ((Ext.refl _).drew))
                        ((first
                          | (go_at_call 35; have hxg := hxk1; clear hxg; refine (hf2 _).mono ?_; rintro e v2 ⟨rfl, hx12⟩; have hxk2 := hxk1.trans hx12)
                          | (go_at_call 35; refine (hf1 _).mono ?_; rintro e v1 ⟨rfl, hx11⟩; have hxk1 := Ext.trans ((Ext.refl _).drew) hx11)))
                      go_wp2_with fail
                      exact ⟨⟨j + 1, by omega, rfl, by rw [HPR.out, hw1, HZZ.out, hw2, hw8, hss.out, HZ3.out], (hx2.trans hx3).trans hxk2⟩, by simp only [intOf]; omega⟩
              · obtain rfl : j = N := by omega
                have hb1 := hbx.ext hx6s
                have hk1 : i < l.length := by have := HLL.out; omega
                have u1 := HU.out.at_ i hk1
                have hfa := fact_le6 hx7
                have hfp := fact_pos xs.length
                obtain ⟨z, hz⟩ : ∃ z, sumS E xs i j = z := ⟨_, rfl⟩
                have hmi := HM.out i hlt
                rw [hz] at hsb hmi ⊢
                clear hz
                have hfc := fun W => factorial_calls W xs.length hx7
                obtain ⟨fa, hfe⟩ : ∃ fa, fact xs.length = fa := ⟨_, rfl⟩
                simp only [hfe] at hfc hfa hfp hmi
                clear hfe
                have hc0 : cmpQ (Rat.divInt (ith l i) d) (Rat.divInt z fa) = 0 := cmpQ_same ((Rat.divInt_eq_divInt_iff (by omega) (by omega)).2 hmi)
                clear hmi
                obtain ⟨q0, q1, q2⟩ := id hb1
                go_wp2_with fail
                refine (part_calls _ so sc l d i l.length (hSI.ext hx6s) rfl hk1 (by omega) (by omega)).mono ?_
                rintro e v1 ⟨nb1, zo1, A1, zc1, mb1, yo1, B1, yc1, rfl, hR1, hbk1, hbm1, hx11⟩
                go_wp2_with fail
                refine (hfc _).mono ?_
                rintro e v2 ⟨rfl, hx12⟩
                go_wp2_with fail
                refine (frac_calls _ z fa (by omega) (by omega) (by omega)).mono ?_
                rintro e v3 ⟨nb2, zo2, A2, zc2, mb2, yo2, B2, yc2, rfl, hR2, hbk2, hbm2, hx13⟩
                go_wp2_with fail
                refine (cmp_calls _ nb1 mb1 nb2 mb2 zo1 yo1 zo2 yo2 A1 zc1 B1 yc1 A2 zc2 B2 yc2 _ _ ((hR1.ext hx12).ext hx13) hR2 (fine_small (by omega) (by omega) (by omega)) (fine_small (by omega) (by omega) (by omega))).mono ?_
                rintro e v4 ⟨rfl, hx14⟩
                rw [hc0]
                go_wp2_with fail
                exact ⟨⟨i + 1, by omega, rfl, hx6s.trans (((hx11.trans hx12).trans hx13).trans hx14)⟩, by simp only [intOf]; omega⟩
          · obtain rfl : i = xs.length := by omega
            have hx0r := hx06.trans hx
            go_wp2_with fail
            refine (hA w _ hx0r).mono ?_
            rintro e w9 ⟨rfl, hx9⟩
            go_wp2_with fail
            go_ret
            exact ⟨rfl, hx9⟩
end Go.Proofs.Ytcngecibljgndaa
