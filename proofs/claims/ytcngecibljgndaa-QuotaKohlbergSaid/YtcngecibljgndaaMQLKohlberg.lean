/- QuotaKohlberg: the walk. -/
import Derived.Test.YtcngecibljgndaaMNH
import Derived.Test.YtcngecibljgndaaMNL
import Derived.Test.YtcngecibljgndaaMQOpen
import Derived.Test.YtcngecibljgndaaMQT
import Derived.Test.YtcngecibljgndaaMQW
namespace Go.Proofs.Ytcngecibljgndaa
open Go.RowKit Go.Shelf

theorem excP_ith (E d : Int) (xs l : List Int) (s : Nat) (h : s + 2 < 2 ^ xs.length) : ith (excP E xs l d) s = takeP (ith (gameP E xs) (s + 1) * d) l (s + 1) l.length := by
  unfold excP
  exact ith_map_range _ _ _ (by omega)
set_option maxRecDepth 100000 in
set_option maxHeartbeats 4000000 in
theorem quotaKohlberg_law (hA : AliveOK) (w : World) (E : Int) (ao lo : Option Addr) (cap lcap : Nat) (xs l : List Int) (d : Int) (hI : IntsIn w ao xs) (hJ : IntsIn w lo l) :
    Calls Try.prog 18 #[.int .i64 E, .slice ao xs.length cap, .agg #[.slice lo l.length lcap, .int .i64 d]] w (TrueRes w) := by
  obtain ⟨i0, hi, hz0, hz1, hz2⟩ := info_parts info_int
  by_cases h5 : 5 < xs.length
  · go_enter Try.func18, Try.ntmps18
    go_wp2_with fail
    have hx1 : Ext w (w.alloc (Obj.cells #[.slice lo l.length lcap, .int .i64 d] 26)) := (by repeat (first | exact Ext.refl _ | assumption | refine Ext.alloc ?_ _ | refine Ext.drewN ?_ _ | refine Ext.drew ?_))
    refine (hA w _ hx1).mono ?_
    rintro e w99 ⟨rfl, hx99⟩
    go_wp2_with fail
    go_ret
    exact ⟨rfl, hx99⟩
  go_enter Try.func18, Try.ntmps18
  go_wp2_with fail
  have hx1 : Ext w (w.alloc (Obj.cells #[.slice lo l.length lcap, .int .i64 d] 26)) := (by repeat (first | exact Ext.refl _ | assumption | refine Ext.alloc ?_ _ | refine Ext.drewN ?_ _ | refine Ext.drew ?_))
  have hbx := PBox.new w 26 (.slice lo l.length lcap) d
  obtain ⟨B, hB⟩ : ∃ B, B = w.heap.size := ⟨_, rfl⟩
  generalize (w.alloc (Obj.cells #[.slice lo l.length lcap, .int .i64 d] 26)) = w1 at *
  rw [← hB] at hbx ⊢
  clear hB
  refine (few_calls _ lo l.length lcap).mono ?_
  rintro e w3 ⟨rfl, hx3⟩
  have hx13 := hx1.trans hx3
  have hb3 := hbx.ext hx3
  obtain ⟨q0, q1, q2⟩ := id hb3
  cases hd2 : decide (l.length ≤ 40) with
  | false =>
    go_wp2_with fail
    refine (hA w _ hx13).mono ?_
    rintro e w99 ⟨rfl, hx99⟩
    go_wp2_with fail
    go_ret
    exact ⟨rfl, hx99⟩
  | true =>
    have hl2 : l.length ≤ 40 := by simpa using hd2
    clear hd2
    have hnc := fun W h1 h2 => nucleolusA_calls W E ao lo cap lcap xs l d h1 h2 (by omega) (by omega)
    go_wp2_with fail
    refine (hnc _ (hI.ext hx13) (hJ.ext hx13)).mono ?_
    rintro e w4 hres4
    have hec := fun W h1 h2 => quotaExcesses_calls W E ao lo cap lcap xs l d h1 h2 (by omega) (by omega)
    have hgc := fun W h1 => quotaGame_calls W E ao cap xs h1 (by omega)
    clear hnc q0 q1 q2
    rcases hres4 with ⟨hno, rfl, hx4⟩ | ⟨hP, rfl, hx4⟩
    · have hx14 := hx13.trans hx4
      have hb4 := hb3.ext hx4
      obtain ⟨q0, q1, q2⟩ := id hb4
      have HNP : Hid (probB E xs = false) := Lib.hid (by
        cases hp : probB E xs with
        | false => rfl
        | true => exact absurd ((probB_true E xs).1 hp) hno)
      clear hno
      go_wp2_with fail
      refine (hec _ (hI.ext hx14) (hJ.ext hx14)).mono ?_
      rintro e w5 (⟨-, rfl, hx5⟩ | ⟨hb1, -⟩)
      · have hx15 := hx14.trans hx5
        clear hec q0 q1 q2
        go_wp2_with fail
        refine (hgc _ (hI.ext hx15)).mono ?_
        rintro e w6 (⟨-, rfl, hx6⟩ | ⟨hb1, -⟩)
        · have hx16 := hx15.trans hx6
          clear hgc
          go_wp2_with fail
          refine (hA w _ hx16).mono ?_
          rintro e w99 ⟨rfl, hx99⟩
          go_wp2_with fail
          go_ret
          exact ⟨rfl, hx99⟩
        · rw [HNP.out] at hb1; simp at hb1
      · rw [HNP.out] at hb1; simp at hb1
    · have hx14 := hx13.trans hx4
      have hb4 := hb3.ext hx4
      obtain ⟨q0, q1, q2⟩ := id hb4
      have HP := Lib.hid hP
      clear hP
      obtain ⟨nb, hnb⟩ : ∃ nb, nb = nucB E xs l d := ⟨_, rfl⟩
      rw [← hnb]
      have HNB := Lib.hid hnb
      clear hnb
      go_wp2_with fail
      refine (hec _ (hI.ext hx14) (hJ.ext hx14)).mono ?_
      rintro e w5 (⟨hb0, rfl, hx5⟩ | ⟨hb1, v5, rfl, ho5, hx5⟩)
      · have hx15 := hx14.trans hx5
        have hnbf : nb = false := by
          rw [(probB_true E xs).2 HP.out, Bool.true_and] at hb0
          rw [HNB.out, nucB, hb0]; rfl
        subst hnbf
        clear hec hb0 q0 q1 q2
        go_wp2_with fail
        refine (hgc _ (hI.ext hx15)).mono ?_
        rintro e w6 (⟨hb1, rfl, hx6⟩ | ⟨-, v6, rfl, ho6, hx6⟩)
        · rw [(probB_true E xs).2 HP.out] at hb1; simp at hb1
        · have hx16 := hx15.trans hx6
          obtain ⟨vo, vc, rfl, -, -⟩ := ho6.intsShape
          clear hgc ho6
          go_wp2_with fail
          refine (hA w _ hx16).mono ?_
          rintro e w99 ⟨rfl, hx99⟩
          go_wp2_with fail
          go_ret
          exact ⟨rfl, hx99⟩
      · have hx15 := hx14.trans hx5
        have hib := (Bool.and_eq_true _ _ ▸ hb1 : _ ∧ _).2
        have HS := Lib.hid (isB_true hib)
        have HIB := Lib.hid hib
        clear hec hb1 hib q0 q1 q2
        obtain ⟨eo, ec, rfl, hE5, -⟩ := ho5.intsShape
        clear ho5
        go_wp2_with fail
        refine (hgc _ (hI.ext hx15)).mono ?_
        rintro e w6 (⟨hb1, rfl, hx6⟩ | ⟨-, v6, rfl, ho6, hx6⟩)
        · rw [(probB_true E xs).2 HP.out] at hb1; simp at hb1
        have hx16 := hx15.trans hx6
        have hb6 := (hb4.ext hx5).ext hx6
        obtain ⟨q0, q1, q2⟩ := id hb6
        replace hE5 := hE5.ext hx6
        obtain ⟨vo, vc, rfl, hV, -⟩ := ho6.intsShape
        clear hgc ho6
        have hsc := refIsShares_calls w6 E ao lo cap lcap xs l d (hI.ext hx16) (hJ.ext hx16) HP.out.seven HP.out.claims HP.out.estate (by omega)
        rw [HIB.out] at hsc
        have hvl := gameP_length E xs
        obtain ⟨N, hN, HN, hNb, hN2⟩ : ∃ N : Nat, (2 : Int) ^ xs.length = N ∧ Hid (N = 2 ^ xs.length) ∧ N ≤ 32 ∧ 2 ≤ N := by
          refine ⟨2 ^ xs.length, by simp, Lib.hid rfl, ?_, ?_⟩
          · have : 2 ^ xs.length ≤ 2 ^ 5 := Nat.pow_le_pow_right (by omega) (by omega)
            omega
          · have : 2 ^ 1 ≤ 2 ^ xs.length := Nat.pow_le_pow_right (by omega) HP.out.one
            omega
        rw [← HN.out] at hvl
        have HG : Hid (∀ s, s < N → 0 ≤ ith (gameP E xs) s ∧ ith (gameP E xs) s ≤ 100000) := Lib.hid (fun s h => gameP_at E xs HP.out.claims HP.out.estate s (by rw [← HN.out]; exact h))
        have HZL : Hid ((excP E xs l d).length = N - 2) := Lib.hid (by rw [excP_length, HN.out])
        have HZ : Hid (∀ s, s + 2 < N → ith (excP E xs l d) s = takeP (ith (gameP E xs) (s + 1) * d) l (s + 1) l.length) := Lib.hid (fun s hs => excP_ith E d xs l s (by rw [← HN.out]; exact hs))
        have HLB : Hid (∀ k, k < (sortD (excP E xs l d)).length → -1000000000000000000 ≤ ith (sortD (excP E xs l d)) k ∧ ith (sortD (excP E xs l d)) k ≤ 1000000000000000000) := Lib.hid (fun k hk => by
          have := excP_bd HP.out HS.out (ith (sortD (excP E xs l d)) k) ((sortD_perm _).mem_iff.1 (by rw [ith_get _ hk]; exact List.getElem_mem _))
          unfold BdI at this; omega)
        have HLL : Hid ((sortD (excP E xs l d)).length = N - 2) := Lib.hid (by rw [sortD_length, excP_length, HN.out])
        have HNBK : Hid (nb = true ↔ ∀ k, k < (sortD (excP E xs l d)).length → Bal xs.length (thrL (excP E xs l d) (ith (sortD (excP E xs l d)) k) (N - 2))) := Lib.hid (by
          rw [HNB.out, ← KP_nuc HP.out HS.out, ← bal_sorted, HZL.out])
        obtain ⟨vs, hvs⟩ : ∃ vs, vs = gameP E xs := ⟨_, rfl⟩
        obtain ⟨zl, hzl⟩ : ∃ zl, zl = excP E xs l d := ⟨_, rfl⟩
        rw [← hvs] at hV hvl HG HZ ⊢
        rw [← hzl] at HZL HZ HLB HLL HNBK hE5 ⊢
        clear hvs hzl
        obtain ⟨L, hL⟩ : ∃ L, L = sortD zl := ⟨_, rfl⟩
        rw [← hL] at HLB HLL HNBK hE5 ⊢
        clear hL
        have hLL := HLL.out
        have hdn := HS.out.den
        have HSL := Lib.hid HS.out.len
        have HL := Lib.hid (is_upto HS.out HP.out.claims)
        have h1x := HP.out.one
        rw [hvl]
        have hV' : ∀ k, k < N → ∃ b off, vo = some ⟨b, off, none⟩ ∧ b < w6.heap.size ∧ w6.cell? ⟨b, off + k, none⟩ = some (.int .i64 (ith vs k)) := fun k hk => hV k (by omega)
        have hE' : ∀ k, k < N - 2 → ∃ b off, eo = some ⟨b, off, none⟩ ∧ b < w6.heap.size ∧ w6.cell? ⟨b, off + k, none⟩ = some (.int .i64 (ith L k)) := fun k hk => hE5 k (by omega)
        rw [hLL]
        clear hvl hV hE5 hLL
        go_wp2_with fail
        refine hsc.mono ?_
        rintro e w7 ⟨rfl, hx7⟩
        have hx17 := hx16.trans hx7
        have hb7 := hb6.ext hx7
        clear q0 q1 q2 hsc
        replace hV' : ∀ k, k < N → ∃ b off, vo = some ⟨b, off, none⟩ ∧ b < w7.heap.size ∧ w7.cell? ⟨b, off + k, none⟩ = some (.int .i64 (ith vs k)) := fun k hk => by
          obtain ⟨b, off, h1, h2, h3⟩ := hV' k hk
          exact ⟨b, off, h1, Nat.lt_of_lt_of_le h2 hx7.size, (hx7.cell (p := ⟨b, off + k, none⟩) h2).trans h3⟩
        replace hE' : ∀ k, k < N - 2 → ∃ b off, eo = some ⟨b, off, none⟩ ∧ b < w7.heap.size ∧ w7.cell? ⟨b, off + k, none⟩ = some (.int .i64 (ith L k)) := fun k hk => by
          obtain ⟨b, off, h1, h2, h3⟩ := hE' k hk
          exact ⟨b, off, h1, Nat.lt_of_lt_of_le h2 hx7.size, (hx7.cell (p := ⟨b, off + k, none⟩) h2).trans h3⟩
        go_wp2_with fail
        go_loopw [14, 15] (fun av iv wr => ∃ (k : Nat) (b : Bool), k ≤ N - 2 ∧ iv = .int .i64 k ∧ av = .bool b ∧ Ext w7 wr ∧ Hid (b = true ↔ ∀ j, j < k → Bal xs.length (thrL zl (ith L j) (N - 2)))) (fun _ iv _ => N - (intOf iv).toNat)
        case atStart => exact ⟨0, true, by omega, rfl, rfl, Ext.refl _, Lib.hid ⟨fun _ j hj => by omega, fun _ => rfl⟩⟩
        case round =>
          rename World => wr
          obtain ⟨k, b, hk, rfl, rfl, hx, HB⟩ := hrel
          by_cases hlt : k < N - 2
          · obtain ⟨eb, ef, rfl, heb, hec⟩ := hE' k hlt
            have hek := HLB.out k (by rw [HLL.out]; exact hlt)
            have hkz : (k : Int) < ((N - 2 : Nat) : Int) := by omega
            obtain ⟨W, hW⟩ : ∃ W, W ≤ wr.heap.size ∧ wr.heap.size ≤ W := ⟨_, Nat.le_refl _, Nat.le_refl _⟩
            go_wp2_with fail
            go_loopw [16, 17] (fun sv iv ws => ∃ s : Nat, s + 2 ≤ N ∧ iv = .int .i64 ((s : Int) + 1) ∧ Ext wr ws ∧ Own ws W 1 sv (ints (thrL zl (ith L k) s))) (fun _ iv _ => N - (intOf iv).toNat)
            case atStart => exact ⟨0, by omega, rfl, Ext.refl _, Own.nil _ _ _⟩
            case round =>
              rename World => ws
              obtain ⟨s, hs, rfl, hxr, hos⟩ := hrel
              have hxs := hx.trans hxr
              by_cases hlt2 : s + 2 < N
              · obtain ⟨vb, voff, rfl, hvb, hvc⟩ := hV' (s + 1) (by omega)
                replace hvc := (hxs.cell (p := ⟨vb, voff + (s + 1), none⟩) hvb).trans hvc
                have hvb2 : vb < ws.heap.size := Nat.lt_of_lt_of_le hvb hxs.size
                have hg := HG.out (s + 1) (by omega)
                obtain ⟨q0, q1, q2⟩ := hb7.ext hxs
                have hpr : ith vs (s + 1) * d ≤ 100000 * 1000000 := Int.mul_le_mul hg.2 hdn.2 (by omega) (by omega)
                have hpr0 : 0 ≤ ith vs (s + 1) * d := Int.mul_nonneg hg.1 (by omega)
                have hw1 : IntKind.i64.wrap (ith vs (s + 1) * d) = ith vs (s + 1) * d := by rw [IntKind.wrap_i64]; omega
                have hk1 : (0 : Int) ≤ (s : Int) + 1 := by omega
                have hk2 : (s : Int) + 1 < (N : Int) := by omega
                have hk3 : decide ((s : Int) + 1 < (N : Int) - 1) = true := by simp; omega
                have hk4 : ((s : Int) + 1).toNat = s + 1 := by omega
                have HZS := Lib.hid (HZ.out s hlt2)
                go_wp2_with fail
                go_region
                have hx8 : Ext ws ws.drew := (by repeat (first | exact Ext.refl _ | assumption | refine Ext.alloc ?_ _ | refine Ext.drewN ?_ _ | refine Ext.drew ?_))
                have hb8 := hb7.ext (hxs.trans hx8)
                have hx78 := hxs.trans hx8
                have hxr8 := hxr.trans hx8
                have hos8 := hos.ext hx8
                generalize ws.drew = w8 at *
                clear hvc hk1 hk2 hk4 hV' q0 q1 q2 hos hxs hxr
                go_wp2_with fail
                go_loopw [18, 19] (fun nv iv wt => ∃ j : Nat, j ≤ xs.length ∧ iv = .int .i64 j ∧ nv = .int .i64 (takeP (ith vs (s + 1) * d) l (s + 1) j) ∧ Ext w8 wt) (fun _ iv _ => xs.length - (intOf iv).toNat)
                case atStart => exact ⟨0, by omega, rfl, rfl, Ext.refl _⟩
                case round =>
                  rename World => wt
                  obtain ⟨j, hj, rfl, rfl, hx9⟩ := hrel
                  have hll2 := HSL.out
                  have htb := takeP_bounds (ith vs (s + 1) * d) l HL.out (s + 1) j (by omega)
                  by_cases hlt3 : j < xs.length
                  · obtain ⟨lb, lf, rfl, hlb, hlc⟩ := hJ.ext ((hx17.trans hx78).trans hx9) j (by omega)
                    have hlj := HL.out.at_ j (by omega)
                    have hjl : j < l.length := by omega
                    clear hll2
                    obtain ⟨q0, q1, q2⟩ := hb8.ext hx9
                    have hbt : (Int.tmod (((s : Int) + 1) / 2 ^ j) 2 == 1) = (s + 1).testBit j := by
                      have := rem_test (s + 1) j (by omega) (by omega)
                      simpa using this
                    cases hb : (s + 1).testBit j with
                    | true =>
                      rw [hb] at hbt
                      have HBB := Lib.hid (takeP_in (ith vs (s + 1) * d) l (s + 1) j hb)
                      clear hb
                      go_wp2_with fail
                      exact ⟨⟨j + 1, by omega, rfl, by rw [HBB.out], hx9⟩, by simp only [intOf]; omega⟩
                    | false =>
                      rw [hb] at hbt
                      have HBB := Lib.hid (takeP_out (ith vs (s + 1) * d) l (s + 1) j hb)
                      clear hb
                      go_wp2_with fail
                      exact ⟨⟨j + 1, by omega, rfl, by rw [HBB.out], hx9⟩, by simp only [intOf]; omega⟩
                  · obtain rfl : j = xs.length := by omega
                    have hx79 := hx78.trans hx9
                    have hxr9 := hxr8.trans hx9
                    have hec9 := (hx79.cell (p := ⟨eb, ef + k, none⟩) heb).trans hec
                    have heb9 : eb < wt.heap.size := Nat.lt_of_lt_of_le heb hx79.size
                    have ho3 := hos8.ext hx9
                    have hlow := ho3.lt
                    have hWt : W ≤ wt.heap.size := by have := hW.1; have := hxr9.size; omega
                    obtain ⟨n, hn⟩ : ∃ n, n = takeP (ith vs (s + 1) * d) l (s + 1) xs.length := ⟨_, rfl⟩
                    have HN2 : Hid (ith zl s = n) := Lib.hid (by rw [HZS.out, hn, hll2])
                    rw [← hn] at htb ⊢
                    clear hn hll2 hos8
                    have hsl := thrL_length zl (ith L k) s
                    obtain ⟨so, sc, hsv, -, -⟩ := ho3.intsShape
                    subst hsv
                    by_cases hge : ith L k ≤ n
                    · have HT := Lib.hid (thrL_yes zl (ith L k) s (by rw [HN2.out]; exact hge))
                      go_wp2_with (at_builtin; refine wpList_append_Own _ rfl _ _ 22 rfl 3 i0 (.int .i64 0) 1 8 Try.underlying22 hi hz0 hz1 hz2 rfl (by omega) W _ _ rfl (Own.ext ho3 ((Ext.refl _).alloc _)) (by first | omega | (simp; omega)) _ 1 1 [.int .i64 (((s : Int) + 1) : Int)] rfl rfl (one_cell _ _ _ _ (by first | rfl | simp)) (by simp [Value.oneCell']) (by rw [ints_length]; unfold maxLen; simp only [List.length_cons, List.length_nil]; omega) (by rw [ints_length]; simp only [List.length_cons, List.length_nil]; omega) ?_; intro v' w5 ho5 hg5 hb5)
                      rw [ints_snoc, ← HT.out] at ho5
                      exact ⟨⟨s + 1, by omega, by simp, (hxr9.alloc _).onto hg5 (fun q hq => by have := (hlow q hq).1; have := hW.2; omega), ho5⟩, by simp only [intOf]; omega⟩
                    · have HT := Lib.hid (thrL_no zl (ith L k) s (by rw [HN2.out]; exact hge))
                      go_wp2_with fail
                      exact ⟨⟨s + 1, by omega, by simp, hxr9, by rw [HT.out]; exact ho3⟩, by simp only [intOf]; omega⟩
              · obtain rfl : s = N - 2 := by omega
                have hk3 : decide (((N - 2 : Nat) : Int) + 1 < (N : Int) - 1) = false := by simp; omega
                have hsl := thrL_length zl (ith L k) (N - 2)
                obtain ⟨so, sc, hsv, hSI, -⟩ := hos.intsShape
                subst hsv
                have hbc := balancedG_calls ws xs.length so sc (thrL zl (ith L k) (N - 2)) hSI ⟨h1x, by omega⟩ (by omega)
                have HGS : Hid (GoodS xs.length (thrL zl (ith L k) (N - 2))) := Lib.hid (thrL_good ⟨h1x, by omega⟩ zl (ith L k) (by rw [← HN.out]; omega))
                clear hos
                go_wp2_with fail
                refine hbc.mono ?_
                rintro e w9 (⟨hng, -⟩ | ⟨-, hnbl, rfl, hx9⟩ | ⟨-, hbl, v9, l9, d9, hW9, rfl, ho9, hx9⟩)
                · exact absurd HGS.out hng
                · have hx79 := hxs.trans hx9
                  have HB2 : Hid (false = true ↔ ∀ j, j < k + 1 → Bal xs.length (thrL zl (ith L j) (N - 2))) := Lib.hid ⟨fun h => by simp at h, fun h => absurd (h k (by omega)) (by simpa using hnbl)⟩
                  clear hbc hnbl
                  have hxa : Ext w7 (w9.alloc (Obj.cells #[.slice none 0 0, .int .i64 0] 26)) := (by repeat (first | exact Ext.refl _ | assumption | refine Ext.alloc ?_ _ | refine Ext.drewN ?_ _ | refine Ext.drew ?_))
                  cases b with
                  | true =>
                    go_wp2_with fail
                    exact ⟨⟨k + 1, false, by omega, rfl, rfl, hxa, HB2⟩, by simp only [intOf]; omega⟩
                  | false =>
                    go_wp2_with fail
                    exact ⟨⟨k + 1, false, by omega, rfl, rfl, hxa, HB2⟩, by simp only [intOf]; omega⟩
                · have hx79 := hxs.trans hx9
                  obtain ⟨so9, sc9, rfl, -, -⟩ := ho9.intsShape
                  have HB2 : Hid (b = true ↔ ∀ j, j < k + 1 → Bal xs.length (thrL zl (ith L j) (N - 2))) := Lib.hid ⟨fun h j hj => by
                    rcases Nat.lt_or_ge j k with h1 | h1
                    · exact HB.out.1 h j h1
                    · obtain rfl : j = k := by omega
                      simpa using hbl, fun h => HB.out.2 (fun j hj => h j (by omega))⟩
                  clear hbc hbl ho9 hW9
                  have hxa : Ext w7 (w9.alloc (Obj.cells #[.slice so9 l9.length sc9, .int .i64 d9] 26)) := (by repeat (first | exact Ext.refl _ | assumption | refine Ext.alloc ?_ _ | refine Ext.drewN ?_ _ | refine Ext.drew ?_))
                  cases b with
                  | true =>
                    have HB3 : Hid (∀ j, j < k + 1 → Bal xs.length (thrL zl (ith L j) (N - 2))) := Lib.hid (HB2.out.1 rfl)
                    clear HB2
                    go_wp2_with fail
                    exact ⟨⟨k + 1, true, by omega, rfl, rfl, hxa, Lib.hid ⟨fun _ => HB3.out, fun _ => rfl⟩⟩, by simp only [intOf]; omega⟩
                  | false =>
                    go_wp2_with fail
                    exact ⟨⟨k + 1, false, by omega, rfl, rfl, hxa, HB2⟩, by simp only [intOf]; omega⟩
          · obtain rfl : k = N - 2 := by omega
            have hbn : b = nb := by
              have h1 := HB.out
              have h2 := HNBK.out
              rw [HLL.out] at h2
              exact Bool.eq_iff_iff.2 (h1.trans h2.symm)
            subst hbn
            have hx1r := hx17.trans hx
            have hbb : (b == b) = true := by simp
            have hkk : decide (((N - 2 : Nat) : Int) < ((N - 2 : Nat) : Int)) = false := by simp
            go_wp2_with fail
            refine (hA w _ hx1r).mono ?_
            rintro e w99 ⟨rfl, hx99⟩
            go_wp2_with fail
            go_ret
            exact ⟨rfl, hx99⟩
end Go.Proofs.Ytcngecibljgndaa

/- alive: true, without a premise. -/
namespace Go.Proofs.Ytcngecibljgndaa
open Go.RowKit Go.Shelf

theorem tabledOK : TabledOK := fun w n ao cap ss hI hl hn hs => tabled_calls w n ao cap ss hI hl hn hs
theorem aliveOK : AliveOK := fun _ w2 hx => (alive_calls tabledOK w2).mono (fun _ _ ⟨he, hx'⟩ => ⟨he, hx.trans hx'⟩)
end Go.Proofs.Ytcngecibljgndaa
