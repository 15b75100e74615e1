/- The specification's Excesses: each is put where it belongs. -/
import Derived.Test.YtcngecibljgndaaMQGA
import Derived.Test.YtcngecibljgndaaMQGB
namespace Go.Proofs.Ytcngecibljgndaa
open Go.RowKit Go.Shelf

/-- A number, put into a list at a place. -/
def insAt (L : List Int) (n : Int) (k : Nat) : List Int := L.take k ++ n :: L.drop k
theorem insAt_length (L : List Int) (n : Int) (k : Nat) : (insAt L n k).length = L.length + 1 := by
  simp only [insAt, List.length_append, List.length_take, List.length_cons, List.length_drop]; omega
theorem insAt_end (L : List Int) (n : Int) : insAt L n L.length = L ++ [n] := by simp [insAt]
theorem ith_append (a b : List Int) (q : Nat) : ith (a ++ b) q = if q < a.length then ith a q else ith b (q - a.length) := by
  unfold ith
  simp only [List.getD_eq_getElem?_getD]
  split
  · rename_i h; rw [List.getElem?_append_left h]
  · rename_i h; rw [List.getElem?_append_right (by omega)]
theorem ith_take2 (L : List Int) (k q : Nat) (h : q < k) : ith (L.take k) q = ith L q := by
  unfold ith; simp [h]
theorem ith_drop (L : List Int) (k q : Nat) : ith (L.drop k) q = ith L (k + q) := by
  unfold ith; simp [List.getElem?_drop]
theorem ith_insAt (L : List Int) (n : Int) (k q : Nat) (hk : k ≤ L.length) : ith (insAt L n k) q = if q < k then ith L q else if q = k then n else ith L (q - 1) := by
  unfold insAt
  rw [ith_append, List.length_take, Nat.min_eq_left hk]
  by_cases h1 : q < k
  · rw [if_pos h1, if_pos h1, ith_take2 _ _ _ h1]
  · rw [if_neg h1, if_neg h1]
    by_cases h2 : q = k
    · subst h2; simp [ith]
    · rw [if_neg h2]
      obtain ⟨p, rfl⟩ : ∃ p, q = k + 1 + p := ⟨q - k - 1, by omega⟩
      have e : k + 1 + p - k = p + 1 := by omega
      rw [e]
      have e2 : ith (n :: L.drop k) (p + 1) = ith (L.drop k) p := by simp [ith]
      rw [e2, ith_drop]
      congr 1; omega
theorem ext_ith {a b : List Int} (hl : a.length = b.length) (h : ∀ q, q < a.length → ith a q = ith b q) : a = b := by
  apply List.ext_getElem hl
  intro i h1 h2
  have := h i h1
  simpa [ith, h1, h2] using this
theorem insAt_swap (L : List Int) (n : Int) (j : Nat) (hj : j < L.length) : ((insAt L n (j + 1)).set (j + 1) (ith L j)).set j n = insAt L n j := by
  have hl := insAt_length L n (j + 1)
  apply ext_ith
  · rw [List.length_set, List.length_set, hl, insAt_length]
  · intro q hq
    rw [List.length_set, List.length_set, hl] at hq
    rw [ith_set _ _ _ _ (by rw [List.length_set, hl]; omega), ith_set _ _ _ _ (by rw [hl]; omega), ith_insAt _ _ _ _ (by omega), ith_insAt _ _ _ _ (by omega)]
    by_cases h1 : q = j
    · subst h1; simp
    · rw [if_neg h1]
      by_cases h2 : q = j + 1
      · subst h2
        rw [if_pos rfl, if_neg (by omega), if_neg (by omega)]; simp
      · rw [if_neg h2]
        by_cases h3 : q < j
        · rw [if_pos (by omega), if_pos h3]
        · rw [if_neg (by omega), if_neg h2, if_neg h3, if_neg h1]
theorem insAt_perm (L : List Int) (n : Int) (k : Nat) : (insAt L n k).Perm (L ++ [n]) := by
  unfold insAt
  refine List.perm_middle.trans ?_
  rw [List.take_append_drop]
  exact (List.perm_append_singleton n L).symm
theorem insAt_sorted (L : List Int) (n : Int) (k : Nat) (hs : L.Pairwise (fun x y => y ≤ x)) (hk : k ≤ L.length) (h1 : ∀ j, k ≤ j → j < L.length → ith L j < n) (h2 : k = 0 ∨ n ≤ ith L (k - 1)) : (insAt L n k).Pairwise (fun x y => y ≤ x) := by
  rw [List.pairwise_iff_getElem] at hs ⊢
  have hs' : ∀ i j, i < j → j < L.length → ith L j ≤ ith L i := fun i j hij hj => by
    have := hs i j (by omega) hj hij
    simpa [ith, hj, show i < L.length by omega] using this
  intro i j hi hj hij
  have e : ∀ q (h : q < (insAt L n k).length), (insAt L n k)[q] = ith (insAt L n k) q := fun q h => by simp [ith, h]
  rw [e, e, ith_insAt _ _ _ _ hk, ith_insAt _ _ _ _ hk]
  rw [insAt_length] at hi hj
  have hlow : k ≠ 0 → ∀ q, q < k → n ≤ ith L q := fun hk0 q hq => by
    rcases h2 with h2 | h2
    · omega
    · by_cases eq : q = k - 1
      · subst eq; exact h2
      · have := hs' q (k - 1) (by omega) (by omega); omega
  by_cases c1 : j < k
  · rw [if_pos c1, if_pos (by omega)]; exact hs' i j hij (by omega)
  · rw [if_neg c1]
    by_cases c2 : j = k
    · subst c2
      rw [if_pos rfl, if_pos hij]; exact hlow (by omega) i hij
    · rw [if_neg c2]
      by_cases c3 : i < k
      · rw [if_pos c3]; exact hs' i (j - 1) (by omega) (by omega)
      · rw [if_neg c3]
        by_cases c4 : i = k
        · rw [if_pos c4]; have := h1 (j - 1) (by omega) (by omega); omega
        · rw [if_neg c4]; exact hs' (i - 1) (j - 1) (by omega) (by omega)
theorem Own.solid {w : World} {B : Nat} {v : Value} {zs : List Int} (h : Own w B 1 v (ints zs)) (hx : 1 ≤ zs.length) : ∃ g off cap, v = .slice (some ⟨g, off, none⟩) zs.length cap ∧ B ≤ g ∧ g < w.heap.size := by
  rcases h.shape (by omega) with ⟨_, h0⟩ | ⟨g, off, cap, rfl, hb, hlt, _, _⟩
  · have : zs = [] := by simpa [ints] using h0
    subst this; simp at hx
  · exact ⟨g, off, cap, by simp [ints_length], hb, hlt⟩
/-- What both Excesses return. -/
def ExcRes (w : World) (E : Int) (xs l : List Int) (d : Int) (e : Ending) (w' : World) : Prop :=
  ((probB E xs && isB E xs l d) = false ∧ e = .returned (.tuple #[.slice none 0 0, .int .i64 2]) ∧ Ext w w') ∨
  ((probB E xs && isB E xs l d) = true ∧ ∃ v, e = .returned (.tuple #[v, .int .i64 0]) ∧ Own w' w.heap.size 1 v (ints (sortD (excP E xs l d))) ∧ Ext w w')
theorem isB_true {E : Int} {xs l : List Int} {d : Int} (h : isB E xs l d = true) : IsSh E xs l d := by simpa [isB] using h
set_option maxRecDepth 100000 in
set_option maxHeartbeats 4000000 in
theorem refExcesses_calls (w : World) (E : Int) (ao lo : Option Addr) (cap lcap : Nat) (xs l : List Int) (d : Int) (hI : IntsIn w ao xs) (hJ : IntsIn w lo l) (hll : l.length ≤ 1000000) :
    Calls Try.prog 47 #[.int .i64 E, .slice ao xs.length cap, .agg #[.slice lo l.length lcap, .int .i64 d]] w (ExcRes w E xs l d) := by
  obtain ⟨i0, hi, hz0, hz1, hz2⟩ := info_parts info_int
  go_enter Try.func47, Try.ntmps47
  go_wp2_with fail
  have hx1 : Ext w (w.alloc (Obj.cells #[.slice lo l.length lcap, .int .i64 d] 26)) := (by repeat (first | exact Ext.refl _ | assumption | refine Ext.alloc ?_ _ | refine Ext.drewN ?_ _ | refine Ext.drew ?_))
  have hbx := PBox.new w 26 (.slice lo l.length lcap) d
  obtain ⟨B, hB⟩ : ∃ B, B = w.heap.size := ⟨_, rfl⟩
  generalize (w.alloc (Obj.cells #[.slice lo l.length lcap, .int .i64 d] 26)) = w1 at *
  rw [← hB] at hbx ⊢
  clear hB
  refine (refGame_calls _ E ao cap xs (hI.ext hx1)).mono ?_
  rintro e w2 (⟨hp, rfl, hx2⟩ | ⟨hp, v, rfl, ho, hx2⟩)
  · have HP := Lib.hid hp
    clear hp
    go_wp2_with fail
    go_ret2
    exact .inl ⟨by simp [HP.out], rfl, hx1.trans hx2⟩
  · have hP := (probB_true E xs).1 hp
    have HP := Lib.hid hp
    clear hp
    have hx02 := hx1.trans hx2
    have hb2 := hbx.ext hx2
    obtain ⟨q0, q1, q2⟩ := id hb2
    obtain ⟨vo, vc, rfl, hV, -⟩ := ho.intsShape
    clear ho
    have hvl := gameP_length E xs
    obtain ⟨N, HN, hNb, hN2⟩ : ∃ N : Nat, Hid (N = 2 ^ xs.length) ∧ N ≤ 128 ∧ 2 ≤ N := by
      refine ⟨2 ^ xs.length, Lib.hid rfl, ?_, ?_⟩
      · have : 2 ^ xs.length ≤ 2 ^ 7 := Nat.pow_le_pow_right (by omega) hP.seven
        omega
      · have : 2 ^ 1 ≤ 2 ^ xs.length := Nat.pow_le_pow_right (by omega) hP.one
        omega
    rw [← HN.out] at hvl
    have HG : Hid (∀ s, s < N → 0 ≤ ith (gameP E xs) s ∧ ith (gameP E xs) s ≤ 100000) := Lib.hid (fun s h => gameP_at E xs hP.claims hP.estate s (by rw [← HN.out]; exact h))
    obtain ⟨vs, hvs⟩ : ∃ vs, vs = gameP E xs := ⟨_, rfl⟩
    rw [← hvs] at hV hvl HG ⊢
    have HVS := Lib.hid hvs
    clear hvs
    rw [hvl]
    have hV' : ∀ k, k < N → ∃ b off, vo = some ⟨b, off, none⟩ ∧ b < w2.heap.size ∧ w2.cell? ⟨b, off + k, none⟩ = some (.int .i64 (ith vs k)) := fun k hk => hV k (by omega)
    clear hvl hV
    have hsc := refIsShares_calls w2 E ao lo cap lcap xs l d (hI.ext hx02) (hJ.ext hx02) hP.seven hP.claims hP.estate hll
    have HPP := Lib.hid hP
    have h7 := hP.seven
    clear hP
    go_wp2_with fail
    refine hsc.mono ?_
    rintro e w3 ⟨rfl, hx3⟩
    have hx03 := hx02.trans hx3
    have hb3 := hb2.ext hx3
    clear q0 q1 q2 hsc
    cases hib : isB E xs l d with
    | false =>
      have HIB := Lib.hid hib
      clear hib
      go_wp2_with fail
      go_ret2
      exact .inl ⟨by simp [HIB.out], rfl, hx03⟩
    | true =>
      have hS := isB_true hib
      have HIB := Lib.hid hib
      clear hib
      have HS := Lib.hid hS
      have hd := hS.den
      have HLL := Lib.hid hS.len
      have HL := Lib.hid (is_upto hS HPP.out.claims)
      clear hS
      obtain ⟨W, hW⟩ : ∃ W, W ≤ w3.heap.size ∧ w3.heap.size ≤ W := ⟨_, Nat.le_refl _, Nat.le_refl _⟩
      replace hV' : ∀ k, k < N → ∃ b off, vo = some ⟨b, off, none⟩ ∧ b < w3.heap.size ∧ w3.cell? ⟨b, off + k, none⟩ = some (.int .i64 (ith vs k)) := fun k hk => by
        obtain ⟨b, off, h1, h2, h3⟩ := hV' k hk
        exact ⟨b, off, h1, Nat.lt_of_lt_of_le h2 hx3.size, (hx3.cell (p := ⟨b, off + k, none⟩) h2).trans h3⟩
      go_wp2_with fail
      go_loopw [10, 11] (fun ov i wr => ∃ k : Nat, k + 2 ≤ N ∧ i = .int .i64 ((k : Int) + 1) ∧ Ext w3 wr ∧ Own wr W 1 ov (ints (sortD ((List.range k).map fun s => takeP (ith vs (s + 1) * d) l (s + 1) l.length)))) (fun _ i _ => N - (intOf i).toNat)
      case atStart => exact ⟨0, by omega, rfl, Ext.refl _, by simpa [sortD, ints] using Own.nil _ _ _⟩
      case round =>
        rename World => wr
        obtain ⟨k, hk, rfl, hx, ho⟩ := hrel
        have hWr : W ≤ wr.heap.size := by have := hx.size; omega
        by_cases hlt : k + 2 < N
        · obtain ⟨vb, voff, rfl, hvb, hvc⟩ := hV' (k + 1) (by omega)
          replace hvc := (hx.cell (p := ⟨vb, voff + (k + 1), none⟩) hvb).trans hvc
          have hg := HG.out (k + 1) (by omega)
          obtain ⟨q0, q1, q2⟩ := hb3.ext hx
          have hpr : ith vs (k + 1) * d ≤ 100000 * 1000000 := Int.mul_le_mul hg.2 hd.2 (by omega) (by omega)
          have hpr0 : 0 ≤ ith vs (k + 1) * d := Int.mul_nonneg hg.1 (by omega)
          have hw1 : IntKind.i64.wrap (ith vs (k + 1) * d) = ith vs (k + 1) * d := by rw [IntKind.wrap_i64]; omega
          have hk1 : (0 : Int) ≤ (k : Int) + 1 := by omega
          have hk2 : (k : Int) + 1 < (N : Int) := by omega
          have hk3 : decide ((k : Int) + 1 < (N : Int) - 1) = true := by simp; omega
          have hk4 : ((k : Int) + 1).toNat = k + 1 := by omega
          go_wp2_with fail
          go_region
          have hx4 : Ext wr wr.drew := (by repeat (first | exact Ext.refl _ | assumption | refine Ext.alloc ?_ _ | refine Ext.drewN ?_ _ | refine Ext.drew ?_))
          replace hb3 := hb3.ext (hx.trans hx4)
          generalize wr.drew = w4 at *
          clear hvc hk1 hk2 hk4 hV' q0 q1 q2
          go_wp2_with fail
          go_loopw [12, 13] (fun nv i ws => ∃ j : Nat, j ≤ xs.length ∧ i = .int .i64 j ∧ nv = .int .i64 (takeP (ith vs (k + 1) * d) l (k + 1) j) ∧ Ext w4 ws) (fun _ i _ => xs.length - (intOf i).toNat)
          case atStart => exact ⟨0, by omega, rfl, rfl, Ext.refl _⟩
          case round =>
            rename World => ws
            obtain ⟨j, hj, rfl, rfl, hx5⟩ := hrel
            have hll2 := HLL.out
            have htb := takeP_bounds (ith vs (k + 1) * d) l HL.out (k + 1) j (by omega)
            by_cases hlt2 : j < xs.length
            · obtain ⟨lb, lf, rfl, hlb, hlc⟩ := hJ.ext (((hx03.trans hx).trans hx4).trans hx5) j (by omega)
              have hlj := HL.out.at_ j (by omega)
              have hjl : j < l.length := by omega
              clear hll2
              obtain ⟨q0, q1, q2⟩ := hb3.ext hx5
              have hbt : (Int.tmod (((k : Int) + 1) / 2 ^ j) 2 == 1) = (k + 1).testBit j := by
                have := rem_test (k + 1) j (by omega) (by omega)
                simpa using this
              cases hb : (k + 1).testBit j with
              | true =>
                rw [hb] at hbt
                have HB := Lib.hid (takeP_in (ith vs (k + 1) * d) l (k + 1) j hb)
                clear hb
                go_wp2_with fail
                exact ⟨⟨j + 1, by omega, rfl, by rw [HB.out], hx5⟩, by simp only [intOf]; omega⟩
              | false =>
                rw [hb] at hbt
                have HB := Lib.hid (takeP_out (ith vs (k + 1) * d) l (k + 1) j hb)
                clear hb
                go_wp2_with fail
                exact ⟨⟨j + 1, by omega, rfl, by rw [HB.out], hx5⟩, by simp only [intOf]; omega⟩
            · obtain rfl : j = xs.length := by omega
              have hx6 := hx4.trans hx5
              have ho3 := ho.ext hx6
              have hlow := ho3.lt
              have hs2 := hx6.size
              clear ho
              obtain ⟨n, hn⟩ : ∃ n, n = takeP (ith vs (k + 1) * d) l (k + 1) xs.length := ⟨_, rfl⟩
              obtain ⟨L, hL⟩ : ∃ L, L = sortD ((List.range k).map fun s => takeP (ith vs (s + 1) * d) l (s + 1) l.length) := ⟨_, rfl⟩
              rw [← hn]
              have hkl : L.length = k := by rw [hL, sortD_length]; simp
              rw [← hL] at ho3
              have HLs : Hid (L.Pairwise (fun x y => y ≤ x)) := Lib.hid (by rw [hL]; exact sortD_sorted _)
              have HDone : Hid (∀ M : List Int, M.Perm (L ++ [n]) → M.Pairwise (fun x y => y ≤ x) → M = sortD ((List.range (k + 1)).map fun s => takeP (ith vs (s + 1) * d) l (s + 1) l.length)) := Lib.hid (fun M hM hs => sortD_unique (hM.trans (by
                rw [range_snoc, hll2, ← hn, hL, hll2]
                exact List.Perm.append_right _ (sortD_perm _))) hs)
              rw [← hn] at htb
              clear hn hL hll2
              have hx7 := hx.trans hx6
              go_wp2_with (at_builtin; refine wpList_append_Own _ rfl _ _ 22 rfl 3 i0 (.int .i64 0) 1 8 Try.underlying22 hi hz0 hz1 hz2 rfl (by omega) W _ _ rfl (Own.ext ho3 ((Ext.refl _).alloc _)) (by first | omega | (simp; omega)) _ 1 1 [.int .i64 (n : Int)] rfl rfl (one_cell _ _ _ _ rfl) (by simp [Value.oneCell']) (by simp [ints_length, hkl]; unfold maxLen; omega) (by simp [ints_length, hkl]; omega) ?_; intro v5 w5 ho5 hg5 hb5; rw [ints_snoc, ← insAt_end, hkl] at ho5; obtain ⟨g, off, oc, rfl, hgW, hgl⟩ := ho5.solid (by rw [insAt_length]; omega); rw [insAt_length, hkl] at ho5 ⊢)
              have hx8 : Ext w3 w5 := (hx7.alloc _).onto hg5 (fun q hq => by have := (hlow q hq).1; omega)
              clear hg5 hb5 ho3 hlow
              have HKL := Lib.hid hkl
              clear hkl
              try go_wp2_with fail
              go_loopw [14] (fun kv wq => ∃ p : Nat, p ≤ k ∧ kv = .int .i64 p ∧ w5.grownBy wq (some g) ∧ Own wq W 1 (.slice (some ⟨g, off, none⟩) (k + 1) oc) (ints (insAt L n p)) ∧ Hid (∀ j, p ≤ j → j < k → ith L j < n)) (fun kv _ => (intOf kv).toNat)
              case atStart => exact ⟨k, by omega, rfl, (Ext.refl _).grown _, ho5, Lib.hid (fun j h1 h2 => by omega)⟩
              case round =>
                rename World => wq
                clear ho5
                obtain ⟨p, hp, rfl, hgq, hoq, HB⟩ := hrel
                have hglq : g < wq.heap.size := (hoq.lt g rfl).2
                match p, hp, hgq, hoq, HB with
                | 0, hp, hgq, hoq, HB =>
                  go_wp2_with fail
                  refine wp_region_after (by kernel_rfl) (by kernel_rfl) ?_
                  intro hne
                  repeat (go_big_quiet_step (fail))
                  refine wpQuiet_nil ?_
                  intro w7 hx9
                  go_wp2_with fail
                  have hM := HDone.out _ (by rw [← HKL.out] at *; exact insAt_perm L n 0) (insAt_sorted L n 0 HLs.out (by omega) (fun j h1 h2 => HB.out j h1 (by have := HKL.out; omega)) (.inl rfl))
                  rw [hM] at hoq
                  exact ⟨⟨k + 1, by omega, by simp, (hx8.onto hgq (fun q hq => by simp only [Option.some.injEq] at hq; omega)).trans hx9, hoq.ext hx9⟩, by simp only [intOf]; omega⟩
                | q + 1, hp, hgq, hoq, HB =>
                  have hlen := HKL.out
                  have hc1 := hoq.intAt (q + 1) (by rw [insAt_length]; omega)
                  have hc2 := hoq.intAt q (by rw [insAt_length]; omega)
                  rw [ith_insAt _ _ _ _ (by omega), if_neg (by omega), if_pos rfl] at hc1
                  rw [ith_insAt _ _ _ _ (by omega), if_pos (by omega)] at hc2
                  clear hlen
                  obtain ⟨c11, c12⟩ := hc1
                  obtain ⟨c21, c22⟩ := hc2
                  have a1 := After.cell c11 hglq
                  have a2 := After.cell c21 hglq
                  have k1 : (0 : Int) ≤ (q : Int) := by omega
                  have k2 : (0 : Int) ≤ (q : Int) + 1 := by omega
                  have k3 : (q : Int) + 1 < ((k : Int) + 1) := by omega
                  have k4 : (q : Int) < ((k : Int) + 1) := by omega
                  have k5 : (0 : Int) < (q : Int) + 1 := by omega
                  have k6 : ((q : Int) + 1).toNat = q + 1 := by omega
                  cases hd2 : decide (ith L q < n) with
                  | false =>
                    go_wp2_with fail
                    refine wp_region_after (by kernel_rfl) (by kernel_rfl) ?_
                    intro hne
                    repeat (go_big_quiet_step (fail))
                    refine wpQuiet_nil ?_
                    intro w7 hx9
                    go_wp2_with fail
                    have hM := HDone.out _ (insAt_perm L n (q + 1)) (insAt_sorted L n (q + 1) HLs.out (by have := HKL.out; omega) (fun j h1 h2 => HB.out j h1 (by have := HKL.out; omega)) (.inr (by simp at hd2; simpa using hd2)))
                    rw [hM] at hoq
                    exact ⟨⟨k + 1, by omega, by simp, (hx8.onto hgq (fun q hq => by simp only [Option.some.injEq] at hq; omega)).trans hx9, hoq.ext hx9⟩, by simp only [intOf]; omega⟩
                  | true =>
                    go_wp2_with fail
                    refine wp_region_after (by kernel_rfl) (by kernel_rfl) ?_
                    intro hne
                    repeat (go_big_quiet_step (fail))
                    refine wpQuiet_nil ?_
                    intro w7 hx9
                    have hoq7 := hoq.ext hx9
                    have d11 := (hx9.cell (p := ⟨g, off + (q + 1), none⟩) hglq).trans c11
                    have d12 := (hx9.frozen (p := ⟨g, off + (q + 1), none⟩) hglq).trans c12
                    have d21 := (hx9.cell (p := ⟨g, off + q, none⟩) hglq).trans c21
                    have d22 := (hx9.frozen (p := ⟨g, off + q, none⟩) hglq).trans c22
                    have hgl7 : g < w7.heap.size := Nat.lt_of_lt_of_le hglq hx9.size
                    clear c11 c12 c21 c22 a1 a2
                    go_wp2_with fail
                    have hq2 := (hoq7.setInt (q + 1) (by rw [insAt_length]; have := HKL.out; omega) (ith L q)).setInt q (by rw [List.length_set, insAt_length]; have := HKL.out; omega) n
                    rw [insAt_swap L n q (by have := HKL.out; omega)] at hq2
                    exact ⟨⟨q, by omega, by simp, grownBy_trans (grownBy_trans (grownBy_trans hgq (hx9.grown _)) (grownBy_setCell w7 ⟨g, off + (q + 1), none⟩ _)) (grownBy_setCell _ ⟨g, off + q, none⟩ _), hq2, Lib.hid (fun j h1 h2 => by
                      by_cases e : j = q
                      · subst e; simpa using hd2
                      · exact HB.out j (by omega) h2)⟩, by simp only [intOf]; omega⟩
        · obtain rfl : N = k + 2 := by omega
          have hk3 : decide ((k : Int) + 1 < ((k + 2 : Nat) : Int) - 1) = false := by simp; omega
          go_wp2_with fail
          go_ret2
          refine .inr ⟨by rw [HP.out, HIB.out]; rfl, _, rfl, ?_, hx03.trans hx⟩
          have e : excP E xs l d = (List.range k).map fun s => takeP (ith vs (s + 1) * d) l (s + 1) l.length := by
            rw [excP, ← HN.out, ← HVS.out]
            simp
          rw [e]
          exact ho.rebase (Nat.le_trans hx03.size hW.2)
end Go.Proofs.Ytcngecibljgndaa
