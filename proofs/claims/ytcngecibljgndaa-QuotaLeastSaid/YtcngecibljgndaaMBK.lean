/- part: a number of Parts as a fraction. -/
import Derived.Test.YtcngecibljgndaaMBJ
import Derived.Test.YtcngecibljgndaaMQRB
import Derived.Test.YtcngecibljgndaaMQGB
import Derived.Test.YtcngecibljgndaaMQPC
import Derived.Test.YtcngecibljgndaaMQPH
import Derived.Test.YtcngecibljgndaaMQCA
namespace Go.Proofs.Ytcngecibljgndaa
open Go.RowKit Go.Shelf

theorem fine_divInt {n d : Int} (hd : d ≠ 0) (hn : many n.natAbs ≤ 400) (hm : many d.natAbs ≤ 400) : Fine (Rat.divInt n d) := by
  have key : ∀ {x y c : Nat}, x ≤ y → many y ≤ c → many x ≤ c := fun hxy hy => many_le (Nat.lt_of_le_of_lt hxy (Nat.lt_of_lt_of_le (lt_many _) (Nat.pow_le_pow_right (by omega) hy)))
  refine ⟨key ?_ hn, key ?_ hm⟩
  · rw [Rat.num_divInt]
    refine Nat.le_trans (Int.natAbs_ediv_le_natAbs _ _) ?_
    rw [Int.natAbs_mul, Int.natAbs_sign]
    simp [hd]
  · rw [Rat.den_divInt, if_neg hd]
    exact Nat.div_le_self _ _
theorem fine_small {n d : Int} (hd : d ≠ 0) (hn : n.natAbs ≤ 1000000000000000000) (hm : d.natAbs ≤ 1000000000000000000) : Fine (Rat.divInt n d) := fine_divInt hd (Nat.le_trans (many_le (i := 5) (by omega)) (by omega)) (Nat.le_trans (many_le (i := 5) (by omega)) (by omega))
theorem p3 {w w' : World} {B lb lo : Nat} {u v x : Value} (h0 : w.cell? ⟨B, 0, none⟩ = some u) (h1 : w.cell? ⟨B, 1, none⟩ = some v) (h2 : w.cell? ⟨lb, lo, none⟩ = some x) (l0 : B < w.heap.size) (l1 : lb < w.heap.size) (hx : Ext w w') : (w'.cell? ⟨B, 0, none⟩ = some u) ∧ (w'.cell? ⟨B, 1, none⟩ = some v) ∧ (w'.cell? ⟨lb, lo, none⟩ = some x) :=
  ⟨(hx.cell (p := ⟨B, 0, none⟩) l0).trans h0, (hx.cell (p := ⟨B, 1, none⟩) l0).trans h1, (hx.cell (p := ⟨lb, lo, none⟩) l1).trans h2⟩
theorem p3far {w : World} {B lb lo R : Nat} {u v x p q r s : Value} (h : (w.cell? ⟨B, 0, none⟩ = some u) ∧ (w.cell? ⟨B, 1, none⟩ = some v) ∧ (w.cell? ⟨lb, lo, none⟩ = some x)) (hB : B ≠ R) (hl : lb ≠ R) :
    (((((w.setCell ⟨R, 0, none⟩ p).setCell ⟨R, 1, none⟩ q).setCell ⟨R, 2, none⟩ r).setCell ⟨R, 3, none⟩ s).cell? ⟨B, 0, none⟩ = some u) ∧ (((((w.setCell ⟨R, 0, none⟩ p).setCell ⟨R, 1, none⟩ q).setCell ⟨R, 2, none⟩ r).setCell ⟨R, 3, none⟩ s).cell? ⟨B, 1, none⟩ = some v) ∧ (((((w.setCell ⟨R, 0, none⟩ p).setCell ⟨R, 1, none⟩ q).setCell ⟨R, 2, none⟩ r).setCell ⟨R, 3, none⟩ s).cell? ⟨lb, lo, none⟩ = some x) := by
  rw [far4 _ _ _ _ _ _ _ _ hB, far4 _ _ _ _ _ _ _ _ hB, far4 _ _ _ _ _ _ _ _ hl]
  exact h
set_option maxRecDepth 100000 in
set_option maxHeartbeats 2000000 in
theorem part_calls (w : World) (lo : Option Addr) (lcap : Nat) (l : List Int) (d : Int) (i N : Nat) (hI : IntsIn w lo l) (hN : l.length = N) (hi : i < N) (hl : -1000000000000000000 ≤ ith l i ∧ ith l i ≤ 1000000000000000000) (hd : 0 < d ∧ d ≤ 1000000000000000000) :
    Calls Try.prog 29 #[.agg #[.slice lo N lcap, .int .i64 d], .int .i64 i] w (QR w (Rat.divInt (ith l i) d)) := by
  obtain ⟨b, off, rfl, hb, hc⟩ := hI i (by omega)
  have k1 : (0 : Int) ≤ (i : Int) := by omega
  have k2 : (i : Int) < (N : Int) := by omega
  clear hI hN
  go_enter Try.func29, Try.ntmps29
  go_wp2_with fail
  have hx1 : Ext w ((w.alloc (.cells #[.slice (some ⟨b, off, none⟩) N lcap, .int .i64 d] 26)).alloc (.cells #[.bool false, .slice none 0 0, .bool false, .slice none 0 0] 41)) := (by repeat (first | exact Ext.refl _ | assumption | refine Ext.alloc ?_ _ | refine Ext.drewN ?_ _ | refine Ext.drew ?_))
  have hb1 : PBox ((w.alloc (.cells #[.slice (some ⟨b, off, none⟩) N lcap, .int .i64 d] 26)).alloc (.cells #[.bool false, .slice none 0 0, .bool false, .slice none 0 0] 41)) w.heap.size (.slice (some ⟨b, off, none⟩) N lcap) d := ⟨by simp [go_sem], by simp [go_sem], by first | (simp; done) | (simp; omega)⟩
  have hs1 : Spot4 ((w.alloc (.cells #[.slice (some ⟨b, off, none⟩) N lcap, .int .i64 d] 26)).alloc (.cells #[.bool false, .slice none 0 0, .bool false, .slice none 0 0] 41)) (w.heap.size + 1) := ⟨by simp, by simp [go_sem], by simp [go_sem], by simp [go_sem], by simp [go_sem], by simp [go_sem], by simp [go_sem], by simp [go_sem], by simp [go_sem]⟩
  generalize ((w.alloc (.cells #[.slice (some ⟨b, off, none⟩) N lcap, .int .i64 d] 26)).alloc (.cells #[.bool false, .slice none 0 0, .bool false, .slice none 0 0] 41)) = w1 at *
  obtain ⟨R, hR⟩ : ∃ R, R = w.heap.size := ⟨_, rfl⟩
  rw [← hR] at hb1 hs1 hb ⊢
  have hRw : w.heap.size ≤ R := by omega
  have hc1 := (hx1.cell (p := ⟨b, off + i, none⟩) (by rw [← hR]; exact hb)).trans hc
  have hbl : b < w1.heap.size := by have := hx1.size; omega
  clear hR hc
  obtain ⟨q0, q1, q2⟩ := id hb1
  have hlt := hs1.lt
  go_region_held3 (fun w' => (w'.cell? ⟨R, 0, none⟩ = some (.slice (some ⟨b, off, none⟩) N lcap)) ∧ (w'.cell? ⟨R, 1, none⟩ = some (.int .i64 d)) ∧ (w'.cell? ⟨b, off + i, none⟩ = some (.int .i64 (ith l i))))
    (first | with_reducible exact p3 q0 q1 hc1 q2 hbl hxk5 | with_reducible exact p3 q0 q1 hc1 q2 hbl ((Ext.refl _).drew) | with_reducible exact p3far (p3 q0 q1 hc1 q2 hbl hxk5) (by omega) (by omega))
    ((first
      | (go_at_call 31; refine (frac_calls _ (ith l i) d (by omega) (by omega) (by omega)).mono ?_; rintro e v5 ⟨nr, oo, OA, oc, mr, po, PA, pc, rfl, hN, hbk, hbm, hx15⟩; have hxk5 : Ext w1 v5 := Ext.trans ((Ext.refl _).drew) hx15; obtain ⟨g0, hg0⟩ := Option.isSome_iff_exists.1 (hs1.ext hxk5).some0; obtain ⟨g1, hg1⟩ := Option.isSome_iff_exists.1 (hs1.ext hxk5).some1; obtain ⟨g2, hg2⟩ := Option.isSome_iff_exists.1 (hs1.ext hxk5).some2; obtain ⟨g3, hg3⟩ := Option.isSome_iff_exists.1 (hs1.ext hxk5).some3; have hh0 := (hs1.ext hxk5).free0; have hh1 := (hs1.ext hxk5).free1; have hh2 := (hs1.ext hxk5).free2; have hh3 := (hs1.ext hxk5).free3)))
  go_wp2_with fail
  obtain ⟨r0, r1, r2, r3⟩ := (hs1.ext hxk5).put (.bool nr) (.slice oo OA oc) (.bool mr) (.slice po PA pc)
  refine bodyPost_ret (v := .agg #[.bool nr, .slice oo OA oc, .bool mr, .slice po PA pc]) (by simp [results, Try.results29, go_sem, r0, r1, r2, r3]) rfl ?_
  exact q_done (hx1.trans hxk5) (by omega) hs1.lt hx1.size hN hbk hbm
end Go.Proofs.Ytcngecibljgndaa

/- later: the walk. -/
namespace Go.Proofs.Ytcngecibljgndaa
open Go.RowKit Go.Shelf

theorem p2u {w w' : World} {ab af bb bf : Nat} {z y : Value} (hz : w.cell? ⟨ab, af, none⟩ = some z) (hy : w.cell? ⟨bb, bf, none⟩ = some y) (ha : ab < w.heap.size) (hb : bb < w.heap.size) (hx : Ext w w') :
    (w'.cell? ⟨ab, af, none⟩ = some z) ∧ (w'.cell? ⟨bb, bf, none⟩ = some y) := ⟨(hx.cell (p := ⟨ab, af, none⟩) ha).trans hz, (hx.cell (p := ⟨bb, bf, none⟩) hb).trans hy⟩
theorem cmpQ_cases (a b : Int) (x y : Int) (hx : 0 < x) (hy : 0 < y) : cmpQ (Rat.divInt a x) (Rat.divInt b y) = if a * y < b * x then -1 else if b * x < a * y then 1 else 0 := by
  have key : ∀ a x b y : Int, 0 < x → 0 < y → (Rat.divInt a x < Rat.divInt b y ↔ a * y < b * x) := fun a x b y hx hy => by
    constructor
    · intro h
      refine Classical.byContradiction fun hn => ?_
      have := divInt_le hy hx (show b * x ≤ a * y by omega)
      exact Rat.not_lt.2 this h
    · intro h
      rw [← Rat.not_le]
      intro hle
      have h1 := divInt_le hx hy (show a * y ≤ b * x by omega)
      have h2 := (Rat.divInt_eq_divInt_iff (by omega) (by omega)).1 (Rat.le_antisymm h1 hle)
      omega
  unfold cmpQ
  simp only [key a x b y hx hy, key b y a x hy hx]
set_option maxRecDepth 100000 in
set_option maxHeartbeats 2000000 in
theorem later_calls (w : World) (ao bo : Option Addr) (acap bcap : Nat) (A B : List Int) (x y : Int) (hI : IntsIn w ao A) (hJ : IntsIn w bo B) (hl : A.length ≤ 1000) (hl2 : B.length ≤ 1000) (hA : ∀ k, k < A.length → -1000000000000000000 ≤ ith A k ∧ ith A k ≤ 1000000000000000000) (hB : ∀ k, k < B.length → -1000000000000000000 ≤ ith B k ∧ ith B k ≤ 1000000000000000000)
    (hx0 : 0 < x ∧ x ≤ 1000000000000000000) (hy0 : 0 < y ∧ y ≤ 1000000000000000000) (h : LaterB A x B y) :
    Calls Try.prog 45 #[.slice ao A.length acap, .int .i64 x, .slice bo B.length bcap, .int .i64 y] w (fun e w' => e = .returned (.bool true) ∧ Ext w w') := by
  have H := Lib.hid h
  have HA := Lib.hid hA
  have HB := Lib.hid hB
  clear h hA hB
  go_enter Try.func45, Try.ntmps45
  go_wp2_with fail
  go_loopw [9] (fun iv wr => ∃ k : Nat, k ≤ A.length ∧ k ≤ B.length ∧ iv = .int .i64 k ∧ Ext w wr ∧ Hid (∀ j, j < k → ith A j * y = ith B j * x)) (fun iv _ => A.length - (intOf iv).toNat)
  case atStart => exact ⟨0, by omega, by omega, rfl, Ext.refl _, Lib.hid (fun j hj => by omega)⟩
  case round =>
    obtain ⟨k, hk, hk2, rfl, hx, HK⟩ := hrel
    by_cases h1 : k < A.length
    · by_cases h2 : k < B.length
      · obtain ⟨ab, af, rfl, hab, hac⟩ := hI.ext hx k h1
        obtain ⟨bb, bf, rfl, hbb, hbc⟩ := hJ.ext hx k h2
        have u1 := HA.out k h1
        have u2 := HB.out k h2
        have hle := H.out k h1 h2 HK.out
        have hcc := cmpQ_cases (ith A k) (ith B k) x y hx0.1 hy0.1
        rw [if_neg (by omega)] at hcc
        obtain ⟨cq, hcq⟩ : ∃ cq, cmpQ (Rat.divInt (ith A k) x) (Rat.divInt (ith B k) y) = cq := ⟨_, rfl⟩
        rw [hcq] at hcc
        have HCC : Hid (cq = if ith B k * x < ith A k * y then 1 else 0) := Lib.hid hcc
        have HLE := Lib.hid hle
        clear hcc hle
        go_wp2_with fail
        go_region_held3 (fun w' => (w'.cell? ⟨ab, af + k, none⟩ = some (.int .i64 (ith A k))) ∧ (w'.cell? ⟨bb, bf + k, none⟩ = some (.int .i64 (ith B k))))
          (first | with_reducible exact p2u hac hbc hab hbb hxk3 | with_reducible exact p2u hac hbc hab hbb hxk2 | with_reducible exact p2u hac hbc hab hbb hxk1 | with_reducible exact p2u hac hbc hab hbb ((Ext.refl _).drew))
          ((first
            | (go_at_call 28; refine (cmp_calls _ nb1 mb1 nb2 mb2 zo1 yo1 zo2 yo2 A1 zc1 B1 yc1 A2 zc2 B2 yc2 _ _ (hR1.ext hx12) hR2 (fine_small (by omega) (by omega) (by omega)) (fine_small (by omega) (by omega) (by omega))).mono ?_; rintro e v3 ⟨rfl, hx13⟩; have hxk3 : Ext wr v3 := hxk2.trans hx13; rw [hcq])
            | (go_at_call 31; refine (frac_calls _ (ith B k) y (by omega) (by omega) (by omega)).mono ?_; rintro e v2 ⟨nb2, zo2, A2, zc2, mb2, yo2, B2, yc2, rfl, hR2, hbk2, hbm2, hx12⟩; have hxk2 : Ext wr v2 := hxk1.trans hx12)
            | (go_at_call 31; refine (frac_calls _ (ith A k) x (by omega) (by omega) (by omega)).mono ?_; rintro e v1 ⟨nb1, zo1, A1, zc1, mb1, yo1, B1, yc1, rfl, hR1, hbk1, hbm1, hx11⟩; have hxk1 : Ext wr v1 := Ext.trans ((Ext.refl _).drew) hx11)))
        by_cases hlt : ith B k * x < ith A k * y
        · obtain rfl : cq = 1 := by rw [HCC.out, if_pos hlt]
          clear HCC hlt
          go_wp2_with fail
          go_ret
          exact ⟨ret_bool rfl, hx.trans hxk3⟩
        · obtain rfl : cq = 0 := by rw [HCC.out, if_neg hlt]
          have HK2 : Hid (∀ j, j < k + 1 → ith A j * y = ith B j * x) := Lib.hid (fun j hj => by
            rcases Nat.lt_or_ge j k with h3 | h3
            · exact HK.out j h3
            · obtain rfl : j = k := by omega
              have := HLE.out; omega)
          clear HCC hlt HLE
          go_wp2_with fail
          exact ⟨⟨k + 1, by omega, by omega, rfl, hx.trans hxk3, HK2⟩, by simp only [intOf]; omega⟩
      · obtain rfl : k = B.length := by omega
        go_wp2_with fail
        go_ret
        exact ⟨ret_bool rfl, hx⟩
    · obtain rfl : k = A.length := by omega
      go_wp2_with fail
      go_ret
      exact ⟨ret_bool rfl, hx⟩
end Go.Proofs.Ytcngecibljgndaa

/- The specification's Game. -/
namespace Go.Proofs.Ytcngecibljgndaa
open Go.RowKit Go.Shelf

theorem rem0_all : ∀ s : Fin 128, ∀ c : Fin 7, (Int.tmod ((s.val : Int) / 2 ^ c.val) 2 == 0) = !s.val.testBit c.val := by decide +kernel
theorem rem0_test (s c : Nat) (hs : s < 128) (hc : c < 7) : (Int.tmod ((s : Int) / 2 ^ c) 2 == 0) = !s.testBit c := rem0_all ⟨s, hs⟩ ⟨c, hc⟩
set_option maxRecDepth 100000 in
set_option maxHeartbeats 1000000 in
theorem refGame_calls (w : World) (E : Int) (ao : Option Addr) (cap : Nat) (xs : List Int) (hI : IntsIn w ao xs) :
    Calls Try.prog 46 #[.int .i64 E, .slice ao xs.length cap] w (GameRes w E xs) := by
  obtain ⟨i0, hi, hz0, hz1, hz2⟩ := info_parts info_int
  go_enter Try.func46, Try.ntmps46
  go_wp2_with fail
  refine (refProblem_calls _ E ao cap xs hI).mono ?_
  rintro e w2 ⟨rfl, hx2⟩
  cases hp : probB E xs with
  | false =>
    have HP := Lib.hid hp
    clear hp
    go_wp2_with fail
    go_ret2
    exact .inl ⟨HP.out, rfl, hx2⟩
  | true =>
    have hP := (probB_true E xs).1 hp
    have HP := Lib.hid hp
    clear hp
    have HU := Lib.hid hP.claims
    have hl := hP.seven
    have hE := hP.estate
    clear hP
    obtain ⟨W, hW⟩ : ∃ W, W ≤ w2.heap.size ∧ w2.heap.size ≤ W := ⟨_, Nat.le_refl _, Nat.le_refl _⟩
    obtain ⟨N, hN, HN, hNb⟩ : ∃ N : Nat, (2 : Int) ^ xs.length = N ∧ Hid (N = 2 ^ xs.length) ∧ N ≤ 128 := by
      refine ⟨2 ^ xs.length, by simp, Lib.hid rfl, ?_⟩
      have : 2 ^ xs.length ≤ 2 ^ 7 := Nat.pow_le_pow_right (by omega) hl
      omega
    go_wp2_with fail
    go_loopw [6, 7] (fun ov i wr => ∃ k : Nat, k ≤ N ∧ i = .int .i64 k ∧ Ext w2 wr ∧ Own wr W 1 ov (ints ((List.range k).map fun s => max (leftP E xs s xs.length) 0))) (fun _ i _ => N - (intOf i).toNat)
    case atStart => exact ⟨0, by omega, rfl, Ext.refl _, Own.nil _ _ _⟩
    case round =>
      obtain ⟨k, hk, rfl, hx, ho⟩ := hrel
      have hWr : W ≤ wr.heap.size := by have := hx.size; omega
      by_cases hlt : k < N
      · go_wp2_with fail
        go_loopw [8, 9] (fun lv i ws => ∃ j : Nat, j ≤ xs.length ∧ i = .int .i64 j ∧ lv = .int .i64 (leftP E xs k j) ∧ Ext wr ws) (fun _ i _ => xs.length - (intOf i).toNat)
        case atStart => exact ⟨0, by omega, rfl, rfl, Ext.refl _⟩
        case round =>
          obtain ⟨j, hj, rfl, rfl, hx3⟩ := hrel
          have hlb := leftP_bounds E xs HU.out k j hj
          by_cases hlt2 : j < xs.length
          · obtain ⟨b, off, rfl, hb, hc⟩ := hI.ext ((hx2.trans hx).trans hx3) j hlt2
            have hxj := HU.out.at_ j hlt2
            have hbt := rem0_test k j (by omega) (by omega)
            cases hb : k.testBit j with
            | true =>
              rw [hb, Bool.not_true] at hbt
              have HB := Lib.hid (leftP_in E xs k j hb)
              clear hb
              go_wp2_with fail
              exact ⟨⟨j + 1, by omega, rfl, by rw [HB.out], hx3⟩, by simp only [intOf]; omega⟩
            | false =>
              rw [hb, Bool.not_false] at hbt
              have HB := Lib.hid (leftP_out E xs k j hb)
              clear hb
              go_wp2_with fail
              exact ⟨⟨j + 1, by omega, rfl, by rw [HB.out], hx3⟩, by simp only [intOf]; omega⟩
          · obtain rfl : j = xs.length := by omega
            have ho3 := ho.ext hx3
            have hs2 := hx3.size
            replace hx3 := hx.trans hx3
            have hlow := ho3.lt
            clear ho
            have hkl : ((List.range k).map fun s => max (leftP E xs s xs.length) 0).length = k := by simp
            by_cases h0 : 0 ≤ leftP E xs k xs.length
            · have HM : Hid (max (leftP E xs k xs.length) 0 = (leftP E xs k xs.length)) := Lib.hid (by omega)
              have hM : max 0 (leftP E xs k xs.length) = (leftP E xs k xs.length) := by omega
              go_wp2_with (at_builtin; refine wpList_append_Own _ rfl _ _ 22 rfl 3 i0 (.int .i64 0) 1 8 Try.underlying22 hi hz0 hz1 hz2 rfl (by omega) W _ _ rfl (Own.ext ho3 ((Ext.refl _).alloc _)) (by first | omega | (simp; omega)) _ 1 1 [.int .i64 ((leftP E xs k xs.length) : Int)] rfl rfl (one_cell _ _ _ _ rfl) (by simp [Value.oneCell']) (by simp [ints_length, hkl]; unfold maxLen; omega) (by simp [ints_length, hkl]; omega) ?_; intro v5 w5 ho5 hg5 hb5)
              have e2 : ((List.range k).map fun s => max (leftP E xs s xs.length) 0) ++ [(leftP E xs k xs.length)] = (List.range (k + 1)).map fun s => max (leftP E xs s xs.length) 0 := by rw [range_snoc, HM.out]
              rw [ints_snoc, e2] at ho5
              exact ⟨⟨k + 1, by omega, rfl, (hx3.alloc _).onto hg5 (fun q hq => by have := (hlow q hq).1; omega), ho5⟩, by simp only [intOf]; omega⟩
            · have HM : Hid (max (leftP E xs k xs.length) 0 = 0) := Lib.hid (by omega)
              have hM : max 0 (leftP E xs k xs.length) = 0 := by omega
              go_wp2_with (at_builtin; refine wpList_append_Own _ rfl _ _ 22 rfl 3 i0 (.int .i64 0) 1 8 Try.underlying22 hi hz0 hz1 hz2 rfl (by omega) W _ _ rfl (Own.ext ho3 ((Ext.refl _).alloc _)) (by first | omega | (simp; omega)) _ 1 1 [.int .i64 (0 : Int)] rfl rfl (one_cell _ _ _ _ rfl) (by simp [Value.oneCell']) (by simp [ints_length, hkl]; unfold maxLen; omega) (by simp [ints_length, hkl]; omega) ?_; intro v5 w5 ho5 hg5 hb5)
              have e2 : ((List.range k).map fun s => max (leftP E xs s xs.length) 0) ++ [0] = (List.range (k + 1)).map fun s => max (leftP E xs s xs.length) 0 := by rw [range_snoc, HM.out]
              rw [ints_snoc, e2] at ho5
              exact ⟨⟨k + 1, by omega, rfl, (hx3.alloc _).onto hg5 (fun q hq => by have := (hlow q hq).1; omega), ho5⟩, by simp only [intOf]; omega⟩
      · obtain rfl : k = N := by omega
        go_wp2_with fail
        go_ret2
        refine .inr ⟨HP.out, _, rfl, ?_, hx2.trans hx⟩
        rw [gameP, ← HN.out]
        exact ho.rebase (by have := hx2.size; omega)
end Go.Proofs.Ytcngecibljgndaa
