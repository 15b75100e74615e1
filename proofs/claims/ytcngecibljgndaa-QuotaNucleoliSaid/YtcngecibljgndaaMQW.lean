/- same, parts, and the law's own example: alive. -/
import Derived.Test.YtcngecibljgndaaMBK
import Derived.Test.YtcngecibljgndaaMQGL
import Derived.Test.YtcngecibljgndaaMQPC
import Derived.Test.YtcngecibljgndaaMQH
import Derived.Test.YtcngecibljgndaaMQRB
namespace Go.Proofs.Ytcngecibljgndaa
open Go.RowKit Go.Shelf

theorem same_calls (w : World) (ao bo : Option Addr) (cap cap2 : Nat) (xs ys : List Int) (hI : IntsIn w ao xs) (hJ : IntsIn w bo ys) (hl : xs.length ≤ 1000000) (hl2 : ys.length ≤ 1000000) :
    Calls Try.prog 24 #[.slice ao xs.length cap, .slice bo ys.length cap2] w fun e w' => e = .returned (.bool (decide (xs = ys))) ∧ Ext w w' := by
  go_enter Try.func24, Try.ntmps24
  by_cases hlen : xs.length = ys.length
  · have hb : ((xs.length : Int) != (ys.length : Int)) = false := by simp; omega
    have HL := Lib.hid hlen
    clear hlen
    go_wp2_with fail
    go_loopw [5] (fun i wr => ∃ k : Nat, k ≤ xs.length ∧ i = .int .i64 k ∧ Ext w wr ∧ Hid (∀ j, j < k → ith xs j = ith ys j)) (fun i _ => xs.length - (intOf i).toNat)
    case atStart => exact ⟨0, by omega, rfl, Ext.refl _, Lib.hid (fun j hj => by omega)⟩
    case round =>
      obtain ⟨k, hk, rfl, hx, HK⟩ := hrel
      by_cases hlt : k < xs.length
      · have hlt2 : k < ys.length := by have := HL.out; omega
        obtain ⟨b, off, rfl, hbl, hc⟩ := hI.ext hx k hlt
        obtain ⟨b2, off2, rfl, hbl2, hc2⟩ := hJ.ext hx k hlt2
        by_cases he : ith xs k = ith ys k
        · have hne : (ith xs k != ith ys k) = false := by simp [he]
          have HE := Lib.hid he
          clear he
          go_wp2_with fail
          go_region
          go_wp2_with fail
          refine ⟨⟨k + 1, by omega, rfl, hx.drew, Lib.hid (fun j hj => ?_)⟩, by simp only [intOf]; omega⟩
          rcases Nat.lt_or_ge j k with h | h
          · exact HK.out j h
          · rw [show j = k by omega]; exact HE.out
        · have hne : (ith xs k != ith ys k) = true := by simp [he]
          have HN : Hid (decide (xs = ys) = false) := Lib.hid (by simp; rintro rfl; exact he rfl)
          clear he
          go_wp2_with fail
          go_region
          go_wp2_with fail
          go_ret
          exact ⟨ret_bool HN.out.symm, hx.drew⟩
      · have HY : Hid (decide (xs = ys) = true) := Lib.hid (by
          simp only [decide_eq_true_eq]
          refine List.ext_getElem HL.out (fun j h1 h2 => ?_)
          have := HK.out j (by omega)
          simpa [ith, h1, h2] using this)
        go_wp2_with fail
        go_ret
        exact ⟨ret_bool HY.out.symm, hx⟩
  · have hb : ((xs.length : Int) != (ys.length : Int)) = true := by simp; omega
    have HN : Hid (decide (xs = ys) = false) := Lib.hid (by simp; rintro rfl; exact hlen rfl)
    clear hlen
    go_wp2_with fail
    go_ret
    exact ⟨ret_bool HN.out.symm, Ext.refl _⟩

def partsB (d : Int) (xs : List Int) (e : Int) (ys : List Int) : Bool := (d == e) && decide (xs = ys)
theorem parts_calls (w : World) (ao bo : Option Addr) (cap cap2 : Nat) (xs ys : List Int) (d e : Int) (hI : IntsIn w ao xs) (hJ : IntsIn w bo ys) (hl : xs.length ≤ 1000000) (hl2 : ys.length ≤ 1000000) :
    Calls Try.prog 23 #[.agg #[.slice ao xs.length cap, .int .i64 d], .agg #[.slice bo ys.length cap2, .int .i64 e]] w fun r w' => r = .returned (.bool (partsB d xs e ys)) ∧ Ext w w' := by
  go_enter Try.func23, Try.ntmps23
  cases hd : (d == e) with
  | false =>
    have HD := Lib.hid hd
    go_wp2_with fail
    go_ret
    exact ⟨ret_bool (by simp [partsB, HD.out]), (by repeat (first | exact Ext.refl _ | assumption | refine Ext.alloc ?_ _ | refine Ext.drewN ?_ _ | refine Ext.drew ?_))⟩
  | true =>
    have HD := Lib.hid hd
    go_wp2_with fail
    refine (same_calls _ ao bo cap cap2 xs ys (hI.ext (by repeat (first | exact Ext.refl _ | assumption | refine Ext.alloc ?_ _ | refine Ext.drewN ?_ _ | refine Ext.drew ?_))) (hJ.ext (by repeat (first | exact Ext.refl _ | assumption | refine Ext.alloc ?_ _ | refine Ext.drewN ?_ _ | refine Ext.drew ?_))) hl hl2).mono ?_
    rintro r w2 ⟨rfl, hx2⟩
    have hx : Ext w w2 := (show Ext w _ from (by repeat (first | exact Ext.refl _ | assumption | refine Ext.alloc ?_ _ | refine Ext.drewN ?_ _ | refine Ext.drew ?_))).trans hx2
    go_wp2_with fail
    go_ret
    exact ⟨ret_bool (by simp [partsB, HD.out]), hx⟩

theorem three_cells (w : World) (a b c : Int) (t : TypeId) : Ext w (w.alloc (.cells #[.int .i64 a, .int .i64 b, .int .i64 c] t)) ∧ IntsIn (w.alloc (.cells #[.int .i64 a, .int .i64 b, .int .i64 c] t)) (some ⟨w.heap.size, 0, none⟩) [a, b, c] := by
  refine ⟨(Ext.refl _).alloc _, fun k hk => ?_⟩
  have hk3 : k < 3 := hk
  refine ⟨w.heap.size, 0, rfl, by simp, ?_⟩
  match k, hk3 with
  | 0, _ => simp [go_sem, ith]
  | 1, _ => simp [go_sem, ith]
  | 2, _ => simp [go_sem, ith]
set_option maxRecDepth 100000 in
set_option maxHeartbeats 2000000 in
theorem alive_calls (hT : TabledOK) (w : World) : Calls Try.prog 20 #[] w fun e w' => e = .returned (.bool true) ∧ Ext w w' := by
  go_enter Try.func20, Try.ntmps20
  go_wp2_with fail
  obtain ⟨hx1, hC1⟩ := three_cells w 100 200 300 3
  obtain ⟨H, hH⟩ : ∃ H, H = w.heap.size := ⟨_, rfl⟩
  generalize (w.alloc (.cells #[.int .i64 100, .int .i64 200, .int .i64 300] 3)) = w1 at *
  rw [← hH] at hC1 ⊢
  clear hH
  refine (share_calls w1 3 200 (some ⟨H, 0, none⟩) 3 [100, 200, 300] hC1 (by simp)).mono ?_
  rintro e w2 hR
  rcases hR with ⟨hn, _⟩ | ⟨q, v, hq, rfl, ho, hx2⟩
  · rw [closed_talmud] at hn; simp at hn
  rw [closed_talmud, Option.some.injEq] at hq
  subst hq
  obtain ⟨so, sc, rfl, hS2, -⟩ := ho.intsShape
  simp only [List.length_cons, List.length_nil, Nat.zero_add, Nat.reduceAdd] at hS2 ⊢
  have hx02 := hx1.trans hx2
  have hC2 := hC1.ext hx2
  clear ho
  go_wp2_with fail
  obtain ⟨b1, hb1⟩ : ∃ b1, b1 = w2.heap.size := ⟨_, rfl⟩
  have hx3 : Ext w2 (w2.alloc (Obj.cells #[.slice so 3 sc, .int .i64 1] 26)) := (by repeat (first | exact Ext.refl _ | assumption | refine Ext.alloc ?_ _ | refine Ext.drewN ?_ _ | refine Ext.drew ?_))
  have hc0 : (w2.alloc (Obj.cells #[.slice so 3 sc, .int .i64 1] 26)).cell? ⟨b1, 0, none⟩ = some (.slice so 3 sc) := by subst hb1; simp [go_sem]
  have hc1 : (w2.alloc (Obj.cells #[.slice so 3 sc, .int .i64 1] 26)).cell? ⟨b1, 1, none⟩ = some (.int .i64 1) := by subst hb1; simp [go_sem]
  have hbl : b1 < (w2.alloc (Obj.cells #[.slice so 3 sc, .int .i64 1] 26)).heap.size := by simp [hb1]
  generalize (w2.alloc (Obj.cells #[.slice so 3 sc, .int .i64 1] 26)) = w3 at *
  rw [← hb1]
  clear hb1
  refine (share_calls w3 4 200 (some ⟨H, 0, none⟩) 3 [100, 200, 300] (hC2.ext hx3) (by simp)).mono ?_
  rintro e w4 hR
  rcases hR with ⟨hn, _⟩ | ⟨q, v, hq, rfl, ho, hx4⟩
  · rw [closed_run] at hn; simp at hn
  rw [closed_run, Option.some.injEq] at hq
  subst hq
  obtain ⟨so2, sc2, rfl, hS4, -⟩ := ho.intsShape
  simp only [List.length_cons, List.length_nil, Nat.zero_add, Nat.reduceAdd] at hS4 ⊢
  have hx24 := hx3.trans hx4
  have hC4 := hC2.ext hx24
  have hS24 := hS2.ext hx24
  have hd0 := (hx4.cell (p := ⟨b1, 0, none⟩) hbl).trans hc0
  have hd1 := (hx4.cell (p := ⟨b1, 1, none⟩) hbl).trans hc1
  have hbl4 := Nat.lt_of_lt_of_le hbl hx4.size
  have hx04 := hx02.trans hx24
  clear ho hc0 hc1 hbl
  go_wp2_with fail
  obtain ⟨b2, hb2⟩ : ∃ b2, b2 = w4.heap.size := ⟨_, rfl⟩
  have hx5 : Ext w4 (w4.alloc (Obj.cells #[.slice so2 3 sc2, .int .i64 3] 26)) := (by repeat (first | exact Ext.refl _ | assumption | refine Ext.alloc ?_ _ | refine Ext.drewN ?_ _ | refine Ext.drew ?_))
  have hc0 : (w4.alloc (Obj.cells #[.slice so2 3 sc2, .int .i64 3] 26)).cell? ⟨b2, 0, none⟩ = some (.slice so2 3 sc2) := by subst hb2; simp [go_sem]
  have hc1 : (w4.alloc (Obj.cells #[.slice so2 3 sc2, .int .i64 3] 26)).cell? ⟨b2, 1, none⟩ = some (.int .i64 3) := by subst hb2; simp [go_sem]
  have hbl2 : b2 < (w4.alloc (Obj.cells #[.slice so2 3 sc2, .int .i64 3] 26)).heap.size := by simp [hb2]
  generalize (w4.alloc (Obj.cells #[.slice so2 3 sc2, .int .i64 3] 26)) = w5 at *
  have hp : IsProb 200 [100, 200, 300] := (probB_true _ _).1 (by decide)
  have hsh : IsSh 200 [100, 200, 300] [50, 75, 75] 1 := by have := closed_is; simpa [isB] using this
  have hnc := nucleolus_calls hT w5 200 (some ⟨H, 0, none⟩) so 3 sc [100, 200, 300] [50, 75, 75] 1 30 (hC4.ext hx5) (hS24.ext hx5) hp (by decide) hsh closed_levels
  simp only [List.length_cons, List.length_nil, Nat.zero_add, Nat.reduceAdd] at hnc
  rw [← hb2]
  clear hb2
  have hf0 := (hx5.cell (p := ⟨b1, 0, none⟩) hbl4).trans hd0
  have hf1 := (hx5.cell (p := ⟨b1, 1, none⟩) hbl4).trans hd1
  have hbl5 := Nat.lt_of_lt_of_le hbl4 hx5.size
  go_wp2_with fail
  refine hnc.mono ?_
  rintro e w6 ⟨rfl, hx6⟩
  have hx56 := hx5.trans hx6
  have g0 := (hx6.cell (p := ⟨b1, 0, none⟩) hbl5).trans hf0
  have g1 := (hx6.cell (p := ⟨b1, 1, none⟩) hbl5).trans hf1
  have g2 := (hx6.cell (p := ⟨b2, 0, none⟩) hbl2).trans hc0
  have g3 := (hx6.cell (p := ⟨b2, 1, none⟩) hbl2).trans hc1
  have hbl6 := Nat.lt_of_lt_of_le hbl5 hx6.size
  have hbl26 := Nat.lt_of_lt_of_le hbl2 hx6.size
  have hS6 := hS24.ext hx56
  have hS46 := hS4.ext hx56
  have hx06 := hx04.trans hx56
  clear hnc hf0 hf1 hd0 hd1 hc0 hc1 hp hsh
  go_wp2_with fail
  obtain ⟨hx7, hK7⟩ := three_cells w6 50 75 75 3
  generalize (w6.alloc (.cells #[.int .i64 50, .int .i64 75, .int .i64 75] 3)) = w7 at *
  obtain ⟨Q, hQ⟩ : ∃ Q, Q = w6.heap.size := ⟨_, rfl⟩
  rw [← hQ] at hK7 ⊢
  clear hQ
  have hp1 := parts_calls w7 so (some ⟨Q, 0, none⟩) sc 3 [50, 75, 75] [50, 75, 75] 1 1 (hS6.ext hx7) hK7 (by simp) (by simp)
  simp only [List.length_cons, List.length_nil, Nat.zero_add, Nat.reduceAdd] at hp1
  refine hp1.mono ?_
  rintro e w8 ⟨rfl, hx8⟩
  rw [show partsB 1 [50, 75, 75] 1 [50, 75, 75] = true by decide]
  have hx78 := hx7.trans hx8
  have i2 := (hx78.cell (p := ⟨b2, 0, none⟩) hbl26).trans g2
  have i3 := (hx78.cell (p := ⟨b2, 1, none⟩) hbl26).trans g3
  have hbl8 := Nat.lt_of_lt_of_le hbl26 hx78.size
  have hS8 := hS46.ext hx78
  have hx08 := hx06.trans hx78
  clear hp1 g2 g3 g0 g1
  go_wp2_with fail
  obtain ⟨hx9, hK9⟩ := three_cells w8 100 250 250 3
  generalize (w8.alloc (.cells #[.int .i64 100, .int .i64 250, .int .i64 250] 3)) = w9 at *
  obtain ⟨Q2, hQ2⟩ : ∃ Q2, Q2 = w8.heap.size := ⟨_, rfl⟩
  rw [← hQ2] at hK9 ⊢
  clear hQ2
  have hp2 := parts_calls w9 so2 (some ⟨Q2, 0, none⟩) sc2 3 [100, 250, 250] [100, 250, 250] 3 3 (hS8.ext hx9) hK9 (by simp) (by simp)
  simp only [List.length_cons, List.length_nil, Nat.zero_add, Nat.reduceAdd] at hp2
  refine hp2.mono ?_
  rintro e w10 ⟨rfl, hx10⟩
  rw [show partsB 3 [100, 250, 250] 3 [100, 250, 250] = true by decide]
  have hx0 := hx08.trans (hx9.trans hx10)
  clear hp2 i2 i3
  go_wp2_with fail
  go_ret
  exact ⟨rfl, hx0⟩
end Go.Proofs.Ytcngecibljgndaa

/- later: the walk. -/
namespace Go.Proofs.Ytcngecibljgndaa
open Go.RowKit Go.Shelf

theorem p2u {w w' : World} {ab af bb bf : Nat} {z y : Value} (hz : w.cell? ⟨ab, af, none⟩ = some z) (hy : w.cell? ⟨bb, bf, none⟩ = some y) (ha : ab < w.heap.size) (hb : bb < w.heap.size) (hx : Ext w w') :
    (w'.cell? ⟨ab, af, none⟩ = some z) ∧ (w'.cell? ⟨bb, bf, none⟩ = some y) := ⟨(hx.cell (p := ⟨ab, af, none⟩) ha).trans hz, (hx.cell (p := ⟨bb, bf, none⟩) hb).trans hy⟩
theorem cmpQ_cases (a b : Int) (x y : Int) (hx : 0 < x) (hy : 0 < y) : cmpQ (Rat.divInt a x) (Rat.divInt b y) = if a * y < b * x then -1 else if b * x < a * y then 1 else 0 := by
  have key : ∀ a x b y : Int, 0 < x → 0 < y → (Rat.divInt a x < Rat.divInt b y ↔ a * y < b * x) := fun a x b y hx hy => by
    constructor
    · intro h
      refine Classical.byContradiction fun hn => ?_
      have := divInt_le hy hx (show b * x ≤ a * y by omega)
      exact Rat.not_lt.2 this h
    · intro h
      rw [← Rat.not_le]
      intro hle
      have h1 := divInt_le hx hy (show a * y ≤ b * x by omega)
      have h2 := (Rat.divInt_eq_divInt_iff (by omega) (by omega)).1 (Rat.le_antisymm h1 hle)
      omega
  unfold cmpQ
  simp only [key a x b y hx hy, key b y a x hy hx]
set_option maxRecDepth 100000 in
set_option maxHeartbeats 2000000 in
theorem later_calls (w : World) (ao bo : Option Addr) (acap bcap : Nat) (A B : List Int) (x y : Int) (hI : IntsIn w ao A) (hJ : IntsIn w bo B) (hl : A.length ≤ 1000) (hl2 : B.length ≤ 1000) (hA : ∀ k, k < A.length → -1000000000000000000 ≤ ith A k ∧ ith A k ≤ 1000000000000000000) (hB : ∀ k, k < B.length → -1000000000000000000 ≤ ith B k ∧ ith B k ≤ 1000000000000000000)
    (hx0 : 0 < x ∧ x ≤ 1000000000000000000) (hy0 : 0 < y ∧ y ≤ 1000000000000000000) (h : LaterB A x B y) :
    Calls Try.prog 45 #[.slice ao A.length acap, .int .i64 x, .slice bo B.length bcap, .int .i64 y] w (fun e w' => e = .returned (.bool true) ∧ Ext w w') := by
  have H := Lib.hid h
  have HA := Lib.hid hA
  have HB := Lib.hid hB
  clear h hA hB
  go_enter Try.func45, Try.ntmps45
  go_wp2_with fail
  go_loopw [9] (fun iv wr => ∃ k : Nat, k ≤ A.length ∧ k ≤ B.length ∧ iv = .int .i64 k ∧ Ext w wr ∧ Hid (∀ j, j < k → ith A j * y = ith B j * x)) (fun iv _ => A.length - (intOf iv).toNat)
  case atStart => exact ⟨0, by omega, by omega, rfl, Ext.refl _, Lib.hid (fun j hj => by omega)⟩
  case round =>
    obtain ⟨k, hk, hk2, rfl, hx, HK⟩ := hrel
    by_cases h1 : k < A.length
    · by_cases h2 : k < B.length
      · obtain ⟨ab, af, rfl, hab, hac⟩ := hI.ext hx k h1
        obtain ⟨bb, bf, rfl, hbb, hbc⟩ := hJ.ext hx k h2
        have u1 := HA.out k h1
        have u2 := HB.out k h2
        have hle := H.out k h1 h2 HK.out
        have hcc := cmpQ_cases (ith A k) (ith B k) x y hx0.1 hy0.1
        rw [if_neg (by omega)] at hcc
        obtain ⟨cq, hcq⟩ : ∃ cq, cmpQ (Rat.divInt (ith A k) x) (Rat.divInt (ith B k) y) = cq := ⟨_, rfl⟩
        rw [hcq] at hcc
        have HCC : Hid (cq = if ith B k * x < ith A k * y then 1 else 0) := Lib.hid hcc
        have HLE := Lib.hid hle
        clear hcc hle
        go_wp2_with fail
        go_region_held3 (fun w' => (w'.cell? ⟨ab, af + k, none⟩ = some (.int .i64 (ith A k))) ∧ (w'.cell? ⟨bb, bf + k, none⟩ = some (.int .i64 (ith B k))))
          (first | with_reducible exact p2u hac hbc hab hbb hxk3 | with_reducible exact p2u hac hbc hab hbb hxk2 | with_reducible exact p2u hac hbc hab hbb hxk1 | with_reducible exact p2u hac hbc hab hbb ((Ext.refl _).drew))
          ((first
            | (go_at_call 28; refine (cmp_calls _ nb1 mb1 nb2 mb2 zo1 yo1 zo2 yo2 A1 zc1 B1 yc1 A2 zc2 B2 yc2 _ _ (hR1.ext hx12) hR2 (fine_small (by omega) (by omega) (by omega)) (fine_small (by omega) (by omega) (by omega))).mono ?_; rintro e v3 ⟨rfl, hx13⟩; have hxk3 : Ext wr v3 := hxk2.trans hx13; rw [hcq])
            | (go_at_call 31; refine (frac_calls _ (ith B k) y (by omega) (by omega) (by omega)).mono ?_; rintro e v2 ⟨nb2, zo2, A2, zc2, mb2, yo2, B2, yc2, rfl, hR2, hbk2, hbm2, hx12⟩; have hxk2 : Ext wr v2 := hxk1.trans hx12)
            | (go_at_call 31; refine (frac_calls _ (ith A k) x (by omega) (by omega) (by omega)).mono ?_; rintro e v1 ⟨nb1, zo1, A1, zc1, mb1, yo1, B1, yc1, rfl, hR1, hbk1, hbm1, hx11⟩; have hxk1 : Ext wr v1 := Ext.trans ((Ext.refl _).drew) hx11)))
        by_cases hlt : ith B k * x < ith A k * y
        · obtain rfl : cq = 1 := by rw [HCC.out, if_pos hlt]
          clear HCC hlt
          go_wp2_with fail
          go_ret
          exact ⟨ret_bool rfl, hx.trans hxk3⟩
        · obtain rfl : cq = 0 := by rw [HCC.out, if_neg hlt]
          have HK2 : Hid (∀ j, j < k + 1 → ith A j * y = ith B j * x) := Lib.hid (fun j hj => by
            rcases Nat.lt_or_ge j k with h3 | h3
            · exact HK.out j h3
            · obtain rfl : j = k := by omega
              have := HLE.out; omega)
          clear HCC hlt HLE
          go_wp2_with fail
          exact ⟨⟨k + 1, by omega, by omega, rfl, hx.trans hxk3, HK2⟩, by simp only [intOf]; omega⟩
      · obtain rfl : k = B.length := by omega
        go_wp2_with fail
        go_ret
        exact ⟨ret_bool rfl, hx⟩
    · obtain rfl : k = A.length := by omega
      go_wp2_with fail
      go_ret
      exact ⟨ret_bool rfl, hx⟩
end Go.Proofs.Ytcngecibljgndaa

/- contested, Contest, Fair: the walks. -/
namespace Go.Proofs.Ytcngecibljgndaa
open Go.RowKit Go.Shelf

/-- Twice what the first of two gets. -/
def contP (E a b : Int) : Int := 2 * max (E - b) 0 + E - max (E - b) 0 - max (E - a) 0
theorem contested_calls (w : World) (E a b : Int) (hE : -1000000000000000 ≤ E ∧ E ≤ 1000000000000000) (ha : -1000000000000000 ≤ a ∧ a ≤ 1000000000000000) (hb : -1000000000000000 ≤ b ∧ b ≤ 1000000000000000) :
    Calls Try.prog 75 #[.int .i64 E, .int .i64 a, .int .i64 b] w fun e w' => e = .returned (.int .i64 (contP E a b)) ∧ Ext w w' := by
  go_enter Try.func75, Try.ntmps75
  go_wp2_with fail
  go_ret
  exact ⟨rfl, (by repeat (first | exact Ext.refl _ | assumption | refine Ext.alloc ?_ _ | refine Ext.drewN ?_ _ | refine Ext.drew ?_))⟩
theorem two_ints (w : World) (a b : Int) (t : TypeId) : Ext w (w.alloc (.cells #[.int .i64 a, .int .i64 b] t)) ∧ IntsIn (w.alloc (.cells #[.int .i64 a, .int .i64 b] t)) (some ⟨w.heap.size, 0, none⟩) [a, b] := by
  refine ⟨(by repeat (first | exact Ext.refl _ | assumption | refine Ext.alloc ?_ _ | refine Ext.drewN ?_ _ | refine Ext.drew ?_)), ?_⟩
  intro k hk
  refine ⟨w.heap.size, 0, rfl, by simp, ?_⟩
  match k, hk with
  | 0, _ => simp [go_sem, ith]
  | 1, _ => simp [go_sem, ith]
  | k + 2, hk => exact absurd hk (by simp)
theorem own_two (w : World) (x y : Int) (t : TypeId) : Own (w.alloc (.cells #[.int .i64 x, .int .i64 y] t)) w.heap.size 1 (.slice (some ⟨w.heap.size, 0, none⟩) 2 2) (ints [x, y]) := by
  refine ⟨2, rfl, .inr ⟨w.heap.size, 0, 2, rfl, Nat.le_refl _, by simp, Nat.le_refl _, by unfold maxLen; omega, fun j hj => ?_, fun j hj => ?_⟩⟩
  · match j, hj with
    | 0, _ => simp [go_sem]
    | 1, _ => simp [go_sem]
    | j + 2, hj => exact absurd hj (by omega)
  · match j, hj with
    | 0, _ => simp [go_sem, ints]
    | 1, _ => simp [go_sem, ints]
    | j + 2, hj => exact absurd hj (by omega)
def contestP (E a b : Int) : Option (List Int × Int) := if probB E [a, b] = true then some (lowP ([contP E a b, 2 * E - contP E a b], 2)) else none
theorem contP_in {E a b : Int} (hE : 0 ≤ E) (ha : 0 ≤ a) (hb : 0 ≤ b) (hs : E ≤ a + b) : 0 ≤ contP E a b ∧ contP E a b ≤ 2 * a ∧ 0 ≤ 2 * E - contP E a b ∧ 2 * E - contP E a b ≤ 2 * b := by
  unfold contP; omega
theorem prob_two {E a b : Int} (h : IsProb E [a, b]) : 0 ≤ E ∧ E ≤ 100000 ∧ 0 ≤ a ∧ a ≤ 100000 ∧ 0 ≤ b ∧ b ≤ 100000 ∧ E ≤ a + b := by
  have h1 := h.estate
  have h2 := h.claims a (by simp)
  have h3 := h.claims b (by simp)
  have h4 := h.enough
  rw [isum_cons, isum_cons, isum_nil] at h4
  omega
set_option maxRecDepth 100000 in
set_option maxHeartbeats 2000000 in
theorem contest_calls (w : World) (E a b : Int) : Calls Try.prog 36 #[.int .i64 E, .int .i64 a, .int .i64 b] w (Parted w (contestP E a b)) := by
  go_enter Try.func36, Try.ntmps36
  go_wp2_with fail
  obtain ⟨R, hR⟩ : ∃ R, R = w.heap.size := ⟨_, rfl⟩
  have hs1 := Spot.new w 26 (.slice none 0 0) (.int .i64 0)
  have hx1 : Ext w (w.alloc (.cells #[.slice none 0 0, .int .i64 0] 26)) := (by repeat (first | exact Ext.refl _ | assumption | refine Ext.alloc ?_ _ | refine Ext.drewN ?_ _ | refine Ext.drew ?_))
  have hw1 : (w.alloc (.cells #[.slice none 0 0, .int .i64 0] 26)).heap.size = w.heap.size + 1 := by simp
  generalize (w.alloc (.cells #[.slice none 0 0, .int .i64 0] 26)) = w1 at *
  rw [← hR] at hs1 hw1 ⊢
  have hRw : w.heap.size ≤ R := by omega
  clear hR
  obtain ⟨hx2, hI2⟩ := two_ints w1 a b 3
  rw [hw1] at hI2
  clear hw1
  generalize (w1.alloc (.cells #[.int .i64 a, .int .i64 b] 3)) = w2 at *
  refine (problem_calls w2 E _ 2 [a, b] hI2 (by simp)).mono ?_
  rintro e w3 ⟨rfl, hx3⟩
  have hx03 := (hx1.trans hx2).trans hx3
  have hs3 := (hs1.ext hx2).ext hx3
  cases hp : probB E [a, b] with
  | false =>
    have HN := Lib.hid (show contestP E a b = none by simp [contestP, hp])
    clear hp
    simp only [errI]
    have hsb := hs3
    obtain ⟨c0, hc0⟩ := Option.isSome_iff_exists.1 hsb.some0
    obtain ⟨c1, hc1⟩ := Option.isSome_iff_exists.1 hsb.some1
    have hf0 := hsb.free0
    have hf1 := hsb.free1
    go_wp2_with fail
    obtain ⟨q0, q1⟩ := hsb.put (.slice none 0 0) (.int .i64 0)
    refine bodyPost_ret (v := .tuple #[.agg #[.slice none 0 0, .int .i64 0], .int .i64 2]) (by simp [results, Try.results36, go_sem, q0, q1]) rfl ?_
    exact .inl ⟨HN.out, rfl, (hx03.setOwn _ _ hRw).setOwn _ _ hRw⟩
  | true =>
    obtain ⟨p1, p2, p3, p4, p5, p6, p7⟩ := prob_two ((probB_true E [a, b]).1 hp)
    have HS := Lib.hid (show contestP E a b = some (lowP ([contP E a b, 2 * E - contP E a b], 2)) by simp [contestP, hp])
    clear hp
    simp only [errI]
    go_wp2_with fail
    refine (contested_calls w3 E a b (by omega) (by omega) (by omega)).mono ?_
    rintro e w4 ⟨rfl, hx4⟩
    have hin := contP_in p1 p3 p5 p7
    generalize contP E a b = n at *
    go_wp2_with fail
    obtain ⟨hx5, hI5⟩ := two_ints w4 n (2 * E - n) 3
    generalize (w4.alloc (.cells #[.int .i64 n, .int .i64 (2 * E - n)] 3)) = w5 at *
    refine (lowest_calls w5 _ 2 [n, 2 * E - n] 2 hI5 (by simp) (by omega) (fun k hk => ?_)).mono ?_
    · match k, hk with
      | 0, _ => simp [ith]; omega
      | 1, _ => simp [ith]; omega
      | k + 2, hk => exact absurd hk (by simp)
    rintro e w9 ⟨v, rfl, ho, hx9⟩
    have hx05 := (hx03.trans hx4).trans hx5
    have hx09 := hx05.trans hx9
    have hsb := ((hs3.ext hx4).ext hx5).ext hx9
    obtain ⟨vo, vn, vc, rfl, -⟩ := ho.shapeCap
    obtain ⟨c0, hc0⟩ := Option.isSome_iff_exists.1 hsb.some0
    obtain ⟨c1, hc1⟩ := Option.isSome_iff_exists.1 hsb.some1
    have hf0 := hsb.free0
    have hf1 := hsb.free1
    have hR5 := ((hs3.ext hx4).ext hx5).lt
    obtain ⟨L, hL⟩ : ∃ L, L = ([n, 2 * E - n].map (· / (gcdL 2 [n, 2 * E - n] : Int))) := ⟨_, rfl⟩
    obtain ⟨D, hD⟩ : ∃ D : Int, D = 2 / gcdL 2 [n, 2 * E - n] := ⟨_, rfl⟩
    rw [← hL] at ho
    rw [← hD]
    have HLD : Hid (lowP ([n, 2 * E - n], 2) = (L, D)) := Lib.hid (by rw [hL, hD]; rfl)
    clear hL hD
    go_wp2_with fail
    obtain ⟨q0, q1⟩ := hsb.put (.slice vo vn vc) (.int .i64 D)
    refine bodyPost_ret (v := .tuple #[.agg #[.slice vo vn vc, .int .i64 D], .int .i64 0]) (by simp [results, Try.results36, go_sem, q0, q1]) rfl ?_
    have ho2 := (ho.keep (grownBy_setCell _ ⟨R, 0, none⟩ (.slice vo vn vc)) (by right; intro e; have := (ho.lt R e).1; omega)).keep (grownBy_setCell _ ⟨R, 1, none⟩ (.int .i64 D)) (by right; intro e; have := (ho.lt R e).1; omega)
    exact .inr ⟨(L, D), .slice vo vn vc, by rw [HS.out, HLD.out], rfl, ho2.rebase hx05.size, (hx09.setOwn _ _ hRw).setOwn _ _ hRw⟩
/-- A pair that would be divided otherwise. -/
def offP (xs l : List Int) (d : Int) (i j : Nat) : Bool := contP (ith l i + ith l j) (ith xs i * d) (ith xs j * d) != 2 * ith l i
/-- All pairs before one are fair. -/
def FairTo (xs l : List Int) (d : Int) (i j : Nat) : Prop := ∀ a b, a < b → b < xs.length → (a < i ∨ (a = i ∧ b < j)) → offP xs l d a b = false
def FairRes (w : World) (E : Int) (xs l : List Int) (d : Int) (e : Ending) (w' : World) : Prop :=
  (¬ (IsProb E xs ∧ IsSh E xs l d) ∧ e = .returned (.tuple #[.slice none 0 0, .int .i64 2]) ∧ Ext w w') ∨
  (IsProb E xs ∧ IsSh E xs l d ∧ FairTo xs l d xs.length 0 ∧ e = .returned (.tuple #[.slice none 0 0, .int .i64 0]) ∧ Ext w w') ∨
  (IsProb E xs ∧ IsSh E xs l d ∧ ∃ i j, i < j ∧ j < xs.length ∧ FairTo xs l d i j ∧ offP xs l d i j = true ∧ ∃ v, e = .returned (.tuple #[v, .int .i64 0]) ∧ Own w' w.heap.size 1 v (ints [(i : Int), (j : Int)]) ∧ Ext w w')
theorem p6 {w w' : World} {B a0 a1 c0 c1 o0 o1 q0 q1 : Nat} {u : Value} {v : Int} {x0 x1 y0 y1 : Value} (h : PBox w B u v) (h1 : w.cell? ⟨a0, o0, none⟩ = some x0) (h2 : w.cell? ⟨a1, o1, none⟩ = some x1) (h3 : w.cell? ⟨c0, q0, none⟩ = some y0) (h4 : w.cell? ⟨c1, q1, none⟩ = some y1)
    (l1 : a0 < w.heap.size) (l2 : a1 < w.heap.size) (l3 : c0 < w.heap.size) (l4 : c1 < w.heap.size) (hx : Ext w w') :
    (w'.cell? ⟨B, 0, none⟩ = some u) ∧ (w'.cell? ⟨B, 1, none⟩ = some (.int .i64 v)) ∧ (w'.cell? ⟨a0, o0, none⟩ = some x0) ∧ (w'.cell? ⟨a1, o1, none⟩ = some x1) ∧ (w'.cell? ⟨c0, q0, none⟩ = some y0) ∧ (w'.cell? ⟨c1, q1, none⟩ = some y1) :=
  ⟨(h.ext hx).c0, (h.ext hx).c1, (hx.cell (p := ⟨a0, o0, none⟩) l1).trans h1, (hx.cell (p := ⟨a1, o1, none⟩) l2).trans h2, (hx.cell (p := ⟨c0, q0, none⟩) l3).trans h3, (hx.cell (p := ⟨c1, q1, none⟩) l4).trans h4⟩
set_option maxRecDepth 100000 in
set_option maxHeartbeats 4000000 in
theorem fair_calls (w : World) (E : Int) (ao lo : Option Addr) (cap lcap : Nat) (xs l : List Int) (d : Int) (hI : IntsIn w ao xs) (hJ : IntsIn w lo l) (hl : xs.length ≤ 1000000) (hll : l.length ≤ 1000000) :
    Calls Try.prog 38 #[.int .i64 E, .slice ao xs.length cap, .agg #[.slice lo l.length lcap, .int .i64 d]] w (FairRes w E xs l d) := by
  go_enter Try.func38, Try.ntmps38
  go_wp2_with fail
  have hx1 : Ext w (w.alloc (Obj.cells #[.slice lo l.length lcap, .int .i64 d] 26)) := (by repeat (first | exact Ext.refl _ | assumption | refine Ext.alloc ?_ _ | refine Ext.drewN ?_ _ | refine Ext.drew ?_))
  have hbx := PBox.new w 26 (.slice lo l.length lcap) d
  obtain ⟨B, hB⟩ : ∃ B, B = w.heap.size := ⟨_, rfl⟩
  generalize (w.alloc (Obj.cells #[.slice lo l.length lcap, .int .i64 d] 26)) = w1 at *
  rw [← hB] at hbx ⊢
  clear hB
  refine (problem_calls _ E ao cap xs (hI.ext hx1) hl).mono ?_
  rintro e w2 ⟨rfl, hx2⟩
  have hx12 := hx1.trans hx2
  cases hp : probB E xs with
  | false =>
    have HP := Lib.hid (show ¬ (IsProb E xs ∧ IsSh E xs l d) from fun h => by rw [(probB_true E xs).2 h.1] at hp; simp at hp)
    clear hp
    simp only [errI]
    go_wp2_with fail
    go_ret2
    exact .inl ⟨HP.out, rfl, hx12⟩
  | true =>
    have hP := (probB_true E xs).1 hp
    have HP := Lib.hid hP
    clear hp
    obtain ⟨hcr0, hcr1, hBr⟩ := hbx.ext hx2
    have h7 := hP.seven
    have hu := hP.claims
    have hE := hP.estate
    clear hP
    simp only [errI]
    have hic := fun W h1 h2 => is_calls W E ao lo cap lcap xs l d h1 h2 h7 hu hE hll
    have HU := Lib.hid hu
    clear hu
    go_wp2_with fail
    refine (hic _ (hI.ext hx12) (hJ.ext hx12)).mono ?_
    rintro e w3 ⟨rfl, hx3⟩
    clear hic
    have hx13 := hx12.trans hx3
    cases hb : isB E xs l d with
    | false =>
      have HP2 := Lib.hid (show ¬ (IsProb E xs ∧ IsSh E xs l d) from fun h => by rw [isB_yes h.2] at hb; simp at hb)
      clear hb
      go_wp2_with fail
      go_ret2
      exact .inl ⟨HP2.out, rfl, hx13⟩
    | true =>
      have hS : IsSh E xs l d := by simpa [isB] using hb
      have HS := Lib.hid hS
      clear hb
      have hdn := hS.den
      have HLL := Lib.hid hS.len
      have HN := Lib.hid (show ∀ k, k < xs.length → 0 ≤ ith l k ∧ ith l k ≤ 100000000000 from fun k hk => by
        have h1 := hS.num k hk
        have h2 := HU.out.at_ k hk
        have : ith xs k * d ≤ 100000 * 1000000 := Int.mul_le_mul h2.2 hdn.2 (by omega) (by omega)
        omega)
      clear hS hcr0 hcr1 hBr
      have hb3 := (hbx.ext hx2).ext hx3
      go_wp2_with fail
      go_loopw [24] (fun i wr => ∃ k : Nat, k ≤ xs.length ∧ i = .int .i64 k ∧ Hid (FairTo xs l d k 0) ∧ Ext w3 wr) (fun i _ => xs.length - (intOf i).toNat)
      case atStart => exact ⟨0, by omega, rfl, Lib.hid (fun a b _ _ h => by omega), Ext.refl _⟩
      case round =>
        rename World => wr
        obtain ⟨i, hi, rfl, HF, hx⟩ := hrel
        by_cases hlt : i < xs.length
        · go_wp2_with fail
          go_loopw [10] (fun q ws => ∃ j : Nat, i + 1 ≤ j ∧ j ≤ xs.length ∧ q = .int .i64 j ∧ Hid (FairTo xs l d i j) ∧ Ext wr ws) (fun q _ => xs.length - (intOf q).toNat)
          case atStart => exact ⟨i + 1, by omega, by omega, by simp, Lib.hid (fun a b h1 h2 h3 => by
            rcases h3 with h3 | h3
            · exact HF.out a b h1 h2 (.inl h3)
            · omega), Ext.refl _⟩
          case round =>
            rename World => ws
            obtain ⟨j, hj0, hj, rfl, HG, hx4⟩ := hrel
            have hx3s := hx.trans hx4
            by_cases hlt2 : j < xs.length
            · have hi1 : i < l.length := by have := HLL.out; omega
              have hj1 : j < l.length := by have := HLL.out; omega
              obtain ⟨b1, o1, rfl, hb1, hc1⟩ := (hI.ext hx13).ext hx3s i hlt
              obtain ⟨b2, o2, he2, hb2, hc2⟩ := (hI.ext hx13).ext hx3s j hlt2
              simp only [Option.some.injEq, Addr.mk.injEq, and_true] at he2
              obtain ⟨rfl, rfl⟩ := he2
              obtain ⟨b3, o3, rfl, hb4, hc3⟩ := (hJ.ext hx13).ext hx3s i hi1
              obtain ⟨b4, o4, he2, hb5, hc4⟩ := (hJ.ext hx13).ext hx3s j hj1
              simp only [Option.some.injEq, Addr.mk.injEq, and_true] at he2
              obtain ⟨rfl, rfl⟩ := he2
              have hbs := hb3.ext hx3s
              obtain ⟨q0, q1, q2⟩ := id hbs
              have n1 := HN.out i hlt
              have n2 := HN.out j hlt2
              have u1 := HU.out.at_ i hlt
              have u2 := HU.out.at_ j hlt2
              obtain ⟨xi, hxi⟩ : ∃ x, ith l i = x := ⟨_, rfl⟩
              obtain ⟨xj, hxj⟩ : ∃ x, ith l j = x := ⟨_, rfl⟩
              obtain ⟨ci, hci⟩ : ∃ x, ith xs i = x := ⟨_, rfl⟩
              obtain ⟨cj, hcj⟩ : ∃ x, ith xs j = x := ⟨_, rfl⟩
              have HO : Hid (offP xs l d i j = (contP (xi + xj) (ci * d) (cj * d) != 2 * xi)) := Lib.hid (by unfold offP; rw [hxi, hxj, hci, hcj])
              rw [hxi] at hc3 n1
              rw [hxj] at hc4 n2
              rw [hci] at hc1 u1
              rw [hcj] at hc2 u2
              clear hxi hxj hci hcj
              have m1 : ci * d ≤ 100000 * 1000000 := Int.mul_le_mul u1.2 hdn.2 (by omega) (by omega)
              have m2 : cj * d ≤ 100000 * 1000000 := Int.mul_le_mul u2.2 hdn.2 (by omega) (by omega)
              have m3 : 0 ≤ ci * d := Int.mul_nonneg u1.1 (by omega)
              have m4 : 0 ≤ cj * d := Int.mul_nonneg u2.1 (by omega)
              have hw1 : IntKind.i64.wrap (ci * d) = ci * d := by rw [IntKind.wrap_i64]; omega
              have hw2 : IntKind.i64.wrap (cj * d) = cj * d := by rw [IntKind.wrap_i64]; omega
              have hw3 : IntKind.i64.wrap (xi + xj) = xi + xj := by rw [IntKind.wrap_i64]; omega
              have hw4 : IntKind.i64.wrap (2 * xi) = 2 * xi := by rw [IntKind.wrap_i64]; omega
              have hcc := fun W => contested_calls W (xi + xj) (ci * d) (cj * d) (by omega) (by omega) (by omega)
              obtain ⟨z, hz⟩ : ∃ z, contP (xi + xj) (ci * d) (cj * d) = z := ⟨_, rfl⟩
              rw [hz] at HO
              simp only [hz] at hcc
              clear hz m1 m2 m3 m4
              have hi0 : (0 : Int) ≤ (i : Int) := by omega
              have hil : (i : Int) < (l.length : Int) := by omega
              have hix : (i : Int) < (xs.length : Int) := by omega
              have hj0' : (0 : Int) ≤ (j : Int) := by omega
              have hjl : (j : Int) < (l.length : Int) := by omega
              have hjx : (j : Int) < (xs.length : Int) := by omega
              go_wp2_with fail
              go_region_held3 (fun w' => (w'.cell? ⟨B, 0, none⟩ = some (.slice (some ⟨b3, o3, none⟩) l.length lcap)) ∧ (w'.cell? ⟨B, 1, none⟩ = some (.int .i64 d)) ∧ (w'.cell? ⟨b1, o1 + i, none⟩ = some (.int .i64 ci)) ∧ (w'.cell? ⟨b1, o1 + j, none⟩ = some (.int .i64 cj)) ∧ (w'.cell? ⟨b3, o3 + i, none⟩ = some (.int .i64 xi)) ∧ (w'.cell? ⟨b3, o3 + j, none⟩ = some (.int .i64 xj)))
                (first | with_reducible exact p6 hbs hc1 hc2 hc3 hc4 hb1 hb1 hb4 hb4 hxk1 | with_reducible exact p6 hbs hc1 hc2 hc3 hc4 hb1 hb1 hb4 hb4 ((Ext.refl _).drew))
                ((first
                  | (go_at_call 75; refine (hcc _).mono ?_; rintro e v1 ⟨rfl, hx11⟩; have hxk1 := Ext.trans ((Ext.refl _).drew) hx11)))
              by_cases hzz : z = 2 * xi
              · have HOF : Hid (offP xs l d i j = false) := Lib.hid (by rw [HO.out, hzz]; simp)
                have hzb : (z != 2 * xi) = false := by simp [hzz]
                go_wp2_with fail
                exact ⟨⟨j + 1, by omega, by omega, by simp, Lib.hid (fun a b h1 h2 h3 => by
                  by_cases e : a = i ∧ b = j
                  · obtain ⟨rfl, rfl⟩ := e; exact HOF.out
                  · exact HG.out a b h1 h2 (by omega)), hx4.trans hxk1⟩, by simp only [intOf]; omega⟩
              · have HOF : Hid (offP xs l d i j = true) := Lib.hid (by rw [HO.out]; simp [hzz])
                have hzb : (z != 2 * xi) = true := by simp [hzz]
                go_wp2_with fail
                go_ret2
                refine .inr (.inr ⟨HP.out, HS.out, i, j, by omega, by omega, HG.out, HOF.out, _, rfl, ?_, ?_⟩)
                · exact (own_two _ _ _ _).rebase (by have := (((hx13.trans hx).trans hx4).trans hxk1).size; omega)
                · exact (((hx13.trans hx).trans hx4).trans hxk1).trans ((Ext.refl _).alloc _)
            · obtain rfl : j = xs.length := by omega
              go_wp2_with fail
              exact ⟨⟨i + 1, by omega, by simp, Lib.hid (fun a b h1 h2 h3 => by
                rcases Nat.lt_or_ge a i with h4 | h4
                · exact HF.out a b h1 h2 (.inl h4)
                · exact HG.out a b h1 h2 (.inr ⟨by omega, h2⟩)), hx3s⟩, by simp only [intOf]; omega⟩
        · obtain rfl : i = xs.length := by omega
          go_wp2_with fail
          go_ret2
          exact .inr (.inl ⟨HP.out, HS.out, HF.out, rfl, hx13.trans hx⟩)
end Go.Proofs.Ytcngecibljgndaa
