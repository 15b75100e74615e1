/- same, parts, and the law's own example: alive. -/
import Derived.Test.YtcngecibljgndaaMQV
namespace Go.Proofs.Ytcngecibljgndaa
open Go.RowKit Go.Shelf

theorem same_calls (w : World) (ao bo : Option Addr) (cap cap2 : Nat) (xs ys : List Int) (hI : IntsIn w ao xs) (hJ : IntsIn w bo ys) (hl : xs.length ≤ 1000000) (hl2 : ys.length ≤ 1000000) :
    Calls Try.prog 24 #[.slice ao xs.length cap, .slice bo ys.length cap2] w fun e w' => e = .returned (.bool (decide (xs = ys))) ∧ Ext w w' := by
  go_enter Try.func24, Try.ntmps24
  by_cases hlen : xs.length = ys.length
  · have hb : ((xs.length : Int) != (ys.length : Int)) = false := by simp; omega
    have HL := Lib.hid hlen
    clear hlen
    go_wp2_with fail
    go_loopw [5] (fun i wr => ∃ k : Nat, k ≤ xs.length ∧ i = .int .i64 k ∧ Ext w wr ∧ Hid (∀ j, j < k → ith xs j = ith ys j)) (fun i _ => xs.length - (intOf i).toNat)
    case atStart => exact ⟨0, by omega, rfl, Ext.refl _, Lib.hid (fun j hj => by omega)⟩
    case round =>
      obtain ⟨k, hk, rfl, hx, HK⟩ := hrel
      by_cases hlt : k < xs.length
      · have hlt2 : k < ys.length := by have := HL.out; omega
        obtain ⟨b, off, rfl, hbl, hc⟩ := hI.ext hx k hlt
        obtain ⟨b2, off2, rfl, hbl2, hc2⟩ := hJ.ext hx k hlt2
        by_cases he : ith xs k = ith ys k
        · have hne : (ith xs k != ith ys k) = false := by simp [he]
          have HE := Lib.hid he
          clear he
          go_wp2_with fail
          go_region
          go_wp2_with fail
          refine ⟨⟨k + 1, by omega, rfl, hx.drew, Lib.hid (fun j hj => ?_)⟩, by simp only [intOf]; omega⟩
          rcases Nat.lt_or_ge j k with h | h
          · exact HK.out j h
          · rw [show j = k by omega]; exact HE.out
        · have hne : (ith xs k != ith ys k) = true := by simp [he]
          have HN : Hid (decide (xs = ys) = false) := Lib.hid (by simp; rintro rfl; exact he rfl)
          clear he
          go_wp2_with fail
          go_region
          go_wp2_with fail
          go_ret
          exact ⟨ret_bool HN.out.symm, hx.drew⟩
      · have HY : Hid (decide (xs = ys) = true) := Lib.hid (by
          simp only [decide_eq_true_eq]
          refine List.ext_getElem HL.out (fun j h1 h2 => ?_)
          have := HK.out j (by omega)
          simpa [ith, h1, h2] using this)
        go_wp2_with fail
        go_ret
        exact ⟨ret_bool HY.out.symm, hx⟩
  · have hb : ((xs.length : Int) != (ys.length : Int)) = true := by simp; omega
    have HN : Hid (decide (xs = ys) = false) := Lib.hid (by simp; rintro rfl; exact hlen rfl)
    clear hlen
    go_wp2_with fail
    go_ret
    exact ⟨ret_bool HN.out.symm, Ext.refl _⟩

def partsB (d : Int) (xs : List Int) (e : Int) (ys : List Int) : Bool := (d == e) && decide (xs = ys)
theorem parts_calls (w : World) (ao bo : Option Addr) (cap cap2 : Nat) (xs ys : List Int) (d e : Int) (hI : IntsIn w ao xs) (hJ : IntsIn w bo ys) (hl : xs.length ≤ 1000000) (hl2 : ys.length ≤ 1000000) :
    Calls Try.prog 23 #[.agg #[.slice ao xs.length cap, .int .i64 d], .agg #[.slice bo ys.length cap2, .int .i64 e]] w fun r w' => r = .returned (.bool (partsB d xs e ys)) ∧ Ext w w' := by
  go_enter Try.func23, Try.ntmps23
  cases hd : (d == e) with
  | false =>
    have HD := Lib.hid hd
    go_wp2_with fail
    go_ret
    exact ⟨ret_bool (by simp [partsB, HD.out]), (by repeat (first | exact Ext.refl _ | assumption | refine Ext.alloc ?_ _ | refine Ext.drewN ?_ _ | refine Ext.drew ?_))⟩
  | true =>
    have HD := Lib.hid hd
    go_wp2_with fail
    refine (same_calls _ ao bo cap cap2 xs ys (hI.ext (by repeat (first | exact Ext.refl _ | assumption | refine Ext.alloc ?_ _ | refine Ext.drewN ?_ _ | refine Ext.drew ?_))) (hJ.ext (by repeat (first | exact Ext.refl _ | assumption | refine Ext.alloc ?_ _ | refine Ext.drewN ?_ _ | refine Ext.drew ?_))) hl hl2).mono ?_
    rintro r w2 ⟨rfl, hx2⟩
    have hx : Ext w w2 := (show Ext w _ from (by repeat (first | exact Ext.refl _ | assumption | refine Ext.alloc ?_ _ | refine Ext.drewN ?_ _ | refine Ext.drew ?_))).trans hx2
    go_wp2_with fail
    go_ret
    exact ⟨ret_bool (by simp [partsB, HD.out]), hx⟩

theorem three_cells (w : World) (a b c : Int) (t : TypeId) : Ext w (w.alloc (.cells #[.int .i64 a, .int .i64 b, .int .i64 c] t)) ∧ IntsIn (w.alloc (.cells #[.int .i64 a, .int .i64 b, .int .i64 c] t)) (some ⟨w.heap.size, 0, none⟩) [a, b, c] := by
  refine ⟨(Ext.refl _).alloc _, fun k hk => ?_⟩
  have hk3 : k < 3 := hk
  refine ⟨w.heap.size, 0, rfl, by simp, ?_⟩
  match k, hk3 with
  | 0, _ => simp [go_sem, ith]
  | 1, _ => simp [go_sem, ith]
  | 2, _ => simp [go_sem, ith]
set_option maxRecDepth 100000 in
set_option maxHeartbeats 2000000 in
theorem alive_calls (hT : TabledOK) (w : World) : Calls Try.prog 20 #[] w fun e w' => e = .returned (.bool true) ∧ Ext w w' := by
  go_enter Try.func20, Try.ntmps20
  go_wp2_with fail
  obtain ⟨hx1, hC1⟩ := three_cells w 100 200 300 3
  obtain ⟨H, hH⟩ : ∃ H, H = w.heap.size := ⟨_, rfl⟩
  generalize (w.alloc (.cells #[.int .i64 100, .int .i64 200, .int .i64 300] 3)) = w1 at *
  rw [← hH] at hC1 ⊢
  clear hH
  refine (share_calls w1 3 200 (some ⟨H, 0, none⟩) 3 [100, 200, 300] hC1 (by simp)).mono ?_
  rintro e w2 hR
  rcases hR with ⟨hn, _⟩ | ⟨q, v, hq, rfl, ho, hx2⟩
  · rw [closed_talmud] at hn; simp at hn
  rw [closed_talmud, Option.some.injEq] at hq
  subst hq
  obtain ⟨so, sc, rfl, hS2, -⟩ := ho.intsShape
  simp only [List.length_cons, List.length_nil, Nat.zero_add, Nat.reduceAdd] at hS2 ⊢
  have hx02 := hx1.trans hx2
  have hC2 := hC1.ext hx2
  clear ho
  go_wp2_with fail
  obtain ⟨b1, hb1⟩ : ∃ b1, b1 = w2.heap.size := ⟨_, rfl⟩
  have hx3 : Ext w2 (w2.alloc (Obj.cells #[.slice so 3 sc, .int .i64 1] 26)) := (by repeat (first | exact Ext.refl _ | assumption | refine Ext.alloc ?_ _ | refine Ext.drewN ?_ _ | refine Ext.drew ?_))
  have hc0 : (w2.alloc (Obj.cells #[.slice so 3 sc, .int .i64 1] 26)).cell? ⟨b1, 0, none⟩ = some (.slice so 3 sc) := by subst hb1; simp [go_sem]
  have hc1 : (w2.alloc (Obj.cells #[.slice so 3 sc, .int .i64 1] 26)).cell? ⟨b1, 1, none⟩ = some (.int .i64 1) := by subst hb1; simp [go_sem]
  have hbl : b1 < (w2.alloc (Obj.cells #[.slice so 3 sc, .int .i64 1] 26)).heap.size := by simp [hb1]
  generalize (w2.alloc (Obj.cells #[.slice so 3 sc, .int .i64 1] 26)) = w3 at *
  rw [← hb1]
  clear hb1
  refine (share_calls w3 4 200 (some ⟨H, 0, none⟩) 3 [100, 200, 300] (hC2.ext hx3) (by simp)).mono ?_
  rintro e w4 hR
  rcases hR with ⟨hn, _⟩ | ⟨q, v, hq, rfl, ho, hx4⟩
  · rw [closed_run] at hn; simp at hn
  rw [closed_run, Option.some.injEq] at hq
  subst hq
  obtain ⟨so2, sc2, rfl, hS4, -⟩ := ho.intsShape
  simp only [List.length_cons, List.length_nil, Nat.zero_add, Nat.reduceAdd] at hS4 ⊢
  have hx24 := hx3.trans hx4
  have hC4 := hC2.ext hx24
  have hS24 := hS2.ext hx24
  have hd0 := (hx4.cell (p := ⟨b1, 0, none⟩) hbl).trans hc0
  have hd1 := (hx4.cell (p := ⟨b1, 1, none⟩) hbl).trans hc1
  have hbl4 := Nat.lt_of_lt_of_le hbl hx4.size
  have hx04 := hx02.trans hx24
  clear ho hc0 hc1 hbl
  go_wp2_with fail
  obtain ⟨b2, hb2⟩ : ∃ b2, b2 = w4.heap.size := ⟨_, rfl⟩
  have hx5 : Ext w4 (w4.alloc (Obj.cells #[.slice so2 3 sc2, .int .i64 3] 26)) := (by repeat (first | exact Ext.refl _ | assumption | refine Ext.alloc ?_ _ | refine Ext.drewN ?_ _ | refine Ext.drew ?_))
  have hc0 : (w4.alloc (Obj.cells #[.slice so2 3 sc2, .int .i64 3] 26)).cell? ⟨b2, 0, none⟩ = some (.slice so2 3 sc2) := by subst hb2; simp [go_sem]
  have hc1 : (w4.alloc (Obj.cells #[.slice so2 3 sc2, .int .i64 3] 26)).cell? ⟨b2, 1, none⟩ = some (.int .i64 3) := by subst hb2; simp [go_sem]
  have hbl2 : b2 < (w4.alloc (Obj.cells #[.slice so2 3 sc2, .int .i64 3] 26)).heap.size := by simp [hb2]
  generalize (w4.alloc (Obj.cells #[.slice so2 3 sc2, .int .i64 3] 26)) = w5 at *
  have hp : IsProb 200 [100, 200, 300] := (probB_true _ _).1 (by decide)
  have hsh : IsSh 200 [100, 200, 300] [50, 75, 75] 1 := by have := closed_is; simpa [isB] using this
  have hnc := nucleolus_calls hT w5 200 (some ⟨H, 0, none⟩) so 3 sc [100, 200, 300] [50, 75, 75] 1 30 (hC4.ext hx5) (hS24.ext hx5) hp (by decide) hsh closed_levels
  simp only [List.length_cons, List.length_nil, Nat.zero_add, Nat.reduceAdd] at hnc
  rw [← hb2]
  clear hb2
  have hf0 := (hx5.cell (p := ⟨b1, 0, none⟩) hbl4).trans hd0
  have hf1 := (hx5.cell (p := ⟨b1, 1, none⟩) hbl4).trans hd1
  have hbl5 := Nat.lt_of_lt_of_le hbl4 hx5.size
  go_wp2_with fail
  refine hnc.mono ?_
  rintro e w6 ⟨rfl, hx6⟩
  have hx56 := hx5.trans hx6
  have g0 := (hx6.cell (p := ⟨b1, 0, none⟩) hbl5).trans hf0
  have g1 := (hx6.cell (p := ⟨b1, 1, none⟩) hbl5).trans hf1
  have g2 := (hx6.cell (p := ⟨b2, 0, none⟩) hbl2).trans hc0
  have g3 := (hx6.cell (p := ⟨b2, 1, none⟩) hbl2).trans hc1
  have hbl6 := Nat.lt_of_lt_of_le hbl5 hx6.size
  have hbl26 := Nat.lt_of_lt_of_le hbl2 hx6.size
  have hS6 := hS24.ext hx56
  have hS46 := hS4.ext hx56
  have hx06 := hx04.trans hx56
  clear hnc hf0 hf1 hd0 hd1 hc0 hc1 hp hsh
  go_wp2_with fail
  obtain ⟨hx7, hK7⟩ := three_cells w6 50 75 75 3
  generalize (w6.alloc (.cells #[.int .i64 50, .int .i64 75, .int .i64 75] 3)) = w7 at *
  obtain ⟨Q, hQ⟩ : ∃ Q, Q = w6.heap.size := ⟨_, rfl⟩
  rw [← hQ] at hK7 ⊢
  clear hQ
  have hp1 := parts_calls w7 so (some ⟨Q, 0, none⟩) sc 3 [50, 75, 75] [50, 75, 75] 1 1 (hS6.ext hx7) hK7 (by simp) (by simp)
  simp only [List.length_cons, List.length_nil, Nat.zero_add, Nat.reduceAdd] at hp1
  refine hp1.mono ?_
  rintro e w8 ⟨rfl, hx8⟩
  rw [show partsB 1 [50, 75, 75] 1 [50, 75, 75] = true by decide]
  have hx78 := hx7.trans hx8
  have i2 := (hx78.cell (p := ⟨b2, 0, none⟩) hbl26).trans g2
  have i3 := (hx78.cell (p := ⟨b2, 1, none⟩) hbl26).trans g3
  have hbl8 := Nat.lt_of_lt_of_le hbl26 hx78.size
  have hS8 := hS46.ext hx78
  have hx08 := hx06.trans hx78
  clear hp1 g2 g3 g0 g1
  go_wp2_with fail
  obtain ⟨hx9, hK9⟩ := three_cells w8 100 250 250 3
  generalize (w8.alloc (.cells #[.int .i64 100, .int .i64 250, .int .i64 250] 3)) = w9 at *
  obtain ⟨Q2, hQ2⟩ : ∃ Q2, Q2 = w8.heap.size := ⟨_, rfl⟩
  rw [← hQ2] at hK9 ⊢
  clear hQ2
  have hp2 := parts_calls w9 so2 (some ⟨Q2, 0, none⟩) sc2 3 [100, 250, 250] [100, 250, 250] 3 3 (hS8.ext hx9) hK9 (by simp) (by simp)
  simp only [List.length_cons, List.length_nil, Nat.zero_add, Nat.reduceAdd] at hp2
  refine hp2.mono ?_
  rintro e w10 ⟨rfl, hx10⟩
  rw [show partsB 3 [100, 250, 250] 3 [100, 250, 250] = true by decide]
  have hx0 := hx08.trans (hx9.trans hx10)
  clear hp2 i2 i3
  go_wp2_with fail
  go_ret
  exact ⟨rfl, hx0⟩
end Go.Proofs.Ytcngecibljgndaa
