/- same, parts, and the law's own example: alive. -/
import Derived.Test.YtcngecibljgndaaMBK
import Derived.Test.YtcngecibljgndaaMQPD
import Derived.Test.YtcngecibljgndaaMQH
import Derived.Deep.DeepCutAuto
import Derived.Test.YtcngecibljgndaaMQTA
namespace Go.Proofs.Ytcngecibljgndaa
open Go.RowKit Go.Shelf

theorem same_calls (w : World) (ao bo : Option Addr) (cap cap2 : Nat) (xs ys : List Int) (hI : IntsIn w ao xs) (hJ : IntsIn w bo ys) (hl : xs.length ≤ 1000000) (hl2 : ys.length ≤ 1000000) :
    Calls Try.prog 24 #[.slice ao xs.length cap, .slice bo ys.length cap2] w fun e w' => e = .returned (.bool (decide (xs = ys))) ∧ Ext w w' := by
  go_enter Try.func24, Try.ntmps24
  by_cases hlen : xs.length = ys.length
  · have hb : ((xs.length : Int) != (ys.length : Int)) = false := by simp; omega
    have HL := Lib.hid hlen
    clear hlen
    go_wp2_with fail
    go_loopw [5] (fun i wr => ∃ k : Nat, k ≤ xs.length ∧ i = .int .i64 k ∧ Ext w wr ∧ Hid (∀ j, j < k → ith xs j = ith ys j)) (fun i _ => xs.length - (intOf i).toNat)
    case atStart => exact ⟨0, by omega, rfl, Ext.refl _, Lib.hid (fun j hj => by omega)⟩
    case round =>
      obtain ⟨k, hk, rfl, hx, HK⟩ := hrel
      by_cases hlt : k < xs.length
      · have hlt2 : k < ys.length := by have := HL.out; omega
        obtain ⟨b, off, rfl, hbl, hc⟩ := hI.ext hx k hlt
        obtain ⟨b2, off2, rfl, hbl2, hc2⟩ := hJ.ext hx k hlt2
        by_cases he : ith xs k = ith ys k
        · have hne : (ith xs k != ith ys k) = false := by simp [he]
          have HE := Lib.hid he
          clear he
          go_wp2_with fail
          go_region
          go_wp2_with fail
          refine ⟨⟨k + 1, by omega, rfl, hx.drew, Lib.hid (fun j hj => ?_)⟩, by simp only [intOf]; omega⟩
          rcases Nat.lt_or_ge j k with h | h
          · exact HK.out j h
          · rw [show j = k by omega]; exact HE.out
        · have hne : (ith xs k != ith ys k) = true := by simp [he]
          have HN : Hid (decide (xs = ys) = false) := Lib.hid (by simp; rintro rfl; exact he rfl)
          clear he
          go_wp2_with fail
          go_region
          go_wp2_with fail
          go_ret
          exact ⟨ret_bool HN.out.symm, hx.drew⟩
      · have HY : Hid (decide (xs = ys) = true) := Lib.hid (by
          simp only [decide_eq_true_eq]
          refine List.ext_getElem HL.out (fun j h1 h2 => ?_)
          have := HK.out j (by omega)
          simpa [ith, h1, h2] using this)
        go_wp2_with fail
        go_ret
        exact ⟨ret_bool HY.out.symm, hx⟩
  · have hb : ((xs.length : Int) != (ys.length : Int)) = true := by simp; omega
    have HN : Hid (decide (xs = ys) = false) := Lib.hid (by simp; rintro rfl; exact hlen rfl)
    clear hlen
    go_wp2_with fail
    go_ret
    exact ⟨ret_bool HN.out.symm, Ext.refl _⟩

def partsB (d : Int) (xs : List Int) (e : Int) (ys : List Int) : Bool := (d == e) && decide (xs = ys)
theorem parts_calls (w : World) (ao bo : Option Addr) (cap cap2 : Nat) (xs ys : List Int) (d e : Int) (hI : IntsIn w ao xs) (hJ : IntsIn w bo ys) (hl : xs.length ≤ 1000000) (hl2 : ys.length ≤ 1000000) :
    Calls Try.prog 23 #[.agg #[.slice ao xs.length cap, .int .i64 d], .agg #[.slice bo ys.length cap2, .int .i64 e]] w fun r w' => r = .returned (.bool (partsB d xs e ys)) ∧ Ext w w' := by
  go_enter Try.func23, Try.ntmps23
  cases hd : (d == e) with
  | false =>
    have HD := Lib.hid hd
    go_wp2_with fail
    go_ret
    exact ⟨ret_bool (by simp [partsB, HD.out]), (by repeat (first | exact Ext.refl _ | assumption | refine Ext.alloc ?_ _ | refine Ext.drewN ?_ _ | refine Ext.drew ?_))⟩
  | true =>
    have HD := Lib.hid hd
    go_wp2_with fail
    refine (same_calls _ ao bo cap cap2 xs ys (hI.ext (by repeat (first | exact Ext.refl _ | assumption | refine Ext.alloc ?_ _ | refine Ext.drewN ?_ _ | refine Ext.drew ?_))) (hJ.ext (by repeat (first | exact Ext.refl _ | assumption | refine Ext.alloc ?_ _ | refine Ext.drewN ?_ _ | refine Ext.drew ?_))) hl hl2).mono ?_
    rintro r w2 ⟨rfl, hx2⟩
    have hx : Ext w w2 := (show Ext w _ from (by repeat (first | exact Ext.refl _ | assumption | refine Ext.alloc ?_ _ | refine Ext.drewN ?_ _ | refine Ext.drew ?_))).trans hx2
    go_wp2_with fail
    go_ret
    exact ⟨ret_bool (by simp [partsB, HD.out]), hx⟩

theorem three_cells (w : World) (a b c : Int) (t : TypeId) : Ext w (w.alloc (.cells #[.int .i64 a, .int .i64 b, .int .i64 c] t)) ∧ IntsIn (w.alloc (.cells #[.int .i64 a, .int .i64 b, .int .i64 c] t)) (some ⟨w.heap.size, 0, none⟩) [a, b, c] := by
  refine ⟨(Ext.refl _).alloc _, fun k hk => ?_⟩
  have hk3 : k < 3 := hk
  refine ⟨w.heap.size, 0, rfl, by simp, ?_⟩
  match k, hk3 with
  | 0, _ => simp [go_sem, ith]
  | 1, _ => simp [go_sem, ith]
  | 2, _ => simp [go_sem, ith]
set_option maxRecDepth 100000 in
set_option maxHeartbeats 2000000 in
theorem alive_calls (hT : TabledOK) (w : World) : Calls Try.prog 20 #[] w fun e w' => e = .returned (.bool true) ∧ Ext w w' := by
  go_enter Try.func20, Try.ntmps20
  go_wp2_with fail
  obtain ⟨hx1, hC1⟩ := three_cells w 100 200 300 3
  obtain ⟨H, hH⟩ : ∃ H, H = w.heap.size := ⟨_, rfl⟩
  generalize (w.alloc (.cells #[.int .i64 100, .int .i64 200, .int .i64 300] 3)) = w1 at *
  rw [← hH] at hC1 ⊢
  clear hH
  refine (share_calls w1 3 200 (some ⟨H, 0, none⟩) 3 [100, 200, 300] hC1 (by simp)).mono ?_
  rintro e w2 hR
  rcases hR with ⟨hn, _⟩ | ⟨q, v, hq, rfl, ho, hx2⟩
  · rw [closed_talmud] at hn; simp at hn
  rw [closed_talmud, Option.some.injEq] at hq
  subst hq
  obtain ⟨so, sc, rfl, hS2, -⟩ := ho.intsShape
  simp only [List.length_cons, List.length_nil, Nat.zero_add, Nat.reduceAdd] at hS2 ⊢
  have hx02 := hx1.trans hx2
  have hC2 := hC1.ext hx2
  clear ho
  go_wp2_with fail
  obtain ⟨b1, hb1⟩ : ∃ b1, b1 = w2.heap.size := ⟨_, rfl⟩
  have hx3 : Ext w2 (w2.alloc (Obj.cells #[.slice so 3 sc, .int .i64 1] 26)) := (by repeat (first | exact Ext.refl _ | assumption | refine Ext.alloc ?_ _ | refine Ext.drewN ?_ _ | refine Ext.drew ?_))
  have hc0 : (w2.alloc (Obj.cells #[.slice so 3 sc, .int .i64 1] 26)).cell? ⟨b1, 0, none⟩ = some (.slice so 3 sc) := by subst hb1; simp [go_sem]
  have hc1 : (w2.alloc (Obj.cells #[.slice so 3 sc, .int .i64 1] 26)).cell? ⟨b1, 1, none⟩ = some (.int .i64 1) := by subst hb1; simp [go_sem]
  have hbl : b1 < (w2.alloc (Obj.cells #[.slice so 3 sc, .int .i64 1] 26)).heap.size := by simp [hb1]
  generalize (w2.alloc (Obj.cells #[.slice so 3 sc, .int .i64 1] 26)) = w3 at *
  rw [← hb1]
  clear hb1
  refine (share_calls w3 4 200 (some ⟨H, 0, none⟩) 3 [100, 200, 300] (hC2.ext hx3) (by simp)).mono ?_
  rintro e w4 hR
  rcases hR with ⟨hn, _⟩ | ⟨q, v, hq, rfl, ho, hx4⟩
  · rw [closed_run] at hn; simp at hn
  rw [closed_run, Option.some.injEq] at hq
  subst hq
  obtain ⟨so2, sc2, rfl, hS4, -⟩ := ho.intsShape
  simp only [List.length_cons, List.length_nil, Nat.zero_add, Nat.reduceAdd] at hS4 ⊢
  have hx24 := hx3.trans hx4
  have hC4 := hC2.ext hx24
  have hS24 := hS2.ext hx24
  have hd0 := (hx4.cell (p := ⟨b1, 0, none⟩) hbl).trans hc0
  have hd1 := (hx4.cell (p := ⟨b1, 1, none⟩) hbl).trans hc1
  have hbl4 := Nat.lt_of_lt_of_le hbl hx4.size
  have hx04 := hx02.trans hx24
  clear ho hc0 hc1 hbl
  go_wp2_with fail
  obtain ⟨b2, hb2⟩ : ∃ b2, b2 = w4.heap.size := ⟨_, rfl⟩
  have hx5 : Ext w4 (w4.alloc (Obj.cells #[.slice so2 3 sc2, .int .i64 3] 26)) := (by repeat (first | exact Ext.refl _ | assumption | refine Ext.alloc ?_ _ | refine Ext.drewN ?_ _ | refine Ext.drew ?_))
  have hc0 : (w4.alloc (Obj.cells #[.slice so2 3 sc2, .int .i64 3] 26)).cell? ⟨b2, 0, none⟩ = some (.slice so2 3 sc2) := by subst hb2; simp [go_sem]
  have hc1 : (w4.alloc (Obj.cells #[.slice so2 3 sc2, .int .i64 3] 26)).cell? ⟨b2, 1, none⟩ = some (.int .i64 3) := by subst hb2; simp [go_sem]
  have hbl2 : b2 < (w4.alloc (Obj.cells #[.slice so2 3 sc2, .int .i64 3] 26)).heap.size := by simp [hb2]
  generalize (w4.alloc (Obj.cells #[.slice so2 3 sc2, .int .i64 3] 26)) = w5 at *
  have hp : IsProb 200 [100, 200, 300] := (probB_true _ _).1 (by decide)
  have hsh : IsSh 200 [100, 200, 300] [50, 75, 75] 1 := by have := closed_is; simpa [isB] using this
  have hnc := nucleolus_calls hT w5 200 (some ⟨H, 0, none⟩) so 3 sc [100, 200, 300] [50, 75, 75] 1 30 (hC4.ext hx5) (hS24.ext hx5) hp (by decide) hsh closed_levels
  simp only [List.length_cons, List.length_nil, Nat.zero_add, Nat.reduceAdd] at hnc
  rw [← hb2]
  clear hb2
  have hf0 := (hx5.cell (p := ⟨b1, 0, none⟩) hbl4).trans hd0
  have hf1 := (hx5.cell (p := ⟨b1, 1, none⟩) hbl4).trans hd1
  have hbl5 := Nat.lt_of_lt_of_le hbl4 hx5.size
  go_wp2_with fail
  refine hnc.mono ?_
  rintro e w6 ⟨rfl, hx6⟩
  have hx56 := hx5.trans hx6
  have g0 := (hx6.cell (p := ⟨b1, 0, none⟩) hbl5).trans hf0
  have g1 := (hx6.cell (p := ⟨b1, 1, none⟩) hbl5).trans hf1
  have g2 := (hx6.cell (p := ⟨b2, 0, none⟩) hbl2).trans hc0
  have g3 := (hx6.cell (p := ⟨b2, 1, none⟩) hbl2).trans hc1
  have hbl6 := Nat.lt_of_lt_of_le hbl5 hx6.size
  have hbl26 := Nat.lt_of_lt_of_le hbl2 hx6.size
  have hS6 := hS24.ext hx56
  have hS46 := hS4.ext hx56
  have hx06 := hx04.trans hx56
  clear hnc hf0 hf1 hd0 hd1 hc0 hc1 hp hsh
  go_wp2_with fail
  obtain ⟨hx7, hK7⟩ := three_cells w6 50 75 75 3
  generalize (w6.alloc (.cells #[.int .i64 50, .int .i64 75, .int .i64 75] 3)) = w7 at *
  obtain ⟨Q, hQ⟩ : ∃ Q, Q = w6.heap.size := ⟨_, rfl⟩
  rw [← hQ] at hK7 ⊢
  clear hQ
  have hp1 := parts_calls w7 so (some ⟨Q, 0, none⟩) sc 3 [50, 75, 75] [50, 75, 75] 1 1 (hS6.ext hx7) hK7 (by simp) (by simp)
  simp only [List.length_cons, List.length_nil, Nat.zero_add, Nat.reduceAdd] at hp1
  refine hp1.mono ?_
  rintro e w8 ⟨rfl, hx8⟩
  rw [show partsB 1 [50, 75, 75] 1 [50, 75, 75] = true by decide]
  have hx78 := hx7.trans hx8
  have i2 := (hx78.cell (p := ⟨b2, 0, none⟩) hbl26).trans g2
  have i3 := (hx78.cell (p := ⟨b2, 1, none⟩) hbl26).trans g3
  have hbl8 := Nat.lt_of_lt_of_le hbl26 hx78.size
  have hS8 := hS46.ext hx78
  have hx08 := hx06.trans hx78
  clear hp1 g2 g3 g0 g1
  go_wp2_with fail
  obtain ⟨hx9, hK9⟩ := three_cells w8 100 250 250 3
  generalize (w8.alloc (.cells #[.int .i64 100, .int .i64 250, .int .i64 250] 3)) = w9 at *
  obtain ⟨Q2, hQ2⟩ : ∃ Q2, Q2 = w8.heap.size := ⟨_, rfl⟩
  rw [← hQ2] at hK9 ⊢
  clear hQ2
  have hp2 := parts_calls w9 so2 (some ⟨Q2, 0, none⟩) sc2 3 [100, 250, 250] [100, 250, 250] 3 3 (hS8.ext hx9) hK9 (by simp) (by simp)
  simp only [List.length_cons, List.length_nil, Nat.zero_add, Nat.reduceAdd] at hp2
  refine hp2.mono ?_
  rintro e w10 ⟨rfl, hx10⟩
  rw [show partsB 3 [100, 250, 250] 3 [100, 250, 250] = true by decide]
  have hx0 := hx08.trans (hx9.trans hx10)
  clear hp2 i2 i3
  go_wp2_with fail
  go_ret
  exact ⟨rfl, hx0⟩
end Go.Proofs.Ytcngecibljgndaa

/- later: the walk. -/
namespace Go.Proofs.Ytcngecibljgndaa
open Go.RowKit Go.Shelf
theorem cmpQ_cases (a b : Int) (x y : Int) (hx : 0 < x) (hy : 0 < y) : cmpQ (Rat.divInt a x) (Rat.divInt b y) = if a * y < b * x then -1 else if b * x < a * y then 1 else 0 := by
  have key : ∀ a x b y : Int, 0 < x → 0 < y → (Rat.divInt a x < Rat.divInt b y ↔ a * y < b * x) := fun a x b y hx hy => by
    constructor
    · intro h
      refine Classical.byContradiction fun hn => ?_
      have := divInt_le hy hx (show b * x ≤ a * y by omega)
      exact Rat.not_lt.2 this h
    · intro h
      rw [← Rat.not_le]
      intro hle
      have h1 := divInt_le hx hy (show a * y ≤ b * x by omega)
      have h2 := (Rat.divInt_eq_divInt_iff (by omega) (by omega)).1 (Rat.le_antisymm h1 hle)
      omega
  unfold cmpQ
  simp only [key a x b y hx hy, key b y a x hy hx]
end Go.Proofs.Ytcngecibljgndaa

/- The specification's garment. -/
namespace Go.Proofs.Ytcngecibljgndaa
open Go.RowKit Go.Shelf
abbrev put4 (w : World) (C : Nat) (u v x y : Value) : World := (((w.setCell ⟨C, 0, none⟩ u).setCell ⟨C, 1, none⟩ v).setCell ⟨C, 2, none⟩ x).setCell ⟨C, 3, none⟩ y
theorem divInt_sub_same {a b d : Int} (h : d ≠ 0) : Rat.divInt a d - Rat.divInt b d = Rat.divInt (a - b) d := by
  rw [Rat.divInt_sub_divInt _ _ h h, ← Int.sub_mul]
  exact (Rat.divInt_eq_divInt_iff (Int.mul_ne_zero h h) h).2 (by ac_rfl)
theorem divInt_add_same {a b d : Int} (h : d ≠ 0) : Rat.divInt a d + Rat.divInt b d = Rat.divInt (a + b) d := by
  rw [Rat.divInt_add_divInt _ _ h h, ← Int.add_mul]
  exact (Rat.divInt_eq_divInt_iff (Int.mul_ne_zero h h) h).2 (by ac_rfl)
theorem Spot4.new (w : World) (t : TypeId) : Spot4 (w.alloc (Obj.cells #[.bool false, .slice none 0 0, .bool false, .slice none 0 0] t)) w.heap.size := ⟨by simp, by simp [go_sem], by simp [go_sem], by simp [go_sem], by simp [go_sem], by simp [go_sem], by simp [go_sem], by simp [go_sem], by simp [go_sem]⟩
/-- A number's digits do not lie in a block. -/
def Off (zo : Option Addr) (A C : Nat) : Prop := A ≠ 0 → ∀ a, zo = some a → a.block ≠ C
theorem DigsIn.far {w w' : World} {zo : Option Addr} {n A C : Nat} (h : DigsIn w zo n A) (hg : w.grownBy w' (some C)) (ho : Off zo A C) : DigsIn w' zo n A := by
  by_cases hA : A = 0
  · refine ⟨h.len, fun k hk => ?_⟩
    have := h.len
    omega
  · exact ⟨h.len, h.ints.grown hg (fun a ha e => ho hA a ha (by simpa using e))⟩
theorem QNum.far {w w' : World} {q : Rat} {nb mb : Bool} {zo yo : Option Addr} {A B C : Nat} (h : QNum w q nb zo A mb yo B) (hg : w.grownBy w' (some C)) (hz : Off zo A C) (hy : Off yo B C) : QNum w' q nb zo A mb yo B :=
  ⟨⟨h.num.neg, h.num.digs.far hg hz⟩, ⟨h.den.neg, h.den.digs.far hg hy⟩⟩
theorem DigsIn.lt {w : World} {zo : Option Addr} {n A : Nat} (h : DigsIn w zo n A) (hA : A ≠ 0) : ∀ a, zo = some a → a.block < w.heap.size := by
  intro a ha
  obtain ⟨b, off, he, hb, -⟩ := h.at_ 0 (by omega)
  rw [ha, Option.some.injEq] at he
  subst he
  exact hb
/-- A box with a fraction in it, that may be filled anew. -/
structure BoxQ (w : World) (C : Nat) (q : Rat) (nb : Bool) (zo : Option Addr) (A zc : Nat) (mb : Bool) (yo : Option Addr) (B yc : Nat) : Prop where
  box : QBox w C (.bool nb) (.slice zo A zc) (.bool mb) (.slice yo B yc)
  spot : Spot4 w C
  num : QNum w q nb zo A mb yo B
theorem BoxQ.ext {w w' : World} {C : Nat} {q : Rat} {nb mb : Bool} {zo yo : Option Addr} {A zc B yc : Nat} (h : BoxQ w C q nb zo A zc mb yo B yc) (hx : Ext w w') : BoxQ w' C q nb zo A zc mb yo B yc := ⟨h.box.ext hx, h.spot.ext hx, h.num.ext hx⟩
theorem BoxQ.put {w : World} {C : Nat} {q : Rat} {nb mb : Bool} {zo yo : Option Addr} {A zc B yc : Nat} (hs : Spot4 w C) (h : QNum w q nb zo A mb yo B) (hz : Off zo A C) (hy : Off yo B C) : BoxQ (put4 w C (.bool nb) (.slice zo A zc) (.bool mb) (.slice yo B yc)) C q nb zo A zc mb yo B yc := by
  obtain ⟨r0, r1, r2, r3⟩ := hs.put (.bool nb) (.slice zo A zc) (.bool mb) (.slice yo B yc)
  refine ⟨⟨r0, r1, r2, r3, by simpa [World.setCell] using hs.lt⟩, ?_, h.far (grown_put4 _ _ _ _ _ _) hz hy⟩
  refine ⟨by simpa [World.setCell] using hs.lt, by rw [r0]; rfl, by rw [r1]; rfl, by rw [r2]; rfl, by rw [r3]; rfl, ?_, ?_, ?_, ?_⟩
  all_goals simp only [put4, World.frozen?_setCell]
  · exact hs.free0
  · exact hs.free1
  · exact hs.free2
  · exact hs.free3
theorem BoxQ.made {w : World} (t : TypeId) {q : Rat} {nb mb : Bool} {zo yo : Option Addr} {A zc B yc : Nat} (h : QNum w q nb zo A mb yo B) : BoxQ (w.alloc (.cells #[.bool nb, .slice zo A zc, .bool mb, .slice yo B yc] t)) w.heap.size q nb zo A zc mb yo B yc :=
  ⟨⟨by simp [go_sem], by simp [go_sem], by simp [go_sem], by simp [go_sem], by simp⟩, ⟨by simp, by simp [go_sem], by simp [go_sem], by simp [go_sem], by simp [go_sem], by simp [go_sem], by simp [go_sem], by simp [go_sem], by simp [go_sem]⟩, h.ext ((Ext.refl _).alloc _)⟩
section
variable {w0 v : World} {C D : Nat} {p q : Rat} {nb mb kb lb : Bool} {zo yo xo vo : Option Addr} {A zc B yc P xc N vc : Nat}
end
end Go.Proofs.Ytcngecibljgndaa

/- The specification's equal division, step by step; plain. -/
namespace Go.Proofs.Ytcngecibljgndaa
open Go.RowKit Go.Shelf

theorem divInt_lt {a x b y : Int} (hx : 0 < x) (hy : 0 < y) : Rat.divInt a x < Rat.divInt b y ↔ a * y < b * x := by
  constructor
  · intro h
    refine Classical.byContradiction fun hn => ?_
    have := divInt_le hy hx (show b * x ≤ a * y by omega)
    exact Rat.not_lt.2 this h
  · intro h
    rw [← Rat.not_le]
    intro hle
    have h1 := divInt_le hx hy (show a * y ≤ b * x by omega)
    have h2 := (Rat.divInt_eq_divInt_iff (by omega) (by omega)).1 (Rat.le_antisymm h1 hle)
    omega
theorem divInt_eq {a b c d : Int} (hb : b ≠ 0) (hd : d ≠ 0) (h : a * d = c * b) : Rat.divInt a b = Rat.divInt c d := (Rat.divInt_eq_divInt_iff hb hd).2 h
theorem divInt_over1 {a b k : Int} (hb : b ≠ 0) (hk : k ≠ 0) : Rat.divInt a b / Rat.divInt k 1 = Rat.divInt a (b * k) := by
  rw [Rat.div_def, Rat.inv_divInt, Rat.divInt_mul_divInt]
  exact divInt_eq (by simp [hb, hk]) (Int.mul_ne_zero hb hk) (by simp)
/-- An equal division, half done: nobody is held back yet. -/
structure EqA (C : Nat → Int) (n : Nat) (F : Int) (done : List Bool) (many : Nat) (out : Nat → Rat) (e : Rat) (f : Int) : Prop where
  val : e = Rat.divInt f 2
  low : 0 ≤ f
  sum : f + (sm n fun i => if bth done i = true then C i else 0) = F
  got : ∀ i, i < n → bth done i = true → out i = Rat.divInt (C i) 2
  fit : ∀ i, i < n → bth done i = true → C i * many ≤ f
/-- An equal division, half done: the same for all that are left. -/
structure EqB (C : Nat → Int) (n : Nat) (F : Int) (done : List Bool) (many : Nat) (out : Nat → Rat) (e : Rat) (f : Int) (m : Nat) : Prop where
  m1 : 1 ≤ m ∧ m ≤ 7
  val : e = Rat.divInt (f * many) (2 * m)
  low : 0 ≤ f ∧ f ≤ F
  got : ∀ i, i < n → bth done i = true → out i = Rat.divInt (min (C i * m) f) (2 * m)
  held : ∀ i, i < n → bth done i = false → f ≤ C i * m
  sum : f * many + (sm n fun i => if bth done i = true then min (C i * m) f else 0) = F * m
structure EqSt (C : Nat → Int) (n : Nat) (F : Int) (done : List Bool) (many : Nat) (out : Nat → Rat) (e : Rat) : Prop where
  len : done.length = n
  cnt : wait done n = many
  ord : ∀ i j, i < n → j < n → bth done i = true → bth done j = false → C i ≤ C j
  case_ : (∃ f, EqA C n F done many out e f) ∨ ∃ f m, EqB C n F done many out e f m
theorem sm_done {n : Nat} {done : List Bool} (g : Nat → Int) {a : Nat} (ha : a < n) (hl : done.length = n) (hd : bth done a = false) :
    (sm n fun i => if bth (done.set a true) i = true then g i else 0) = (sm n fun i => if bth done i = true then g i else 0) + g a := by
  have h1 := sm_split (fun i => if bth (done.set a true) i = true then g i else 0) a n ha
  have h2 := sm_split (fun i => if bth done i = true then g i else 0) a n ha
  have h3 : (sm n fun m => if m = a then 0 else if bth (done.set a true) m = true then g m else 0) = sm n fun m => if m = a then 0 else if bth done m = true then g m else 0 := sm_congr n (fun i hi => by
    by_cases e : i = a
    · rw [if_pos e, if_pos e]
    · rw [if_neg e, if_neg e, bth_set _ _ _ _ (by omega), if_neg e])
  have h4 : bth (done.set a true) a = true := by rw [bth_set _ _ _ _ (by omega), if_pos rfl]
  rw [h3] at h1
  simp only [h4, hd, if_true, if_false, Bool.false_eq_true] at h1 h2
  omega
theorem EqSt.start {C : Nat → Int} {n : Nat} {F : Int} (hF : 0 ≤ F) : EqSt C n F (List.replicate n false) n (fun _ => 0) (Rat.divInt F 2) := by
  have h0 : ∀ i, bth (List.replicate n false) i = false := fun i => by
    unfold bth
    by_cases h : i < n <;> simp [h]
  refine ⟨by simp, ?_, fun i j _ _ h => (by rw [h0] at h; simp at h), .inl ⟨F, rfl, hF, ?_, fun i _ h => (by rw [h0] at h; simp at h), fun i _ h => (by rw [h0] at h; simp at h)⟩⟩
  · unfold wait
    rw [List.filter_eq_self.2 (fun i _ => by rw [h0]; rfl)]; simp
  · rw [sm_all0 n (fun i _ => by rw [h0]; rfl)]; omega
/-- What the next one gets. -/
def eqX (C : Nat → Int) (e : Rat) (many : Nat) (a : Nat) : Rat := if Rat.divInt (C a) 2 < e / Rat.divInt many 1 then Rat.divInt (C a) 2 else e / Rat.divInt many 1
theorem EqSt.step {C : Nat → Int} {n : Nat} {F : Int} {done : List Bool} {many : Nat} {out : Nat → Rat} {e : Rat} (h : EqSt C n F done (many + 1) out e) (hm : many + 1 ≤ 7) (h0 : ∀ i, i < n → 0 ≤ C i) {a : Nat} (ha : a < n) (hd : bth done a = false) (hleast : ∀ j, j < n → bth done j = false → C a ≤ C j) :
    EqSt C n F (done.set a true) many (fun i => if i = a then eqX C e (many + 1) a else out i) (e - eqX C e (many + 1) a) := by
  have hset : ∀ i, bth (done.set a true) i = if i = a then true else bth done i := fun i => bth_set _ _ _ _ (by have := h.len; omega)
  have hsd := fun g : Nat → Int => sm_done g ha h.len hd
  have hord : ∀ i j, i < n → j < n → bth (done.set a true) i = true → bth (done.set a true) j = false → C i ≤ C j := fun i j hi hj h1 h2 => by
    rw [hset] at h1 h2
    by_cases e2 : j = a
    · rw [if_pos e2] at h2; simp at h2
    · rw [if_neg e2] at h2
      by_cases e1 : i = a
      · rw [e1]; exact hleast j hj h2
      · rw [if_neg e1] at h1; exact h.ord i j hi hj h1 h2
  have hcnt : wait (done.set a true) n = many := by
    have := wait_set done a (by have := h.len; omega) hd n
    rw [if_pos ha, h.cnt] at this
    omega
  have hmz : ((many + 1 : Nat) : Int) ≠ 0 := by omega
  refine ⟨by simp [h.len], hcnt, hord, ?_⟩
  rcases h.case_ with ⟨f, hA⟩ | ⟨f, m, hB⟩
  · have hpart : e / Rat.divInt ((many + 1 : Nat) : Int) 1 = Rat.divInt f (2 * ((many + 1 : Nat) : Int)) := by rw [hA.val, divInt_over1 (by omega) hmz]
    have hlt : (Rat.divInt (C a) 2 < e / Rat.divInt ((many + 1 : Nat) : Int) 1) ↔ C a * ((many + 1 : Nat) : Int) < f := by
      rw [hpart, divInt_lt (by omega) (by omega)]
      have : C a * (2 * ((many + 1 : Nat) : Int)) = 2 * (C a * ((many + 1 : Nat) : Int)) := by grind
      omega
    by_cases hc : C a * ((many + 1 : Nat) : Int) < f
    · have hx : eqX C e (many + 1) a = Rat.divInt (C a) 2 := by unfold eqX; rw [if_pos (hlt.2 hc)]
      rw [hx]
      have hca : C a * ((many : Nat) : Int) ≤ f - C a := by
        have : C a * ((many + 1 : Nat) : Int) = C a * (many : Int) + C a := by simp; grind
        omega
      refine .inl ⟨f - C a, by rw [hA.val]; exact divInt_sub_same (by omega), ?_, by rw [hsd C]; have := hA.sum; omega, fun i hi hdi => ?_, fun i hi hdi => ?_⟩
      · have := Int.mul_nonneg (h0 a ha) (show (0 : Int) ≤ many by omega); omega
      · rw [hset] at hdi
        by_cases e1 : i = a
        · rw [if_pos e1, e1]
        · rw [if_neg e1] at hdi ⊢; exact hA.got i hi hdi
      · rw [hset] at hdi
        by_cases e1 : i = a
        · rw [e1]; exact hca
        · rw [if_neg e1] at hdi
          have h1 := h.ord i a hi ha hdi hd
          have := Int.mul_le_mul_of_nonneg_right h1 (show (0 : Int) ≤ many by omega)
          omega
    · have hx : eqX C e (many + 1) a = Rat.divInt f (2 * ((many + 1 : Nat) : Int)) := by unfold eqX; rw [if_neg (fun h => hc (hlt.1 h)), hpart]
      rw [hx]
      have hfF : f ≤ F := by
        have h1 := hA.sum
        have h2 : 0 ≤ sm n fun i => if bth done i = true then C i else 0 := sm_ge0 n (fun i hi => by
          split
          · exact h0 i hi
          · exact Int.le_refl _)
        omega
      refine .inr ⟨f, many + 1, ⟨by omega, hm⟩, ?_, ⟨hA.low, hfF⟩, fun i hi hdi => ?_, fun i hi hdi => ?_, ?_⟩
      · rw [hA.val, Rat.divInt_sub_divInt _ _ (by omega) (by omega)]
        refine divInt_eq (by omega) (by omega) ?_
        have : ((many + 1 : Nat) : Int) = many + 1 := by omega
        rw [this]; grind
      · rw [hset] at hdi
        by_cases e1 : i = a
        · rw [if_pos e1, e1, Int.min_eq_right (by omega)]
        · rw [if_neg e1] at hdi ⊢
          rw [hA.got i hi hdi, Int.min_eq_left (hA.fit i hi hdi)]
          exact divInt_eq (by omega) (by omega) (by grind)
      · rw [hset] at hdi
        by_cases e1 : i = a
        · rw [if_pos e1] at hdi; simp at hdi
        · rw [if_neg e1] at hdi
          have := Int.mul_le_mul_of_nonneg_right (hleast i hi hdi) (show (0 : Int) ≤ ((many + 1 : Nat) : Int) by omega)
          omega
      · rw [hsd, Int.min_eq_right (by omega)]
        have e2 : (sm n fun i => if bth done i = true then min (C i * ((many + 1 : Nat) : Int)) f else 0) = ((many + 1 : Nat) : Int) * sm n fun i => if bth done i = true then C i else 0 := by
          rw [← sm_mul]
          refine sm_congr n (fun i hi => ?_)
          by_cases hdi : bth done i = true
          · rw [if_pos hdi, if_pos hdi, Int.min_eq_left (hA.fit i hi hdi)]; exact Int.mul_comm _ _
          · rw [if_neg hdi, if_neg hdi]; simp
        rw [e2]
        have h1 := hA.sum
        have : ((many + 1 : Nat) : Int) = many + 1 := by omega
        rw [this, ← h1]; grind
  · have hmz2 : (2 * (m : Int)) ≠ 0 := by have := hB.m1; omega
    have hpart : e / Rat.divInt ((many + 1 : Nat) : Int) 1 = Rat.divInt f (2 * (m : Int)) := by
      rw [hB.val, divInt_over1 hmz2 hmz]
      exact divInt_eq (Int.mul_ne_zero hmz2 hmz) hmz2 (by grind)
    have hge := hB.held a ha hd
    have hx : eqX C e (many + 1) a = Rat.divInt f (2 * (m : Int)) := by
      unfold eqX
      rw [hpart, if_neg]
      rw [divInt_lt (by omega) (by have := hB.m1; omega)]
      have : C a * (2 * (m : Int)) = 2 * (C a * m) := by grind
      omega
    rw [hx]
    refine .inr ⟨f, m, hB.m1, ?_, hB.low, fun i hi hdi => ?_, fun i hi hdi => ?_, ?_⟩
    · rw [hB.val, divInt_sub_same hmz2]
      refine divInt_eq hmz2 hmz2 ?_
      have : ((many + 1 : Nat) : Int) = many + 1 := by omega
      rw [this]; grind
    · rw [hset] at hdi
      by_cases e1 : i = a
      · rw [if_pos e1, e1, Int.min_eq_right hge]
      · rw [if_neg e1] at hdi ⊢; exact hB.got i hi hdi
    · rw [hset] at hdi
      by_cases e1 : i = a
      · rw [if_pos e1] at hdi; simp at hdi
      · rw [if_neg e1] at hdi; exact hB.held i hi hdi
    · rw [hsd, Int.min_eq_right hge]
      have := hB.sum
      have e3 : ((many + 1 : Nat) : Int) = many + 1 := by omega
      rw [e3] at this
      have e4 : f * ((many : Int) + 1) = f * many + f := by grind
      omega
/-- How large the numbers of a step can be. -/
theorem EqSt.fine {C : Nat → Int} {n : Nat} {F : Int} {done : List Bool} {many : Nat} {out : Nat → Rat} {e : Rat} (h : EqSt C n F done many out e) (hm : many ≤ 7) (hF : 0 ≤ F ∧ F ≤ 10000000) (hC : ∀ i, i < n → 0 ≤ C i ∧ C i ≤ 10000000) : Fine e ∧ (1 ≤ many → Fine (e / Rat.divInt many 1)) := by
  rcases h.case_ with ⟨f, hA⟩ | ⟨f, m, hB⟩
  · have hfF : f ≤ F := by
      have h1 := hA.sum
      have h2 : 0 ≤ sm n fun i => if bth done i = true then C i else 0 := sm_ge0 n (fun i hi => by
        split
        · exact (hC i hi).1
        · exact Int.le_refl _)
      omega
    have := hA.low
    refine ⟨by rw [hA.val]; exact fine_small (by omega) (by omega) (by omega), fun h1 => ?_⟩
    rw [hA.val, divInt_over1 (by omega) (by omega)]
    exact fine_small (by omega) (by omega) (by omega)
  · have h1 := hB.low
    have h2 := hB.m1
    have h3 : 0 ≤ f * many := Int.mul_nonneg h1.1 (by omega)
    have h4 : f * many ≤ 10000000 * 7 := Int.mul_le_mul (by omega) (by omega) (by omega) (by omega)
    refine ⟨by rw [hB.val]; exact fine_small (by omega) (by omega) (by omega), fun h5 => ?_⟩
    rw [hB.val, divInt_over1 (by omega) (by omega)]
    have h6 : 0 < 2 * (m : Int) * many := Int.mul_pos (by omega) (by omega)
    have h7 : 2 * (m : Int) * many ≤ 14 * 7 := Int.mul_le_mul (by omega) (by omega) (by omega) (by omega)
    exact fine_small (by omega) (by omega) (by omega)
/-- What an equal division is. -/
structure EqIs (C : Nat → Int) (n : Nat) (F : Int) (out : Nat → Rat) (f : Int) (m : Nat) : Prop where
  m1 : 1 ≤ m ∧ m ≤ 7
  low : 0 ≤ f ∧ f ≤ F
  got : ∀ i, i < n → out i = Rat.divInt (min (C i * m) f) (2 * m)
  sum : (sm n fun i => min (C i * m) f) = F * m
theorem wait_zero {done : List Bool} {n : Nat} (h : wait done n = 0) : ∀ i, i < n → bth done i = true := fun i hi => by
  unfold wait at h
  have := List.filter_eq_nil_iff.1 (List.length_eq_zero_iff.1 h) i (List.mem_range.2 hi)
  simpa using this
theorem wait_some {done : List Bool} {n : Nat} (h : 1 ≤ wait done n) : ∃ i, i < n ∧ bth done i = false := by
  unfold wait at h
  obtain ⟨i, hi⟩ := List.exists_mem_of_length_pos (show 0 < ((List.range n).filter fun i => !bth done i).length by omega)
  rw [List.mem_filter, List.mem_range] at hi
  exact ⟨i, hi.1, by simpa using hi.2⟩
theorem EqSt.done {C : Nat → Int} {n : Nat} {F : Int} {done : List Bool} {out : Nat → Rat} {e : Rat} (h : EqSt C n F done 0 out e) (h0 : ∀ i, i < n → 0 ≤ C i) (hS : F ≤ sm n C) : ∃ f m, EqIs C n F out f m := by
  have hall := wait_zero h.cnt
  rcases h.case_ with ⟨f, hA⟩ | ⟨f, m, hB⟩
  · have e1 : (sm n fun i => if bth done i = true then C i else 0) = sm n C := sm_congr n (fun i hi => by rw [if_pos (hall i hi)])
    have h1 := hA.sum
    have h2 := hA.low
    rw [e1] at h1
    have hle : ∀ i, i < n → C i ≤ F := fun i hi => by
      have h3 := sm_split C i n hi
      have h4 : 0 ≤ sm n fun m => if m = i then 0 else C m := sm_ge0 n (fun k hk => by
        split
        · exact Int.le_refl _
        · exact h0 k hk)
      omega
    have hFn : 0 ≤ sm n C := sm_ge0 n h0
    refine ⟨F, 1, by omega, by omega, fun i hi => ?_, ?_⟩
    · rw [hA.got i hi (hall i hi), Int.min_eq_left (by have := hle i hi; omega)]
      exact divInt_eq (by omega) (by omega) (by omega)
    · rw [sm_congr n (g := C) (fun i hi => by rw [Int.min_eq_left (by have := hle i hi; omega)]; omega)]
      omega
  · refine ⟨f, m, hB.m1, hB.low, fun i hi => hB.got i hi (hall i hi), ?_⟩
    have h1 := hB.sum
    rw [sm_congr n (g := fun i => min (C i * m) f) (fun i hi => by rw [if_pos (hall i hi)])] at h1
    simpa using h1
theorem sm_le_eq {g h : Nat → Int} {n : Nat} (hle : ∀ i, i < n → g i ≤ h i) (hs : sm n g = sm n h) : ∀ i, i < n → g i = h i := fun i hi => by
  have := sm_eq0 (f := fun i => h i - g i) n (fun i hi => by have := hle i hi; omega) (by rw [sm_sub]; omega) i hi
  omega
/-- Only one equal division divides the estate. -/
theorem eq_only {C : Nat → Int} {n : Nat} {F f g : Int} {m k : Nat} (hk : 1 ≤ k) (hm : 1 ≤ m) (h1 : (sm n fun i => min (C i * m) f) = F * m) (h2 : (sm n fun i => min (C i * k) g) = F * k) :
    ∀ i, i < n → min (C i * m) f * k = min (C i * k) g * m := by
  have e1 : ∀ i, min (C i * m) f * k = min (C i * m * k) (f * k) := fun i => by
    rcases Int.le_total (C i * m) f with h | h
    · rw [Int.min_eq_left h, Int.min_eq_left (Int.mul_le_mul_of_nonneg_right h (by omega))]
    · rw [Int.min_eq_right h, Int.min_eq_right (Int.mul_le_mul_of_nonneg_right h (by omega))]
  have e2 : ∀ i, min (C i * k) g * m = min (C i * m * k) (g * m) := fun i => by
    rw [show C i * m * k = C i * k * m by grind]
    rcases Int.le_total (C i * k) g with h | h
    · rw [Int.min_eq_left h, Int.min_eq_left (Int.mul_le_mul_of_nonneg_right h (by omega))]
    · rw [Int.min_eq_right h, Int.min_eq_right (Int.mul_le_mul_of_nonneg_right h (by omega))]
  have s1 : (sm n fun i => min (C i * m) f * k) = F * m * k := by
    rw [sm_congr n (g := fun i => (k : Int) * min (C i * m) f) (fun i _ => Int.mul_comm _ _), sm_mul, h1]; grind
  have s2 : (sm n fun i => min (C i * k) g * m) = F * m * k := by
    rw [sm_congr n (g := fun i => (m : Int) * min (C i * k) g) (fun i _ => Int.mul_comm _ _), sm_mul, h2]; grind
  rcases Int.le_total (f * k) (g * m) with h | h
  · exact sm_le_eq (fun i _ => by rw [e1, e2]; omega) (s1.trans s2.symm)
  · exact fun i hi => (sm_le_eq (g := fun i => min (C i * k) g * m) (h := fun i => min (C i * m) f * k) (fun i _ => by rw [e1, e2]; omega) (s2.trans s1.symm) i hi).symm
end Go.Proofs.Ytcngecibljgndaa
