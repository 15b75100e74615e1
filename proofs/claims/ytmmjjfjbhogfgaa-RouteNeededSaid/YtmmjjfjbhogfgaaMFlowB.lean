/- A net of the program: rows of numbers. -/
import Derived.Test.YtmmjjfjbhogfgaaMNeedA
import Derived.Test.YtmmjjfjbhogfgaaStep
import Derived.Deep.RegionLaw
import Derived.BigRegion
namespace Go.Proofs.Ytmmjjfjbhogfgaa
open Go.RowKit
attribute [local go_sem] Leg.val run_store_fn

/-- Grid of n numbers, each in a block of its own. -/
structure Grid (w : World) (base n k : Nat) (rb : Nat → Nat) (M : Nat → Nat → Value) : Prop where
  low : ∀ i, i < k → base ≤ rb i ∧ rb i < w.heap.size
  apart : ∀ i j, i < k → j < k → i ≠ j → rb i ≠ rb j
  cell : ∀ i j, i < k → j < n → w.cell? ⟨rb i, j, none⟩ = some (M i j) ∧ w.frozen? ⟨rb i, j, none⟩ = false
theorem Grid.grown {w w' : World} {base n k : Nat} {rb : Nat → Nat} {M : Nat → Nat → Value} {row : Option Nat} (h : Grid w base n k rb M) (hg : w.grownBy w' row) (hne : ∀ i, i < k → some (rb i) ≠ row) : Grid w' base n k rb M :=
  ⟨fun i hi => ⟨(h.low i hi).1, Nat.lt_of_lt_of_le (h.low i hi).2 hg.size⟩, h.apart, fun i j hi hj => ⟨(grownBy_cell hg (h.low i hi).2 (hne i hi)).trans (h.cell i j hi hj).1, (grownBy_frozen hg (h.low i hi).2 (hne i hi)).trans (h.cell i j hi hj).2⟩⟩
theorem Grid.ext {w w' : World} {base n k : Nat} {rb : Nat → Nat} {M : Nat → Nat → Value} (h : Grid w base n k rb M) (hx : Ext w w') : Grid w' base n k rb M := h.grown (hx.grown none) (fun _ _ => by simp)
theorem Grid.set {w : World} {base n k : Nat} {rb : Nat → Nat} {M : Nat → Nat → Value} (h : Grid w base n k rb M) {i j : Nat} (hi : i < k) (hj : j < n) (u : Value) : Grid (w.setCell ⟨rb i, j, none⟩ u) base n k rb (fun a b => if a = i ∧ b = j then u else M a b) := by
  refine ⟨fun a ha => by simpa [World.setCell] using h.low a ha, h.apart, fun a b ha hb => ⟨?_, by rw [World.frozen?_setCell]; exact (h.cell a b ha hb).2⟩⟩
  by_cases e : a = i ∧ b = j
  · obtain ⟨rfl, rfl⟩ := e
    rw [if_pos ⟨rfl, rfl⟩]
    exact World.cell?_setCell_same _ _ _ (h.cell a b ha hb).1
  · rw [if_neg e, World.cell?_setCell_other _ _ _ _ (fun e2 => ?_)]
    · exact (h.cell a b ha hb).1
    · simp only [Addr.mk.injEq, and_true] at e2
      by_cases ea : a = i
      · exact e ⟨ea, e2.2.symm⟩
      · exact h.apart a i ha hi ea e2.1.symm
def rowVals (n : Nat) (rb : Nat → Nat) (k : Nat) : List Value := (List.range k).map (fun i => .slice (some ⟨rb i, 0, none⟩) n n)
theorem rowVals_length (n : Nat) (rb : Nat → Nat) (k : Nat) : (rowVals n rb k).length = k := by simp [rowVals]
theorem rowVals_at (n : Nat) (rb : Nat → Nat) {k i : Nat} (h : i < k) : (rowVals n rb k)[i]? = some (.slice (some ⟨rb i, 0, none⟩) n n) := by simp [rowVals, h]
theorem rowVals_snoc (n : Nat) (rb : Nat → Nat) (k b : Nat) : rowVals n rb k ++ [.slice (some ⟨b, 0, none⟩) n n] = rowVals n (fun i => if i = k then b else rb i) (k + 1) := by
  unfold rowVals
  rw [List.range_succ, List.map_append]
  congr 1
  · refine List.map_congr_left (fun i hi => ?_)
    have : i ≠ k := by have := List.mem_range.1 hi; omega
    simp [this]
  · simp
/-- The world with a row more. -/
theorem Grid.snoc {w w' : World} {base n k : Nat} {rb : Nat → Nat} {M : Nat → Nat → Value} (h : Grid w base n k rb M) (hx : Ext w w') {b : Nat} (hb : w.heap.size ≤ b) (hl : b < w'.heap.size) (hbase : base ≤ w.heap.size)
    (hc : ∀ j, j < n → w'.cell? ⟨b, j, none⟩ = some (M k j) ∧ w'.frozen? ⟨b, j, none⟩ = false) : Grid w' base n (k + 1) (fun i => if i = k then b else rb i) M := by
  have h' := h.ext hx
  refine ⟨fun i hi => ?_, fun i j hi hj hne => ?_, fun i j hi hj => ?_⟩
  · by_cases e : i = k
    · simp only [e, if_true]; exact ⟨by omega, hl⟩
    · simp only [e, if_false]; exact h'.low i (by omega)
  · by_cases e : i = k
    · have ej : j ≠ k := by omega
      simp only [e, if_true, ej, if_false]
      have := (h.low j (by omega)).2
      omega
    · by_cases ej : j = k
      · simp only [e, if_false, ej, if_true]
        have := (h.low i (by omega)).2
        omega
      · simp only [e, if_false, ej]
        exact h.apart i j (by omega) (by omega) hne
  · by_cases e : i = k
    · subst e; simp only [if_true]; exact hc j hj
    · simp only [e, if_false]; exact h'.cell i j (by omega) hj

/-- A net: a box that holds the rows. -/
structure Net (w : World) (base fb g off gcap n : Nat) (rb : Nat → Nat) (M : Nat → Nat → Int) : Prop where
  box : base ≤ fb ∧ fb < w.heap.size
  boxCell : w.cell? ⟨fb, 0, none⟩ = some (.slice (some ⟨g, off, none⟩) n gcap)
  top : g < w.heap.size
  rows : Grid w base n n rb (fun i j => .int .i64 (M i j))
  topCell : ∀ i, i < n → w.cell? ⟨g, off + i, none⟩ = some (.slice (some ⟨rb i, 0, none⟩) n n)
  free : ∀ i, i < n → rb i ≠ fb ∧ rb i ≠ g
theorem Net.ext {w w' : World} {base fb g off gcap n : Nat} {rb : Nat → Nat} {M : Nat → Nat → Int} (h : Net w base fb g off gcap n rb M) (hx : Ext w w') : Net w' base fb g off gcap n rb M :=
  ⟨⟨h.box.1, Nat.lt_of_lt_of_le h.box.2 hx.size⟩, (hx.cell h.box.2).trans h.boxCell, Nat.lt_of_lt_of_le h.top hx.size, h.rows.ext hx, fun i hi => (hx.cell h.top).trans (h.topCell i hi), h.free⟩
theorem Net.set {w : World} {base fb g off gcap n : Nat} {rb : Nat → Nat} {M : Nat → Nat → Int} (h : Net w base fb g off gcap n rb M) {i j : Nat} (hi : i < n) (hj : j < n) (u : Int) :
    Net (w.setCell ⟨rb i, j, none⟩ (.int .i64 u)) base fb g off gcap n rb (fun a b => if a = i ∧ b = j then u else M a b) := by
  have hf := h.free i hi
  refine ⟨by simpa [World.setCell] using h.box, ?_, by simpa [World.setCell] using h.top, ?_, fun a ha => ?_, h.free⟩
  · rw [World.cell?_setCell_other _ _ _ _ (fun e => hf.1 (by simp only [Addr.mk.injEq] at e; exact e.1))]; exact h.boxCell
  · have := h.rows.set hi hj (.int .i64 u)
    refine ⟨this.low, this.apart, fun a b ha hb => ⟨?_, (this.cell a b ha hb).2⟩⟩
    rw [(this.cell a b ha hb).1]
    split <;> rfl
  · rw [World.cell?_setCell_other _ _ _ _ (fun e => hf.2 (by simp only [Addr.mk.injEq] at e; exact e.1))]; exact h.topCell a ha

theorem made_ints (n : Nat) : madeCells (Value.int .i64 0).cells n = Array.replicate n (.int .i64 0) := by
  refine Array.ext (by simp [madeCells]) (fun i h1 h2 => ?_)
  simp [madeCells, Value.cells, Nat.mod_one]
theorem make_ints (n : Nat) (hn : n ≤ 100000) (W : World) : (Instr.makeSlice 25 (.int .i64 n) (.int .i64 n)).run Try.prog W = .ok (.slice (some ⟨W.heap.size, 0, none⟩) n n) (W.alloc (.cells (Array.replicate n (.int .i64 0)) 3)) := by
  obtain ⟨i0, hi, hz0, hz1, hz2⟩ := info_parts info_int
  have := run_make (P := Try.prog) W 25 3 i0 (.int .i64 0) Try.underlying25 hi hz0 .i64 .i64 n n (by omega) (Int.le_refl _) (by rw [hz2]; omega) (by omega)
  rw [hz1, Nat.mul_one, made_ints] at this
  simpa using this

theorem info_row : (Try.prog.info? 25).map (fun i => (i.zero, i.size, i.bytes)) = some (some (.slice none 0 0), 1, 24) := by kernel_rfl
theorem one_cellD (w : World) (x : Value) (t : TypeId) (z : Nat) (hz : z = w.heap.size) : ∀ (j : Nat) (u : Value), [x][j]? = some u → (w.alloc (.cells #[x] t)).cell? (Addr.add ⟨z, 0, none⟩ j) = some u := one_cell w x t z hz
theorem rows_two (w : World) (n : Nat) : Ext w ((w.alloc (Obj.cells (Array.replicate n (Value.int IntKind.i64 0)) 3)).alloc (Obj.cells #[Value.slice (some { block := w.heap.size, off := 0 }) n n] 25)).drew ∧ ∀ j, j < n →
    ((w.alloc (Obj.cells (Array.replicate n (Value.int IntKind.i64 0)) 3)).alloc (Obj.cells #[Value.slice (some { block := w.heap.size, off := 0 }) n n] 25)).drew.cell? ⟨w.heap.size, j, none⟩ = some (.int .i64 0) ∧
    ((w.alloc (Obj.cells (Array.replicate n (Value.int IntKind.i64 0)) 3)).alloc (Obj.cells #[Value.slice (some { block := w.heap.size, off := 0 }) n n] 25)).drew.frozen? ⟨w.heap.size, j, none⟩ = false := by
  refine ⟨(by repeat (first | exact Ext.refl _ | assumption | refine Ext.alloc ?_ _ | refine Ext.drewN ?_ _ | refine Ext.drew ?_)), fun j hj => ⟨?_, ?_⟩⟩
  · simp [go_sem, hj]
  · simp [go_sem]
def NewRes (w : World) (n : Nat) (e : Ending) (w' : World) : Prop := ∃ fb g off gcap rb, e = .returned (.pointer (some ⟨fb, 0, none⟩)) ∧ Net w' w.heap.size fb g off gcap n rb (fun _ _ => 0) ∧ Ext w w'

set_option maxRecDepth 100000 in
set_option maxHeartbeats 8000000 in
theorem newFlow_calls (w : World) (n : Nat) (hn : n ≤ 1000) (hp : 0 < n) :
    Calls Try.prog 65 #[.int .i64 n] w (NewRes w n) := by
  obtain ⟨i0, hi, hz0, hz1, hz2⟩ := info_parts info_row
  have hmake := make_ints n (by omega)
  go_enter Try.func65, Try.ntmps65
  go_wp2_with fail
  obtain ⟨fb, hfb⟩ : ∃ fb, fb = w.heap.size := ⟨_, rfl⟩
  have hx1 : Ext w (w.alloc (Obj.cells #[Value.slice none 0 0] 90)) := (by repeat (first | exact Ext.refl _ | assumption | refine Ext.alloc ?_ _ | refine Ext.drewN ?_ _ | refine Ext.drew ?_))
  have hc1 : (w.alloc (Obj.cells #[Value.slice none 0 0] 90)).cell? ⟨fb, 0, none⟩ = some (.slice none 0 0) ∧ (w.alloc (Obj.cells #[Value.slice none 0 0] 90)).frozen? ⟨fb, 0, none⟩ = false := by
    subst hfb
    exact ⟨by simp [go_sem], by simp [go_sem]⟩
  have hs1 : (w.alloc (Obj.cells #[Value.slice none 0 0] 90)).heap.size = w.heap.size + 1 := by simp
  generalize (w.alloc (Obj.cells #[Value.slice none 0 0] 90)) = w1 at *
  rw [← hfb]
  have hfb0 : w.heap.size ≤ fb := by omega
  have hfb1 : fb < w1.heap.size := by omega
  clear hfb hs1
  obtain ⟨W, hW⟩ : ∃ W, W = w1.heap.size := ⟨_, rfl⟩
  go_loopw [7] (fun i wr => ∃ (k : Nat) (ov : Value) (rb : Nat → Nat), k ≤ n ∧ i = .int .i64 k ∧ Ext w wr ∧ W ≤ wr.heap.size ∧ (wr.cell? ⟨fb, 0, none⟩ = some ov ∧ wr.frozen? ⟨fb, 0, none⟩ = false) ∧ Own wr W 1 ov (rowVals n rb k) ∧ Grid wr W n k rb (fun _ _ => .int .i64 0) ∧ Hid (∀ j, j < k → ov.ownBlock ≠ some (rb j))) (fun i _ => n - (intOf i).toNat)
  case atStart => exact ⟨0, _, fun _ => 0, by omega, rfl, hx1, by omega, hc1, Own.nil _ _ _, ⟨fun i hi => by omega, fun i j hi => by omega, fun i j hi => by omega⟩, Lib.hid (fun j hj => by omega)⟩
  case round =>
    obtain ⟨k, ov, rb, hk, rfl, hx, hWr, ⟨hc, hf⟩, ho, hG, HD⟩ := hrel
    by_cases hlt : k < n
    · go_wp2_with fail
      have hfbl : fb < wr.heap.size := by omega
      have hcA : ∀ W2, Ext wr W2 → W2.cell? ⟨fb, 0, none⟩ = some ov ∧ W2.frozen? ⟨fb, 0, none⟩ = false ∧ fb < W2.heap.size := fun W2 h => ⟨(h.cell hfbl).trans hc, (h.frozen hfbl).trans hf, Nat.lt_of_lt_of_le hfbl h.size⟩
      have hneA : some (⟨fb, 0, none⟩ : Addr).block ≠ ov.ownBlock := fun e => by have := (ho.lt fb e.symm).1; omega
      go_region_law (refine step_append_Own _ (by rfl) _ _ 88 (by rfl) 25 i0 (.slice none 0 0) 1 24 Try.underlying88 hi hz0 hz1 hz2 rfl (by omega) W _ (rowVals n rb k) (by rfl) (Own.ext ho (by repeat (first | exact Ext.refl _ | assumption | refine Ext.alloc ?_ _ | refine Ext.drewN ?_ _ | refine Ext.drew ?_))) (by simp <;> omega) ⟨wr.heap.size + 1, 0, none⟩ 1 1 [.slice (some ⟨wr.heap.size, 0, none⟩) n n] (by rfl) (by rfl) (one_cellD _ _ _ _ (by simp)) (by simp [Value.oneCell']) (by simp [rowVals_length]; unfold maxLen; omega) (by simp [rowVals_length]; omega) ?_; intro v' w5 ho5 hg5 hb5; have hc5 := (grownBy_cell hg5 (p := ⟨fb, 0, none⟩) (hcA _ (by repeat (first | exact Ext.refl _ | assumption | refine Ext.alloc ?_ _ | refine Ext.drewN ?_ _ | refine Ext.drew ?_))).2.2 (hneA)).trans (hcA _ (by repeat (first | exact Ext.refl _ | assumption | refine Ext.alloc ?_ _ | refine Ext.drewN ?_ _ | refine Ext.drew ?_))).1; have hf5 := (grownBy_frozen hg5 (p := ⟨fb, 0, none⟩) (hcA _ (by repeat (first | exact Ext.refl _ | assumption | refine Ext.alloc ?_ _ | refine Ext.drewN ?_ _ | refine Ext.drew ?_))).2.2 (hneA)).trans (hcA _ (by repeat (first | exact Ext.refl _ | assumption | refine Ext.alloc ?_ _ | refine Ext.drewN ?_ _ | refine Ext.drew ?_))).2.1; obtain ⟨no, nn, nc, rfl, -⟩ := ho5.shapeCap; have HB5 := Lib.hid hb5; clear hb5)
      all_goals go_wp2_with fail
      all_goals
        obtain ⟨hxr, hrow⟩ := rows_two wr n
        generalize hw2 : ((wr.alloc (Obj.cells (Array.replicate n (Value.int IntKind.i64 0)) 3)).alloc (Obj.cells #[Value.slice (some { block := wr.heap.size, off := 0 }) n n] 25)).drew = w2 at *
        have hs2 : w2.heap.size = wr.heap.size + 2 := by rw [← hw2]; simp
        have hlow : ∀ q, ov.ownBlock = some q → W ≤ q ∧ q < wr.heap.size := ho.lt
        have hs5 := hg5.size
        have hG2 := (hG.snoc hxr (b := wr.heap.size) (Nat.le_refl _) (by omega) hWr hrow)
        have hG5 := hG2.grown hg5 (fun i hi e => by
          by_cases ei : i = k
          · rw [if_pos ei] at e
            have := (hlow _ e.symm).2
            omega
          · rw [if_neg ei] at e
            exact HD.out i (by omega) e.symm)
        have hG6 := hG5.grown (grownBy_setCell w5 ⟨fb, 0, none⟩ (.slice no nn nc)) (fun i hi e => by
          have := (hG2.low i hi).1
          simp only [Option.some.injEq] at e
          omega)
        have hx5 : Ext w w5 := (hx.trans hxr).onto hg5 (fun q hq => by have := (hlow q hq).1; have := hx1.size; omega)
        rw [rowVals_snoc] at ho5
        have ho6 := ho5.keep (grownBy_setCell w5 ⟨fb, 0, none⟩ (.slice no nn nc)) (by
          right
          intro e
          have := (ho5.lt fb e).1
          omega)
        refine ⟨⟨k + 1, .slice no nn nc, _, by omega, rfl, hx5.setOwn _ _ hfb0, by simp [World.setCell]; omega, ⟨World.cell?_setCell_same _ _ _ hc5, by rw [World.frozen?_setCell]; exact hf5⟩, ho6, hG6, Lib.hid (fun j hj e => ?_)⟩, by simp only [intOf]; omega⟩
        have hj2 := (hG2.low j hj).2
        rcases HB5.out _ e with h | h
        · by_cases ej : j = k
          · rw [if_pos ej] at h
            have := (hlow _ h).2
            omega
          · rw [if_neg ej] at h
            exact HD.out j (by omega) h
        · by_cases ej : j = k
          · rw [if_pos ej] at h
            omega
          · rw [if_neg ej] at h
            have := (hG.low j (by omega)).2
            omega
    · obtain rfl : k = n := by omega
      have hshape := ho.shape (by omega)
      rw [rowVals_length, Nat.div_one] at hshape
      rcases hshape with ⟨_, h⟩ | ⟨g, off, gcap, rfl, hgb, hgl, _, _⟩
      · have := congrArg List.length h
        rw [rowVals_length] at this
        simp at this
        omega
      · have HO := Lib.hid ho
        clear ho
        go_wp2_with fail
        go_ret
        refine ⟨fb, g, off, gcap, rb, rfl, ⟨⟨hfb0, by omega⟩, hc, hgl, ⟨fun i hi => ⟨by have := (hG.low i hi).1; have := hx1.size; omega, (hG.low i hi).2⟩, hG.apart, hG.cell⟩, fun i hi => ?_, fun i hi => ⟨by have := (hG.low i hi).1; omega, fun e => HD.out i hi (by rw [e]; rfl)⟩⟩, hx⟩
        have h1 := (HO.out.cellAt i (by rw [rowVals_length]; exact hi)).1
        rw [rowVals_at _ _ hi] at h1
        exact h1
end Go.Proofs.Ytmmjjfjbhogfgaa
