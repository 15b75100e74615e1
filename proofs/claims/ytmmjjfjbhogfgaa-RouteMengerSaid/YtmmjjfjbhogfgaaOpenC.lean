/- A list of legs laid open, with its capacity. -/
import Derived.Test.YtmmjjfjbhogfgaaOpen
namespace Go.Proofs.Ytmmjjfjbhogfgaa
open Go.ChangeShapes Go.WideShapes Go.ChangeAt Go.RowKit Go.Deep

set_option maxRecDepth 100000 in
theorem open_legs_cap {H : Type} {enc : TypeId × Value → H} {W : World} {v : Value} {d : DataW H} {p : List MemPlace} {r : Reach} {b0 : Nat} (hv : Value.okWide Try.prog W r b0 22 v) (h : DataW.Trod enc Try.prog W 0 (fun _ => true) true 22 v d p) :
    ∃ ao cap L, v = .slice ao L.length cap ∧ LegsIn W ao L ∧ L.length ≤ maxLen ∧ (∀ k, k < L.length → LegWf (leg L k)) ∧ L.length ≤ cap ∧ cap ≤ maxLen := by
  obtain ⟨a, len, cap, rfl⟩ := okWide_slice Try.underlying22 hv
  obtain ⟨fuel, hf⟩ := h
  rcases open_slice Try.underlying22 hf with ⟨hc, _⟩ | ⟨a', len', cap', m, n, D, Pl, hc, _, hl, hm, hmm, _, hi⟩
  · simp only [Value.cells, List.cons.injEq, Value.slice.injEq, and_true] at hc
    obtain ⟨rfl, rfl, rfl⟩ := hc
    exact ⟨none, 0, [], rfl, fun k hk => by simp at hk, by simp, fun k hk => by simp at hk, by simp, by unfold maxLen; omega⟩
  · simp only [Value.cells, List.cons.injEq, Value.slice.injEq, and_true] at hc
    obtain ⟨rfl, rfl, rfl⟩ := hc
    simp only [if_true] at hmm
    subst hmm
    have e5 : Try.prog.cellsOf 38 = 5 := by kernel_rfl
    rw [e5] at hi
    have key : ∀ i, i < len → ∃ l : Leg, LegWf l ∧ ∃ b off, a' = ⟨b, off, none⟩ ∧ b < W.heap.size ∧
        W.cell? ⟨b, off + i * 5, none⟩ = some (.int .i64 l.From) ∧ W.cell? ⟨b, off + i * 5 + 1, none⟩ = some (.int .i64 l.To) ∧ W.cell? ⟨b, off + i * 5 + 2, none⟩ = some (.int .i64 l.Dep) ∧
        W.cell? ⟨b, off + i * 5 + 3, none⟩ = some (.int .i64 l.Arr) ∧ W.cell? ⟨b, off + i * 5 + 4, none⟩ = some (.int .i64 l.Line) := by
      intro i hil
      obtain ⟨cs', hcs, ht⟩ := hi i (by omega)
      obtain ⟨l, rfl, hw⟩ := leg_cells ht
      obtain ⟨_, _, hat⟩ := World.cells?_some hcs
      obtain ⟨cs0, hcs0, _⟩ := hi 0 (by omega)
      obtain ⟨_, hcl0, hat0⟩ := World.cells?_some hcs0
      have h0 := hat0 0 (by omega)
      have hz : (a'.add (0 * 5)).add 0 = a' := by simp [Addr.add]
      rw [hz, List.getElem?_eq_getElem (by omega)] at h0
      obtain ⟨b, off, rfl, hb⟩ := cell_plain h0
      have hx : ∀ j, j < 5 → W.cell? ⟨b, off + i * 5 + j, none⟩ = [Value.int .i64 l.From, .int .i64 l.To, .int .i64 l.Dep, .int .i64 l.Arr, .int .i64 l.Line][j]? := by
        intro j hj
        rw [← hat j hj, Go.Deep.add_add]
        congr 1
        simp only [Addr.add]
        split
        · rename_i e
          simp only [Addr.mk.injEq, and_true, true_and]
          omega
        · simp only [Addr.mk.injEq, and_true, true_and]
          omega
      exact ⟨l, hw, b, off, rfl, hb, hx 0 (by omega), hx 1 (by omega), hx 2 (by omega), hx 3 (by omega), hx 4 (by omega)⟩
    obtain ⟨f, hfx⟩ := choose_lt key
    refine ⟨some a', m, (List.range len).map f, by simp, fun k hk => ?_, by simp; omega, fun k hk => ?_, by simpa using hl, hm⟩
    · have hk' : k < len := by simpa using hk
      obtain ⟨_, b, off, rfl, hb, h0, h1, h2, h3, h4⟩ := hfx k hk'
      have e : leg ((List.range len).map f) k = f k := by simp [leg, hk']
      rw [e]
      exact ⟨b, off, rfl, hb, h0, h1, h2, h3, h4⟩
    · have hk' : k < len := by simpa using hk
      have e : leg ((List.range len).map f) k = f k := by simp [leg, hk']
      rw [e]
      exact (hfx k hk').1
end Go.Proofs.Ytmmjjfjbhogfgaa
