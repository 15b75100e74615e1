/- Arguments laid open: lists of stops. -/
import Derived.Test.YtmmjjfjbhogfgaaOpen
import Derived.Test.YtmmjjfjbhogfgaaFrame
import Derived.Test.YtmmjjfjbhogfgaaPairs
namespace Go.Proofs.Ytmmjjfjbhogfgaa
open Go.ChangeShapes Go.WideShapes Go.ChangeAt Go.RowKit Go.Deep

section
variable {H : Type} {enc : TypeId × Value → H} {w : World} {base : Nat} {spare : Nat → Bool} {held : Bool}
theorem two_cells {P : Program} {t : TypeId} {fuel : Nat} {cs : List Value} {x : DataW H × List MemPlace} {f0 f1 : Field} (hs : P.underlying t = some (.struct #[f0, f1])) (hone : oneCellFields P #[f0, f1] = true) (hC : P.cellsOf t = 2)
    (h : DataW.trod enc P w base spare held fuel t cs = some x) :
    ∃ c0 c1 y0 y1 n, cs = [c0, c1] ∧ DataW.trod enc P w base spare held n f0.type [c0] = some y0 ∧ DataW.trod enc P w base spare held n f1.type [c1] = some y1 := by
  obtain ⟨xs, n, _, _, hcl, hlen, hg⟩ := DataW.trod_struct hs h
  have h5 : cs.length = 2 := hcl.trans hC
  match cs, h5 with
  | [c0, c1], _ =>
    have hxl : xs.length = 2 := hlen
    match xs, hxl with
    | [y0, y1], _ =>
      obtain ⟨o0, k0⟩ := hone_of hone 0 f0 rfl
      obtain ⟨o1, k1⟩ := hone_of hone 1 f1 rfl
      exact ⟨c0, c1, y0, y1, n, rfl, by simpa [o0, k0] using hg 0 f0 rfl, by simpa [o1, k1] using hg 1 f1 rfl⟩
set_option maxRecDepth 100000 in
theorem stop_cells {fuel : Nat} {cs : List Value} {x : DataW H × List MemPlace} (h : DataW.trod enc Try.prog w base spare held fuel 54 cs = some x) :
    ∃ l : Int × Int, cs = [.int .i64 l.1, .int .i64 l.2] ∧ I64 l.1 ∧ I64 l.2 := by
  obtain ⟨c0, c1, y0, y1, n, rfl, g0, g1⟩ := two_cells Try.underlying54 (by kernel_rfl) (by kernel_rfl) h
  obtain ⟨n0, a0, _, w0⟩ := DataW.trod_int Try.underlying3 g0
  obtain ⟨n1, a1, _, w1⟩ := DataW.trod_int Try.underlying3 g1
  simp only [List.cons.injEq, and_true] at a0 a1
  subst a0 a1
  exact ⟨(n0, n1), rfl, i64_of w0, i64_of w1⟩
end
set_option maxRecDepth 100000 in
theorem open_stops {H : Type} {enc : TypeId × Value → H} {W : World} {v : Value} {d : DataW H} {p : List MemPlace} {r : Go.Reach} {b0 : Nat} (hv : Value.okWide Try.prog W r b0 49 v) (h : DataW.Trod enc Try.prog W 0 (fun _ => true) true 49 v d p) :
    ∃ ao cap L, v = .slice ao L.length cap ∧ TripsIn W ao L ∧ L.length ≤ maxLen ∧ ∀ k, k < L.length → I64 (tFst L k) ∧ I64 (tSnd L k) := by
  obtain ⟨a, len, cap, rfl⟩ := okWide_slice Try.underlying49 hv
  obtain ⟨fuel, hf⟩ := h
  rcases open_slice Try.underlying49 hf with ⟨hc, _⟩ | ⟨a', len', cap', m, n, D, Pl, hc, _, hl, hm, hmm, _, hi⟩
  · simp only [Value.cells, List.cons.injEq, Value.slice.injEq, and_true] at hc
    obtain ⟨rfl, rfl, rfl⟩ := hc
    exact ⟨none, 0, [], rfl, fun k hk => by simp at hk, by simp, fun k hk => by simp at hk⟩
  · simp only [Value.cells, List.cons.injEq, Value.slice.injEq, and_true] at hc
    obtain ⟨rfl, rfl, rfl⟩ := hc
    simp only [if_true] at hmm
    subst hmm
    have e5 : Try.prog.cellsOf 54 = 2 := by kernel_rfl
    rw [e5] at hi
    have key : ∀ i, i < len → ∃ l : Int × Int, (I64 l.1 ∧ I64 l.2) ∧ ∃ b off, a' = ⟨b, off, none⟩ ∧ b < W.heap.size ∧
        W.cell? ⟨b, off + i * 2, none⟩ = some (.int .i64 l.1) ∧ W.cell? ⟨b, off + i * 2 + 1, none⟩ = some (.int .i64 l.2) := by
      intro i hil
      obtain ⟨cs', hcs, ht⟩ := hi i (by omega)
      obtain ⟨l, rfl, hw⟩ := stop_cells ht
      obtain ⟨_, _, hat⟩ := World.cells?_some hcs
      obtain ⟨cs0, hcs0, _⟩ := hi 0 (by omega)
      obtain ⟨_, hcl0, hat0⟩ := World.cells?_some hcs0
      have h0 := hat0 0 (by omega)
      have hz : (a'.add (0 * 2)).add 0 = a' := by simp [Addr.add]
      rw [hz, List.getElem?_eq_getElem (by omega)] at h0
      obtain ⟨b, off, rfl, hb⟩ := cell_plain h0
      have hx : ∀ j, j < 2 → W.cell? ⟨b, off + i * 2 + j, none⟩ = [Value.int .i64 l.1, .int .i64 l.2][j]? := by
        intro j hj
        rw [← hat j hj, Go.Deep.add_add]
        congr 1
        simp only [Addr.add]
        split
        · rename_i e
          simp only [Addr.mk.injEq, and_true, true_and]
          omega
        · simp only [Addr.mk.injEq, and_true, true_and]
          omega
      exact ⟨l, hw, b, off, rfl, hb, hx 0 (by omega), hx 1 (by omega)⟩
    obtain ⟨f, hfx⟩ := choose_lt key
    refine ⟨some a', m, (List.range len).map f, by simp, fun k hk => ?_, by simp; omega, fun k hk => ?_⟩
    · have hk' : k < len := by simpa using hk
      obtain ⟨_, b, off, rfl, hb, h0, h1⟩ := hfx k hk'
      have e : ((List.range len).map f).getD k (0, 0) = f k := by simp [List.getD_eq_getElem?_getD, hk']
      unfold tFst tSnd
      rw [e]
      exact ⟨b, off, rfl, hb, h0, h1⟩
    · have hk' : k < len := by simpa using hk
      have e : ((List.range len).map f).getD k (0, 0) = f k := by simp [List.getD_eq_getElem?_getD, hk']
      unfold tFst tSnd
      rw [e]
      exact (hfx k hk').1
end Go.Proofs.Ytmmjjfjbhogfgaa
