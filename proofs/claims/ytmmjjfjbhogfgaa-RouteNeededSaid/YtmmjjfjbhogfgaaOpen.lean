/- Arguments laid open: integers, lists of legs, one leg. -/
import Derived.Test.YtmmjjfjbhogfgaaBase
import Derived.Test.YtmmjjfjbhogfgaaRows
import Derived.ProofKit
import Derived.Deep.Slices
import Derived.Deep.Fields
namespace Go.Proofs.Ytmmjjfjbhogfgaa
open Go.ChangeShapes Go.WideShapes Go.ChangeAt Go.RowKit Go.Deep

theorem own_any : ownKnob Try.prog.godebug = none := by kernel_rfl
theorem laidOut_any : laidOutB Try.prog = true := by kernel_rfl

/-- The integer is one of int. -/
def I64 (x : Int) : Prop := -9223372036854775808 ≤ x ∧ x ≤ 9223372036854775807
theorem i64_of {x : Int} (h : (Lit.int .i64 x).wf = true) : I64 x := by
  simp only [Lit.wf, Bool.and_eq_true, decide_eq_true_eq] at h
  have h1 : IntKind.i64.min = -9223372036854775808 := by decide
  have h2 : IntKind.i64.max = 9223372036854775807 := by decide
  unfold I64
  omega
theorem i64_wf {x : Int} (h : I64 x) : (Lit.int .i64 x).wf = true := by
  unfold I64 at h
  simp only [Lit.wf, Bool.and_eq_true, decide_eq_true_eq]
  have h1 : IntKind.i64.min = -9223372036854775808 := by decide
  have h2 : IntKind.i64.max = 9223372036854775807 := by decide
  omega
structure LegWf (l : Leg) : Prop where
  src : I64 l.From
  dst : I64 l.To
  dep : I64 l.Dep
  arr : I64 l.Arr
  line : I64 l.Line

section
variable {H : Type} {enc : TypeId × Value → H} {w : World} {base : Nat} {spare : Nat → Bool} {held : Bool}
theorem five_cells {P : Program} {t : TypeId} {fuel : Nat} {cs : List Value} {x : DataW H × List MemPlace} {f0 f1 f2 f3 f4 : Field} (hs : P.underlying t = some (.struct #[f0, f1, f2, f3, f4])) (hone : oneCellFields P #[f0, f1, f2, f3, f4] = true) (hC : P.cellsOf t = 5)
    (h : DataW.trod enc P w base spare held fuel t cs = some x) :
    ∃ c0 c1 c2 c3 c4 y0 y1 y2 y3 y4 n, cs = [c0, c1, c2, c3, c4] ∧ DataW.trod enc P w base spare held n f0.type [c0] = some y0 ∧ DataW.trod enc P w base spare held n f1.type [c1] = some y1 ∧
      DataW.trod enc P w base spare held n f2.type [c2] = some y2 ∧ DataW.trod enc P w base spare held n f3.type [c3] = some y3 ∧ DataW.trod enc P w base spare held n f4.type [c4] = some y4 := by
  obtain ⟨xs, n, _, _, hcl, hlen, hg⟩ := DataW.trod_struct hs h
  have h5 : cs.length = 5 := hcl.trans hC
  match cs, h5 with
  | [c0, c1, c2, c3, c4], _ =>
    have hxl : xs.length = 5 := hlen
    match xs, hxl with
    | [y0, y1, y2, y3, y4], _ =>
      obtain ⟨o0, k0⟩ := hone_of hone 0 f0 rfl
      obtain ⟨o1, k1⟩ := hone_of hone 1 f1 rfl
      obtain ⟨o2, k2⟩ := hone_of hone 2 f2 rfl
      obtain ⟨o3, k3⟩ := hone_of hone 3 f3 rfl
      obtain ⟨o4, k4⟩ := hone_of hone 4 f4 rfl
      exact ⟨c0, c1, c2, c3, c4, y0, y1, y2, y3, y4, n, rfl, by simpa [o0, k0] using hg 0 f0 rfl, by simpa [o1, k1] using hg 1 f1 rfl, by simpa [o2, k2] using hg 2 f2 rfl, by simpa [o3, k3] using hg 3 f3 rfl, by simpa [o4, k4] using hg 4 f4 rfl⟩
set_option maxRecDepth 100000 in
theorem leg_cells {fuel : Nat} {cs : List Value} {x : DataW H × List MemPlace} (h : DataW.trod enc Try.prog w base spare held fuel 38 cs = some x) :
    ∃ l : Leg, cs = [.int .i64 l.From, .int .i64 l.To, .int .i64 l.Dep, .int .i64 l.Arr, .int .i64 l.Line] ∧ LegWf l := by
  obtain ⟨c0, c1, c2, c3, c4, y0, y1, y2, y3, y4, n, rfl, g0, g1, g2, g3, g4⟩ := five_cells Try.underlying38 (by kernel_rfl) (by kernel_rfl) h
  obtain ⟨n0, a0, _, w0⟩ := DataW.trod_int Try.underlying3 g0
  obtain ⟨n1, a1, _, w1⟩ := DataW.trod_int Try.underlying3 g1
  obtain ⟨n2, a2, _, w2⟩ := DataW.trod_int Try.underlying3 g2
  obtain ⟨n3, a3, _, w3⟩ := DataW.trod_int Try.underlying3 g3
  obtain ⟨n4, a4, _, w4⟩ := DataW.trod_int Try.underlying3 g4
  simp only [List.cons.injEq, and_true] at a0 a1 a2 a3 a4
  subst a0 a1 a2 a3 a4
  exact ⟨⟨n0, n1, n2, n3, n4⟩, rfl, ⟨i64_of w0, i64_of w1, i64_of w2, i64_of w3, i64_of w4⟩⟩
end
instance : Inhabited Leg := ⟨⟨0, 0, 0, 0, 0⟩⟩
theorem cell_plain {w : World} {a : Addr} {v : Value} (h : w.cell? a = some v) : ∃ b off, a = ⟨b, off, none⟩ ∧ b < w.heap.size := by
  obtain ⟨b, off, sp⟩ := a
  unfold World.cell? at h
  split at h
  · rename_i c _ _ hh
    cases sp with
    | none => exact ⟨b, off, rfl, (Array.getElem?_eq_some_iff.1 hh).1⟩
    | some x => simp at h
  · simp at h
set_option maxRecDepth 100000 in
theorem open_legs {H : Type} {enc : TypeId × Value → H} {W : World} {v : Value} {d : DataW H} {p : List MemPlace} {r : Reach} {b0 : Nat} (hv : Value.okWide Try.prog W r b0 22 v) (h : DataW.Trod enc Try.prog W 0 (fun _ => true) true 22 v d p) :
    ∃ ao cap L, v = .slice ao L.length cap ∧ LegsIn W ao L ∧ L.length ≤ maxLen ∧ ∀ k, k < L.length → LegWf (leg L k) := by
  obtain ⟨a, len, cap, rfl⟩ := okWide_slice Try.underlying22 hv
  obtain ⟨fuel, hf⟩ := h
  rcases open_slice Try.underlying22 hf with ⟨hc, _⟩ | ⟨a', len', cap', m, n, D, Pl, hc, _, hl, hm, hmm, _, hi⟩
  · simp only [Value.cells, List.cons.injEq, Value.slice.injEq, and_true] at hc
    obtain ⟨rfl, rfl, rfl⟩ := hc
    exact ⟨none, 0, [], rfl, fun k hk => by simp at hk, by simp, fun k hk => by simp at hk⟩
  · simp only [Value.cells, List.cons.injEq, Value.slice.injEq, and_true] at hc
    obtain ⟨rfl, rfl, rfl⟩ := hc
    simp only [if_true] at hmm
    subst hmm
    have e5 : Try.prog.cellsOf 38 = 5 := by kernel_rfl
    rw [e5] at hi
    have key : ∀ i, i < len → ∃ l : Leg, LegWf l ∧ ∃ b off, a' = ⟨b, off, none⟩ ∧ b < W.heap.size ∧
        W.cell? ⟨b, off + i * 5, none⟩ = some (.int .i64 l.From) ∧ W.cell? ⟨b, off + i * 5 + 1, none⟩ = some (.int .i64 l.To) ∧ W.cell? ⟨b, off + i * 5 + 2, none⟩ = some (.int .i64 l.Dep) ∧
        W.cell? ⟨b, off + i * 5 + 3, none⟩ = some (.int .i64 l.Arr) ∧ W.cell? ⟨b, off + i * 5 + 4, none⟩ = some (.int .i64 l.Line) := by
      intro i hil
      obtain ⟨cs', hcs, ht⟩ := hi i (by omega)
      obtain ⟨l, rfl, hw⟩ := leg_cells ht
      obtain ⟨_, _, hat⟩ := World.cells?_some hcs
      obtain ⟨cs0, hcs0, _⟩ := hi 0 (by omega)
      obtain ⟨_, hcl0, hat0⟩ := World.cells?_some hcs0
      have h0 := hat0 0 (by omega)
      have hz : (a'.add (0 * 5)).add 0 = a' := by simp [Addr.add]
      rw [hz, List.getElem?_eq_getElem (by omega)] at h0
      obtain ⟨b, off, rfl, hb⟩ := cell_plain h0
      have hx : ∀ j, j < 5 → W.cell? ⟨b, off + i * 5 + j, none⟩ = [Value.int .i64 l.From, .int .i64 l.To, .int .i64 l.Dep, .int .i64 l.Arr, .int .i64 l.Line][j]? := by
        intro j hj
        rw [← hat j hj, Go.Deep.add_add]
        congr 1
        simp only [Addr.add]
        split
        · rename_i e
          simp only [Addr.mk.injEq, and_true, true_and]
          omega
        · simp only [Addr.mk.injEq, and_true, true_and]
          omega
      exact ⟨l, hw, b, off, rfl, hb, hx 0 (by omega), hx 1 (by omega), hx 2 (by omega), hx 3 (by omega), hx 4 (by omega)⟩
    obtain ⟨f, hfx⟩ := choose_lt key
    refine ⟨some a', m, (List.range len).map f, by simp, fun k hk => ?_, by simp; omega, fun k hk => ?_⟩
    · have hk' : k < len := by simpa using hk
      obtain ⟨_, b, off, rfl, hb, h0, h1, h2, h3, h4⟩ := hfx k hk'
      have e : leg ((List.range len).map f) k = f k := by simp [leg, hk']
      rw [e]
      exact ⟨b, off, rfl, hb, h0, h1, h2, h3, h4⟩
    · have hk' : k < len := by simpa using hk
      have e : leg ((List.range len).map f) k = f k := by simp [leg, hk']
      rw [e]
      exact (hfx k hk').1

/-- What a law of this package answers: true, and nothing that was there has changed. -/
def TrueRes (w : World) (e : Ending) (w' : World) : Prop := e = .returned (.bool true) ∧ Ext w w'

set_option maxRecDepth 100000 in
theorem open_leg {H : Type} {enc : TypeId × Value → H} {W : World} {v : Value} {d : DataW H} {p : List MemPlace} {r : Reach} {b0 : Nat} (hv : Value.okWide Try.prog W r b0 38 v) (h : DataW.Trod enc Try.prog W 0 (fun _ => true) true 38 v d p) :
    ∃ l : Leg, v = l.val ∧ LegWf l := by
  obtain ⟨cs, rfl, hsz⟩ := okWide_struct Try.underlying38 hv
  obtain ⟨fuel, hf⟩ := h
  obtain ⟨l, hc, hw⟩ := leg_cells hf
  refine ⟨l, ?_, hw⟩
  obtain ⟨cl⟩ := cs
  have : (Value.agg ⟨cl⟩).cells.toList = cl := by simp [Value.cells]
  rw [this] at hc
  subst hc
  rfl
end Go.Proofs.Ytmmjjfjbhogfgaa
