/- A list of integers laid open, with its room. -/
import Derived.Test.YtcngecibljgndaaQOpen
namespace Go.Proofs.Ytcngecibljgndaa
open Go.ChangeShapes Go.WideShapes Go.ChangeAt Go.RowKit Go.Deep

set_option maxRecDepth 100000 in
theorem open_list_cap {H : Type} {enc : TypeId × Value → H} {W : World} {v : Value} {d : DataW H} {p : List MemPlace} {r : Reach} {b0 : Nat} (hv : Value.okWide Try.prog W r b0 22 v) (h : DataW.Trod enc Try.prog W 0 (fun _ => true) true 22 v d p) :
    ∃ ao cap J, v = .slice ao J.length cap ∧ IntsIn W ao J ∧ J.length ≤ cap := by
  obtain ⟨a, len, cap, rfl⟩ := okWide_slice Try.underlying22 hv
  obtain ⟨fuel, hf⟩ := h
  rcases open_ints Try.underlying22 Try.underlying3 (by kernel_rfl) hf with ⟨hc, _⟩ | ⟨a', len', cap', zs, hc, _, hl, hm, hz, _, hcell, hwf⟩
  · simp only [Value.cells, List.cons.injEq, Value.slice.injEq, and_true] at hc
    obtain ⟨rfl, rfl, rfl⟩ := hc
    exact ⟨none, 0, [], rfl, fun k hk => by simp at hk, by simp⟩
  · simp only [Value.cells, List.cons.injEq, Value.slice.injEq, and_true] at hc
    obtain ⟨rfl, rfl, rfl⟩ := hc
    simp only [if_true] at hz
    have hlz : (zs.take len).length = len := by simp; omega
    refine ⟨some a', cap, zs.take len, by rw [hlz], fun k hk => ?_, by omega⟩
    rw [hlz] at hk
    have h0 := hcell 0 (by omega)
    have hz0 : a'.add 0 = a' := by simp [Addr.add]
    rw [hz0] at h0
    obtain ⟨b, off, rfl, hb⟩ := cell_plain h0
    have hk' := hcell k (by omega)
    have e : (⟨b, off, none⟩ : Addr).add k = ⟨b, off + k, none⟩ := by
      simp only [Addr.add]
      split
      · rename_i e; subst e; rfl
      · rfl
    rw [e] at hk'
    refine ⟨b, off, rfl, hb, ?_⟩
    rw [hk']
    simp [ith, hk]
end Go.Proofs.Ytcngecibljgndaa
