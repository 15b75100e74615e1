/- The frame of a law of this package: arguments that are read again, the result true. -/
import Derived.Test.YtmmjjfjbhogfgaaOpen
import Derived.Test.YtmmjjfjbhogfgaaOwn
import Derived.Below
import Derived.Carry
namespace Go.Proofs.Ytmmjjfjbhogfgaa
open Go.ChangeShapes Go.WideShapes Go.ChangeAt Go.RowKit Go.Deep

section
variable {H : Type} {enc : TypeId × Value → H}
theorem trodAll_below {W W' : World} (hb : Below W.heap.size W W') : ∀ (ts : List TypeId) (vs : List Value) (ds : List (DataW H)) (ps : List MemPlace), (∀ t ∈ ts, Try.prog.readableRec t = true ∧ t < Try.prog.types.size) → (∀ x ∈ ps, x.block < W.heap.size) →
    DataW.TrodAll enc Try.prog W 0 (fun _ => true) true ts vs ds ps → DataW.TrodAll enc Try.prog W' 0 (fun b => decide (b < W.heap.size)) true ts vs ds ps := by
  intro ts
  induction ts with
  | nil =>
    intro vs ds ps _ _ h
    cases vs with
    | nil => cases ds with
      | nil => exact h
      | cons d ds => exact (h : False).elim
    | cons v vs => cases ds with
      | nil => exact (h : False).elim
      | cons d ds => exact (h : False).elim
  | cons t ts ih =>
    intro vs ds ps hr hlt h
    cases vs with
    | nil => cases ds with
      | nil => exact (h : False).elim
      | cons d ds => exact (h : False).elim
    | cons v vs => cases ds with
      | nil => exact (h : False).elim
      | cons d ds =>
        obtain ⟨p, q, h1, h2, rfl⟩ := h
        have ht := hr t (by simp)
        exact ⟨p, q, Below.trod laidOut_any ht.1 ht.2 h1 hb (fun x hx => hlt x (by simp [hx])), ih vs ds q (fun t ht => hr t (by simp [ht])) (fun x hx => hlt x (by simp [hx])) h2, rfl⟩
theorem post_true {f : Func} {s : ChangeSpec} {W W' : World} {args : Array Value} {ds gs : List (DataW H)} {before : List MemPlace} (hW : DataW.Whole enc Try.prog f.params.toList s.vars false W args.toList ds gs before) (hv : s.vars = []) (hres : f.resultTypes = #[4])
    (hfn : s.fn H (ds ++ []) = { results := [.lit (.bool true)], args := ds }) (hr : ∀ t ∈ f.params.toList, Try.prog.readableRec t = true ∧ t < Try.prog.types.size) (hb : Below W.heap.size W W') :
    s.post enc Try.prog f false true false false W args (.bool true) W' := by
  have hW' := hW
  obtain ⟨p, q, hA, hV, rfl, hfz, hnd⟩ := hW
  rw [hv] at hV
  obtain ⟨rfl, rfl⟩ := trodVars_none hV
  refine ⟨ds, [], p ++ [], [], p ++ [], [], hW', ?_, ?_, ?_, World.keptBut_mono (fun x hx => ⟨hx, .inr (.inl hx)⟩) (hb.frame _), fun h => by cases h⟩
  · rw [hfn, hres]
    exact trodAll_mk1 (shut_bool Try.underlying4 true)
  · rw [hfn]
    have hlt : ∀ x ∈ p ++ [], x.block < W.heap.size := fun x hx => by simpa using hW'.lt x hx
    have := trodAll_below hb _ _ _ _ hr (fun x hx => hlt x (by simpa using hx)) hA
    simpa using this
  · rw [hfn, hv]
    exact rfl
end
set_option maxRecDepth 100000 in
theorem open_list {H : Type} {enc : TypeId × Value → H} {W : World} {v : Value} {d : DataW H} {p : List MemPlace} {r : Reach} {b0 : Nat} (hv : Value.okWide Try.prog W r b0 25 v) (h : DataW.Trod enc Try.prog W 0 (fun _ => true) true 25 v d p) :
    ∃ ao cap J, v = .slice ao J.length cap ∧ IntsIn W ao J ∧ J.length ≤ maxLen ∧ ∀ k, k < J.length → I64 (ith J k) := by
  obtain ⟨a, len, cap, rfl⟩ := okWide_slice Try.underlying25 hv
  obtain ⟨fuel, hf⟩ := h
  rcases open_ints Try.underlying25 Try.underlying3 (by kernel_rfl) hf with ⟨hc, _⟩ | ⟨a', len', cap', zs, hc, _, hl, hm, hz, _, hcell, hwf⟩
  · simp only [Value.cells, List.cons.injEq, Value.slice.injEq, and_true] at hc
    obtain ⟨rfl, rfl, rfl⟩ := hc
    exact ⟨none, 0, [], rfl, fun k hk => by simp at hk, by simp, fun k hk => by simp at hk⟩
  · simp only [Value.cells, List.cons.injEq, Value.slice.injEq, and_true] at hc
    obtain ⟨rfl, rfl, rfl⟩ := hc
    simp only [if_true] at hz
    have hlz : (zs.take len).length = len := by simp; omega
    refine ⟨some a', cap, zs.take len, by rw [hlz], fun k hk => ?_, by omega, fun k hk => ?_⟩
    · rw [hlz] at hk
      have h0 := hcell 0 (by omega)
      have hz0 : a'.add 0 = a' := by simp [Addr.add]
      rw [hz0] at h0
      obtain ⟨b, off, rfl, hb⟩ := cell_plain h0
      have hk' := hcell k (by omega)
      have e : (⟨b, off, none⟩ : Addr).add k = ⟨b, off + k, none⟩ := by
        simp only [Addr.add]
        split
        · rename_i e; subst e; rfl
        · rfl
      rw [e] at hk'
      refine ⟨b, off, rfl, hb, ?_⟩
      rw [hk']
      simp [ith, hk]
    · rw [hlz] at hk
      have : ith (zs.take len) k ∈ zs := by
        simp only [ith, List.getD_eq_getElem?_getD, List.getElem?_take, hk, if_true]
        rw [List.getElem?_eq_getElem (by omega)]
        simp
      exact i64_of (hwf _ this)
end Go.Proofs.Ytmmjjfjbhogfgaa
