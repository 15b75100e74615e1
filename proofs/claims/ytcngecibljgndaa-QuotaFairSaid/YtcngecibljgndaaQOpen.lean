/- Arguments of a law laid open (integers, lists of integers, Parts), and the frame of a law: arguments that are read again, the result true. -/
import Derived.Test.YtcngecibljgndaaKit
import Derived.Test.YtcngecibljgndaaRows
import Derived.ProofKit
import Derived.Deep.Slices
import Derived.Deep.Fields
import Derived.Below
import Derived.Carry
namespace Go.Proofs.Ytcngecibljgndaa
open Go.ChangeShapes Go.WideShapes Go.ChangeAt Go.RowKit Go.Deep

theorem own_any : ownKnob Try.prog.godebug = none := by kernel_rfl
theorem laidOut_any : laidOutB Try.prog = true := by kernel_rfl

/-- The integer is one of int. -/
def I64 (x : Int) : Prop := -9223372036854775808 ≤ x ∧ x ≤ 9223372036854775807
theorem i64_of {x : Int} (h : (Lit.int .i64 x).wf = true) : I64 x := by
  simp only [Lit.wf, Bool.and_eq_true, decide_eq_true_eq] at h
  have h1 : IntKind.i64.min = -9223372036854775808 := by decide
  have h2 : IntKind.i64.max = 9223372036854775807 := by decide
  unfold I64
  omega
theorem i64_wf {x : Int} (h : I64 x) : (Lit.int .i64 x).wf = true := by
  unfold I64 at h
  simp only [Lit.wf, Bool.and_eq_true, decide_eq_true_eq]
  have h1 : IntKind.i64.min = -9223372036854775808 := by decide
  have h2 : IntKind.i64.max = 9223372036854775807 := by decide
  omega
theorem cell_plain {w : World} {a : Addr} {v : Value} (h : w.cell? a = some v) : ∃ b off, a = ⟨b, off, none⟩ ∧ b < w.heap.size := by
  obtain ⟨b, off, sp⟩ := a
  unfold World.cell? at h
  split at h
  · rename_i c _ _ hh
    cases sp with
    | none => exact ⟨b, off, rfl, (Array.getElem?_eq_some_iff.1 hh).1⟩
    | some x => simp at h
  · simp at h
/-- What a law of this package answers: true, and nothing that was there has changed. -/
def TrueRes (w : World) (e : Ending) (w' : World) : Prop := e = .returned (.bool true) ∧ Ext w w'
section
variable {H : Type} {enc : TypeId × Value → H}
theorem trodAll_below {W W' : World} (hb : Below W.heap.size W W') : ∀ (ts : List TypeId) (vs : List Value) (ds : List (DataW H)) (ps : List MemPlace), (∀ t ∈ ts, Try.prog.readableRec t = true ∧ t < Try.prog.types.size) → (∀ x ∈ ps, x.block < W.heap.size) →
    DataW.TrodAll enc Try.prog W 0 (fun _ => true) true ts vs ds ps → DataW.TrodAll enc Try.prog W' 0 (fun b => decide (b < W.heap.size)) true ts vs ds ps := by
  intro ts
  induction ts with
  | nil =>
    intro vs ds ps _ _ h
    cases vs with
    | nil => cases ds with
      | nil => exact h
      | cons d ds => exact (h : False).elim
    | cons v vs => cases ds with
      | nil => exact (h : False).elim
      | cons d ds => exact (h : False).elim
  | cons t ts ih =>
    intro vs ds ps hr hlt h
    cases vs with
    | nil => cases ds with
      | nil => exact (h : False).elim
      | cons d ds => exact (h : False).elim
    | cons v vs => cases ds with
      | nil => exact (h : False).elim
      | cons d ds =>
        obtain ⟨p, q, h1, h2, rfl⟩ := h
        have ht := hr t (by simp)
        exact ⟨p, q, Below.trod laidOut_any ht.1 ht.2 h1 hb (fun x hx => hlt x (by simp [hx])), ih vs ds q (fun t ht => hr t (by simp [ht])) (fun x hx => hlt x (by simp [hx])) h2, rfl⟩
theorem post_true {f : Func} {s : ChangeSpec} {W W' : World} {args : Array Value} {ds gs : List (DataW H)} {before : List MemPlace} (hW : DataW.Whole enc Try.prog f.params.toList s.vars false W args.toList ds gs before) (hv : s.vars = []) (hres : f.resultTypes = #[4])
    (hfn : s.fn H (ds ++ []) = { results := [.lit (.bool true)], args := ds }) (hr : ∀ t ∈ f.params.toList, Try.prog.readableRec t = true ∧ t < Try.prog.types.size) (hb : Below W.heap.size W W') :
    s.post enc Try.prog f false true false false W args (.bool true) W' := by
  have hW' := hW
  obtain ⟨p, q, hA, hV, rfl, hfz, hnd⟩ := hW
  rw [hv] at hV
  obtain ⟨rfl, rfl⟩ := trodVars_none hV
  refine ⟨ds, [], p ++ [], [], p ++ [], [], hW', ?_, ?_, ?_, World.keptBut_mono (fun x hx => ⟨hx, .inr (.inl hx)⟩) (hb.frame _), fun h => by cases h⟩
  · rw [hfn, hres]
    exact trodAll_mk1 (shut_bool Try.underlying4 true)
  · rw [hfn]
    have hlt : ∀ x ∈ p ++ [], x.block < W.heap.size := fun x hx => by simpa using hW'.lt x hx
    have := trodAll_below hb _ _ _ _ hr (fun x hx => hlt x (by simpa using hx)) hA
    simpa using this
  · rw [hfn, hv]
    exact rfl
end
set_option maxRecDepth 100000 in
theorem open_list {H : Type} {enc : TypeId × Value → H} {W : World} {v : Value} {d : DataW H} {p : List MemPlace} {r : Reach} {b0 : Nat} (hv : Value.okWide Try.prog W r b0 22 v) (h : DataW.Trod enc Try.prog W 0 (fun _ => true) true 22 v d p) :
    ∃ ao cap J, v = .slice ao J.length cap ∧ IntsIn W ao J ∧ J.length ≤ maxLen ∧ ∀ k, k < J.length → I64 (ith J k) := by
  obtain ⟨a, len, cap, rfl⟩ := okWide_slice Try.underlying22 hv
  obtain ⟨fuel, hf⟩ := h
  rcases open_ints Try.underlying22 Try.underlying3 (by kernel_rfl) hf with ⟨hc, _⟩ | ⟨a', len', cap', zs, hc, _, hl, hm, hz, _, hcell, hwf⟩
  · simp only [Value.cells, List.cons.injEq, Value.slice.injEq, and_true] at hc
    obtain ⟨rfl, rfl, rfl⟩ := hc
    exact ⟨none, 0, [], rfl, fun k hk => by simp at hk, by simp, fun k hk => by simp at hk⟩
  · simp only [Value.cells, List.cons.injEq, Value.slice.injEq, and_true] at hc
    obtain ⟨rfl, rfl, rfl⟩ := hc
    simp only [if_true] at hz
    have hlz : (zs.take len).length = len := by simp; omega
    refine ⟨some a', cap, zs.take len, by rw [hlz], fun k hk => ?_, by omega, fun k hk => ?_⟩
    · rw [hlz] at hk
      have h0 := hcell 0 (by omega)
      have hz0 : a'.add 0 = a' := by simp [Addr.add]
      rw [hz0] at h0
      obtain ⟨b, off, rfl, hb⟩ := cell_plain h0
      have hk' := hcell k (by omega)
      have e : (⟨b, off, none⟩ : Addr).add k = ⟨b, off + k, none⟩ := by
        simp only [Addr.add]
        split
        · rename_i e; subst e; rfl
        · rfl
      rw [e] at hk'
      refine ⟨b, off, rfl, hb, ?_⟩
      rw [hk']
      simp [ith, hk]
    · rw [hlz] at hk
      have : ith (zs.take len) k ∈ zs := by
        simp only [ith, List.getD_eq_getElem?_getD, List.getElem?_take, hk, if_true]
        rw [List.getElem?_eq_getElem (by omega)]
        simp
      exact i64_of (hwf _ this)

set_option maxRecDepth 100000 in
theorem list_cells {H : Type} {enc : TypeId × Value → H} {W : World} {c0 : Value} {y : DataW H × List MemPlace} {fuel : Nat} (hf : DataW.trod enc Try.prog W 0 (fun _ => true) true fuel 22 [c0] = some y) :
    ∃ ao cap J, c0 = .slice ao J.length cap ∧ IntsIn W ao J ∧ J.length ≤ maxLen ∧ ∀ k, k < J.length → I64 (ith J k) := by
  rcases open_ints Try.underlying22 Try.underlying3 (by kernel_rfl) hf with ⟨hc, _⟩ | ⟨a', len', cap', zs, hc, _, hl, hm, hz, _, hcell, hwf⟩
  · simp only [List.cons.injEq, and_true] at hc
    subst hc
    exact ⟨none, 0, [], rfl, fun k hk => by simp at hk, by simp, fun k hk => by simp at hk⟩
  · simp only [List.cons.injEq, and_true] at hc
    subst hc
    simp only [if_true] at hz
    have hlz : (zs.take len').length = len' := by simp; omega
    refine ⟨some a', cap', zs.take len', by rw [hlz], fun k hk => ?_, by omega, fun k hk => ?_⟩
    · rw [hlz] at hk
      have h0 := hcell 0 (by omega)
      have hz0 : a'.add 0 = a' := by simp [Addr.add]
      rw [hz0] at h0
      obtain ⟨b, off, rfl, hb⟩ := cell_plain h0
      have hk' := hcell k (by omega)
      have e : (⟨b, off, none⟩ : Addr).add k = ⟨b, off + k, none⟩ := by
        simp only [Addr.add]
        split
        · rename_i e; subst e; rfl
        · rfl
      rw [e] at hk'
      refine ⟨b, off, rfl, hb, ?_⟩
      rw [hk']
      simp [ith, hk]
    · rw [hlz] at hk
      have : ith (zs.take len') k ∈ zs := by
        simp only [ith, List.getD_eq_getElem?_getD, List.getElem?_take, hk, if_true]
        rw [List.getElem?_eq_getElem (by omega)]
        simp
      exact i64_of (hwf _ this)
/-- alive answers true. -/
def AliveOK : Prop := ∀ (w w2 : World), Ext w w2 → Calls Try.prog 20 #[] w2 fun e w' => e = .returned (.bool true) ∧ Ext w w'
theorem few_calls (w : World) (ao : Option Addr) (len cap : Nat) :
    Calls Try.prog 19 #[.slice ao len cap] w fun e w' => e = .returned (.bool (decide (len ≤ 40))) ∧ Ext w w' := by
  go_enter Try.func19, Try.ntmps19
  go_wp2_with fail
  go_ret
  refine ⟨ret_bool ?_, Ext.refl _⟩
  rw [Bool.eq_iff_iff]; simp; omega
theorem two_cells {H : Type} {enc : TypeId × Value → H} {w : World} {base : Nat} {spare : Nat → Bool} {held : Bool} {P : Program} {t : TypeId} {fuel : Nat} {cs : List Value} {x : DataW H × List MemPlace} {f0 f1 : Field} (hs : P.underlying t = some (.struct #[f0, f1])) (hone : oneCellFields P #[f0, f1] = true) (hC : P.cellsOf t = 2)
    (h : DataW.trod enc P w base spare held fuel t cs = some x) :
    ∃ c0 c1 y0 y1 n, cs = [c0, c1] ∧ DataW.trod enc P w base spare held n f0.type [c0] = some y0 ∧ DataW.trod enc P w base spare held n f1.type [c1] = some y1 := by
  obtain ⟨xs, n, _, _, hcl, hlen, hg⟩ := DataW.trod_struct hs h
  have h5 : cs.length = 2 := hcl.trans hC
  match cs, h5 with
  | [c0, c1], _ =>
    have hxl : xs.length = 2 := hlen
    match xs, hxl with
    | [y0, y1], _ =>
      obtain ⟨o0, k0⟩ := hone_of hone 0 f0 rfl
      obtain ⟨o1, k1⟩ := hone_of hone 1 f1 rfl
      exact ⟨c0, c1, y0, y1, n, rfl, by simpa [o0, k0] using hg 0 f0 rfl, by simpa [o1, k1] using hg 1 f1 rfl⟩
set_option maxRecDepth 100000 in
theorem open_parts {H : Type} {enc : TypeId × Value → H} {W : World} {v : Value} {d : DataW H} {p : List MemPlace} {r : Reach} {b0 : Nat} (hv : Value.okWide Try.prog W r b0 26 v) (h : DataW.Trod enc Try.prog W 0 (fun _ => true) true 26 v d p) :
    ∃ ao cap J den, v = .agg #[.slice ao J.length cap, .int .i64 den] ∧ IntsIn W ao J ∧ J.length ≤ maxLen ∧ (∀ k, k < J.length → I64 (ith J k)) ∧ I64 den := by
  obtain ⟨cs, rfl, hsz⟩ := okWide_struct Try.underlying26 hv
  obtain ⟨fuel, hf⟩ := h
  obtain ⟨c0, c1, y0, y1, n, hc, g0, g1⟩ := two_cells Try.underlying26 (by kernel_rfl) (by kernel_rfl) hf
  obtain ⟨ao, cap, J, rfl, hJ, hl, hw⟩ := list_cells g0
  obtain ⟨n1, a1, _, w1⟩ := DataW.trod_int Try.underlying3 g1
  simp only [List.cons.injEq, and_true] at a1
  subst a1
  refine ⟨ao, cap, J, n1, ?_, hJ, hl, hw, i64_of w1⟩
  obtain ⟨cl⟩ := cs
  have : (Value.agg ⟨cl⟩).cells.toList = cl := by simp [Value.cells]
  rw [this] at hc
  subst hc
  rfl
end Go.Proofs.Ytcngecibljgndaa
