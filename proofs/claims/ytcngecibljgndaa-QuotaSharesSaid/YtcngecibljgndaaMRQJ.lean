/- The specification's Share: the walk. -/
import Derived.Test.YtcngecibljgndaaMRQI
import Derived.Test.YtcngecibljgndaaMRD
import Derived.Test.YtcngecibljgndaaMLA
import Derived.Test.YtcngecibljgndaaRows
import Derived.ProofKit
import Derived.Deep.Slices
import Derived.Deep.Fields
import Derived.Below
import Derived.Carry
import Derived.Test.YtcngecibljgndaaMQT
import Derived.Test.YtcngecibljgndaaMQW
namespace Go.Proofs.Ytcngecibljgndaa
open Go.RowKit Go.Shelf

theorem qrule_calls (w : World) (rule E : Int) (ao : Option Addr) (cap : Nat) (xs : List Int) (hI : IntsIn w ao xs) (hP : IsProb E xs) (h0 : 0 ≤ rule) (h4 : rule ≤ 4) :
    Calls Try.prog 51 #[.int .i64 rule, .int .i64 E, .slice ao xs.length cap] w (RuleRes w rule E xs) := by
  have h : rule = 0 ∨ rule = 1 ∨ rule = 2 ∨ rule = 3 ∨ rule = 4 := by omega
  rcases h with rfl | rfl | rfl | rfl | rfl
  · exact qrule0_calls w E ao cap xs hI hP
  · exact qrule1_calls w E ao cap xs hI hP
  · exact qrule2_calls w E ao cap xs hI hP
  · exact qrule3_calls w E ao cap xs hI hP
  · exact qrule4_calls w E ao cap xs hI hP
set_option maxRecDepth 100000 in
set_option maxHeartbeats 4000000 in
theorem refShare_calls (w : World) (rule E : Int) (ao : Option Addr) (cap : Nat) (xs : List Int) (hI : IntsIn w ao xs) :
    Calls Try.prog 21 #[.int .i64 rule, .int .i64 E, .slice ao xs.length cap] w (Parted w (shareP rule E xs)) := by
  go_enter Try.func21, Try.ntmps21
  go_wp2_with fail
  obtain ⟨R, hR⟩ : ∃ R, R = w.heap.size := ⟨_, rfl⟩
  have hs1 := Spot.new w 26 (.slice none 0 0) (.int .i64 0)
  have hx1 : Ext w (w.alloc (.cells #[.slice none 0 0, .int .i64 0] 26)) := (by repeat (first | exact Ext.refl _ | assumption | refine Ext.alloc ?_ _ | refine Ext.drewN ?_ _ | refine Ext.drew ?_))
  generalize (w.alloc (.cells #[.slice none 0 0, .int .i64 0] 26)) = w1 at *
  rw [← hR] at hs1 ⊢
  have hRw : w.heap.size ≤ R := by omega
  clear hR
  refine (refProblem_calls w1 E ao cap xs (hI.ext hx1)).mono ?_
  rintro e w3 ⟨rfl, hx3⟩
  have hx03 := hx1.trans hx3
  have hs3 := hs1.ext hx3
  cases hp : probB E xs with
  | false =>
    have HN := Lib.hid (show shareP rule E xs = none by simp [shareP, hp])
    clear hp
    have hsb := hs3
    obtain ⟨c0, hc0⟩ := Option.isSome_iff_exists.1 hsb.some0
    obtain ⟨c1, hc1⟩ := Option.isSome_iff_exists.1 hsb.some1
    have hf0 := hsb.free0
    have hf1 := hsb.free1
    go_wp2_with fail
    obtain ⟨q0, q1⟩ := hsb.put (.slice none 0 0) (.int .i64 0)
    refine bodyPost_ret (v := .tuple #[.agg #[.slice none 0 0, .int .i64 0], .int .i64 2]) (by simp [results, Try.results21, go_sem, q0, q1]) rfl ?_
    exact .inl ⟨HN.out, rfl, (hx03.setOwn _ _ hRw).setOwn _ _ hRw⟩
  | true =>
    by_cases h0 : rule < 0
    · have HN := Lib.hid (show shareP rule E xs = none by simp [shareP, hp]; omega)
      clear hp
      have hsb := hs3
      obtain ⟨c0, hc0⟩ := Option.isSome_iff_exists.1 hsb.some0
      obtain ⟨c1, hc1⟩ := Option.isSome_iff_exists.1 hsb.some1
      have hf0 := hsb.free0
      have hf1 := hsb.free1
      go_wp2_with fail
      obtain ⟨q0, q1⟩ := hsb.put (.slice none 0 0) (.int .i64 0)
      refine bodyPost_ret (v := .tuple #[.agg #[.slice none 0 0, .int .i64 0], .int .i64 2]) (by simp [results, Try.results21, go_sem, q0, q1]) rfl ?_
      exact .inl ⟨HN.out, rfl, (hx03.setOwn _ _ hRw).setOwn _ _ hRw⟩
    by_cases h4 : 4 < rule
    · have HN := Lib.hid (show shareP rule E xs = none by simp [shareP, hp]; omega)
      clear hp
      have hsb := hs3
      obtain ⟨c0, hc0⟩ := Option.isSome_iff_exists.1 hsb.some0
      obtain ⟨c1, hc1⟩ := Option.isSome_iff_exists.1 hsb.some1
      have hf0 := hsb.free0
      have hf1 := hsb.free1
      go_wp2_with fail
      obtain ⟨q0, q1⟩ := hsb.put (.slice none 0 0) (.int .i64 0)
      refine bodyPost_ret (v := .tuple #[.agg #[.slice none 0 0, .int .i64 0], .int .i64 2]) (by simp [results, Try.results21, go_sem, q0, q1]) rfl ?_
      exact .inl ⟨HN.out, rfl, (hx03.setOwn _ _ hRw).setOwn _ _ hRw⟩
    have hP := (probB_true E xs).1 hp
    have HS := Lib.hid (show shareP rule E xs = some (lowP (ruleP rule E xs)) by unfold shareP; rw [if_pos ⟨hp, by omega, by omega⟩])
    have hK := rule_ok (rule := rule) hP
    have hrc := qrule_calls w3 rule E ao cap xs (hI.ext hx03) hP (by omega) (by omega)
    have HL := Lib.hid hP.seven
    have HK := Lib.hid hK
    clear hp hP hK
    go_wp2_with fail
    refine hrc.mono ?_
    rintro e w7 ⟨v, es, qs, rfl, hQO, hrq, hx7⟩
    have hq := hrq.eq HK.out.len
    have hql := hrq.1
    obtain ⟨t0, tc, rfl, hTQ, -⟩ := hQO.qsIn
    have hx07 := hx03.trans hx7
    have hs7 := hs3.ext hx7
    clear hrc hQO hrq
    rw [hq] at hTQ
    rw [hql, ← HK.out.len]
    clear hq hql
    have hpc := qparts_calls w7 t0 tc (ruleP rule E xs).1 (ruleP rule E xs).2 hTQ (by rw [HK.out.len]; have := HL.out; omega) (by have := HK.out.den; omega) (fun k hk => by have := HK.out.num k (by rw [← HK.out.len]; exact hk); omega)
    obtain ⟨p, hp⟩ : ∃ p, p = ruleP rule E xs := ⟨_, rfl⟩
    rw [← hp] at hpc HS ⊢
    clear hp hTQ HK
    go_wp2_with fail
    refine hpc.mono ?_
    rintro e w9 ⟨v, rfl, ho, hx9⟩
    have hx09 := hx07.trans hx9
    have hsb := hs7.ext hx9
    obtain ⟨vo, vn, vc, rfl, -⟩ := ho.shapeCap
    obtain ⟨c0, hc0⟩ := Option.isSome_iff_exists.1 hsb.some0
    obtain ⟨c1, hc1⟩ := Option.isSome_iff_exists.1 hsb.some1
    have hf0 := hsb.free0
    have hf1 := hsb.free1
    have hR8 := hs7.lt
    obtain ⟨L, hL⟩ : ∃ L, L = (p.1.map (· / (gcdL p.2 p.1 : Int))) := ⟨_, rfl⟩
    obtain ⟨D, hD⟩ : ∃ D : Int, D = p.2 / gcdL p.2 p.1 := ⟨_, rfl⟩
    rw [← hL] at ho
    rw [← hD]
    have HLD : Hid (lowP p = (L, D)) := Lib.hid (by rw [hL, hD]; rfl)
    clear hL hD hpc
    go_wp2_with fail
    obtain ⟨q0, q1⟩ := hsb.put (.slice vo vn vc) (.int .i64 D)
    refine bodyPost_ret (v := .tuple #[.agg #[.slice vo vn vc, .int .i64 D], .int .i64 0]) (by simp [results, Try.results21, go_sem, q0, q1]) rfl ?_
    have ho2 := (ho.keep (grownBy_setCell _ ⟨R, 0, none⟩ (.slice vo vn vc)) (by right; intro e; have := (ho.lt R e).1; omega)).keep (grownBy_setCell _ ⟨R, 1, none⟩ (.int .i64 D)) (by right; intro e; have := (ho.lt R e).1; omega)
    exact .inr ⟨(L, D), .slice vo vn vc, by rw [HS.out, HLD.out], rfl, ho2.rebase hx07.size, (hx09.setOwn _ _ hRw).setOwn _ _ hRw⟩
end Go.Proofs.Ytcngecibljgndaa

/- Arguments of a law laid open (integers, lists of integers, Parts), and the frame of a law: arguments that are read again, the result true. -/
namespace Go.Proofs.Ytcngecibljgndaa
open Go.ChangeShapes Go.WideShapes Go.ChangeAt Go.RowKit Go.Deep

theorem own_any : ownKnob Try.prog.godebug = none := by kernel_rfl
theorem laidOut_any : laidOutB Try.prog = true := by kernel_rfl

/-- The integer is one of int. -/
def I64 (x : Int) : Prop := -9223372036854775808 ≤ x ∧ x ≤ 9223372036854775807
theorem i64_of {x : Int} (h : (Lit.int .i64 x).wf = true) : I64 x := by
  simp only [Lit.wf, Bool.and_eq_true, decide_eq_true_eq] at h
  have h1 : IntKind.i64.min = -9223372036854775808 := by decide
  have h2 : IntKind.i64.max = 9223372036854775807 := by decide
  unfold I64
  omega
theorem cell_plain {w : World} {a : Addr} {v : Value} (h : w.cell? a = some v) : ∃ b off, a = ⟨b, off, none⟩ ∧ b < w.heap.size := by
  obtain ⟨b, off, sp⟩ := a
  unfold World.cell? at h
  split at h
  · rename_i c _ _ hh
    cases sp with
    | none => exact ⟨b, off, rfl, (Array.getElem?_eq_some_iff.1 hh).1⟩
    | some x => simp at h
  · simp at h
/-- What a law of this package answers: true, and nothing that was there has changed. -/
def TrueRes (w : World) (e : Ending) (w' : World) : Prop := e = .returned (.bool true) ∧ Ext w w'
section
variable {H : Type} {enc : TypeId × Value → H}
theorem trodAll_below {W W' : World} (hb : Below W.heap.size W W') : ∀ (ts : List TypeId) (vs : List Value) (ds : List (DataW H)) (ps : List MemPlace), (∀ t ∈ ts, Try.prog.readableRec t = true ∧ t < Try.prog.types.size) → (∀ x ∈ ps, x.block < W.heap.size) →
    DataW.TrodAll enc Try.prog W 0 (fun _ => true) true ts vs ds ps → DataW.TrodAll enc Try.prog W' 0 (fun b => decide (b < W.heap.size)) true ts vs ds ps := by
  intro ts
  induction ts with
  | nil =>
    intro vs ds ps _ _ h
    cases vs with
    | nil => cases ds with
      | nil => exact h
      | cons d ds => exact (h : False).elim
    | cons v vs => cases ds with
      | nil => exact (h : False).elim
      | cons d ds => exact (h : False).elim
  | cons t ts ih =>
    intro vs ds ps hr hlt h
    cases vs with
    | nil => cases ds with
      | nil => exact (h : False).elim
      | cons d ds => exact (h : False).elim
    | cons v vs => cases ds with
      | nil => exact (h : False).elim
      | cons d ds =>
        obtain ⟨p, q, h1, h2, rfl⟩ := h
        have ht := hr t (by simp)
        exact ⟨p, q, Below.trod laidOut_any ht.1 ht.2 h1 hb (fun x hx => hlt x (by simp [hx])), ih vs ds q (fun t ht => hr t (by simp [ht])) (fun x hx => hlt x (by simp [hx])) h2, rfl⟩
theorem post_true {f : Func} {s : ChangeSpec} {W W' : World} {args : Array Value} {ds gs : List (DataW H)} {before : List MemPlace} (hW : DataW.Whole enc Try.prog f.params.toList s.vars false W args.toList ds gs before) (hv : s.vars = []) (hres : f.resultTypes = #[4])
    (hfn : s.fn H (ds ++ []) = { results := [.lit (.bool true)], args := ds }) (hr : ∀ t ∈ f.params.toList, Try.prog.readableRec t = true ∧ t < Try.prog.types.size) (hb : Below W.heap.size W W') :
    s.post enc Try.prog f false true false false W args (.bool true) W' := by
  have hW' := hW
  obtain ⟨p, q, hA, hV, rfl, hfz, hnd⟩ := hW
  rw [hv] at hV
  obtain ⟨rfl, rfl⟩ := trodVars_none hV
  refine ⟨ds, [], p ++ [], [], p ++ [], [], hW', ?_, ?_, ?_, World.keptBut_mono (fun x hx => ⟨hx, .inr (.inl hx)⟩) (hb.frame _), fun h => by cases h⟩
  · rw [hfn, hres]
    exact trodAll_mk1 (shut_bool Try.underlying4 true)
  · rw [hfn]
    have hlt : ∀ x ∈ p ++ [], x.block < W.heap.size := fun x hx => by simpa using hW'.lt x hx
    have := trodAll_below hb _ _ _ _ hr (fun x hx => hlt x (by simpa using hx)) hA
    simpa using this
  · rw [hfn, hv]
    exact rfl
end
set_option maxRecDepth 100000 in
theorem open_list {H : Type} {enc : TypeId × Value → H} {W : World} {v : Value} {d : DataW H} {p : List MemPlace} {r : Reach} {b0 : Nat} (hv : Value.okWide Try.prog W r b0 22 v) (h : DataW.Trod enc Try.prog W 0 (fun _ => true) true 22 v d p) :
    ∃ ao cap J, v = .slice ao J.length cap ∧ IntsIn W ao J ∧ J.length ≤ maxLen ∧ ∀ k, k < J.length → I64 (ith J k) := by
  obtain ⟨a, len, cap, rfl⟩ := okWide_slice Try.underlying22 hv
  obtain ⟨fuel, hf⟩ := h
  rcases open_ints Try.underlying22 Try.underlying3 (by kernel_rfl) hf with ⟨hc, _⟩ | ⟨a', len', cap', zs, hc, _, hl, hm, hz, _, hcell, hwf⟩
  · simp only [Value.cells, List.cons.injEq, Value.slice.injEq, and_true] at hc
    obtain ⟨rfl, rfl, rfl⟩ := hc
    exact ⟨none, 0, [], rfl, fun k hk => by simp at hk, by simp, fun k hk => by simp at hk⟩
  · simp only [Value.cells, List.cons.injEq, Value.slice.injEq, and_true] at hc
    obtain ⟨rfl, rfl, rfl⟩ := hc
    simp only [if_true] at hz
    have hlz : (zs.take len).length = len := by simp; omega
    refine ⟨some a', cap, zs.take len, by rw [hlz], fun k hk => ?_, by omega, fun k hk => ?_⟩
    · rw [hlz] at hk
      have h0 := hcell 0 (by omega)
      have hz0 : a'.add 0 = a' := by simp [Addr.add]
      rw [hz0] at h0
      obtain ⟨b, off, rfl, hb⟩ := cell_plain h0
      have hk' := hcell k (by omega)
      have e : (⟨b, off, none⟩ : Addr).add k = ⟨b, off + k, none⟩ := by
        simp only [Addr.add]
        split
        · rename_i e; subst e; rfl
        · rfl
      rw [e] at hk'
      refine ⟨b, off, rfl, hb, ?_⟩
      rw [hk']
      simp [ith, hk]
    · rw [hlz] at hk
      have : ith (zs.take len) k ∈ zs := by
        simp only [ith, List.getD_eq_getElem?_getD, List.getElem?_take, hk, if_true]
        rw [List.getElem?_eq_getElem (by omega)]
        simp
      exact i64_of (hwf _ this)

/-- alive answers true. -/
def AliveOK : Prop := ∀ (w w2 : World), Ext w w2 → Calls Try.prog 20 #[] w2 fun e w' => e = .returned (.bool true) ∧ Ext w w'
theorem few_calls (w : World) (ao : Option Addr) (len cap : Nat) :
    Calls Try.prog 19 #[.slice ao len cap] w fun e w' => e = .returned (.bool (decide (len ≤ 40))) ∧ Ext w w' := by
  go_enter Try.func19, Try.ntmps19
  go_wp2_with fail
  go_ret
  refine ⟨ret_bool ?_, Ext.refl _⟩
  rw [Bool.eq_iff_iff]; simp; omega
end Go.Proofs.Ytcngecibljgndaa

/- QuotaShares: the walk. -/
namespace Go.Proofs.Ytcngecibljgndaa
open Go.RowKit Go.Shelf

def shN (p : Option (List Int × Int)) : List Int := match p with | none => [] | some q => q.1
def shD (p : Option (List Int × Int)) : Int := match p with | none => 0 | some q => q.2
def shE (p : Option (List Int × Int)) : Int := match p with | none => 2 | some _ => 0
def PartRes (w : World) (l : List Int) (d er : Int) (e : Ending) (w' : World) : Prop := ∃ v, e = .returned (.tuple #[.agg #[v, .int .i64 d], .int .i64 er]) ∧ Own w' w.heap.size 1 v (ints l) ∧ Ext w w'
theorem Parted.one {w w' : World} {p : Option (List Int × Int)} {e : Ending} (h : Parted w p e w') : PartRes w (shN p) (shD p) (shE p) e w' := by
  rcases h with ⟨rfl, rfl, hx⟩ | ⟨q, v, rfl, rfl, ho, hx⟩
  · exact ⟨_, rfl, Own.nil _ _ _, hx⟩
  · exact ⟨_, rfl, ho, hx⟩
theorem share_len {rule E : Int} {xs : List Int} : (shN (shareP rule E xs)).length ≤ 7 := by
  unfold shN
  split
  · simp
  · rename_i q hq
    obtain ⟨h1, h2⟩ := share_is hq
    rw [h2.len]; exact h1.seven
/-- Cells that may be written. -/
def Free (w : World) (a : Option Addr) (n : Nat) : Prop := ∀ k, k < n → ∃ g off, a = some ⟨g, off, none⟩ ∧ (∃ u, w.cell? ⟨g, off + k, none⟩ = some u) ∧ w.frozen? ⟨g, off + k, none⟩ = false
theorem Free.ext {w w' : World} {a : Option Addr} {n : Nat} (h : Free w a n) (hb : ∀ b, a = some b → b.block < w.heap.size) (hx : Ext w w') : Free w' a n := fun k hk => by
  obtain ⟨g, off, rfl, ⟨u, hu⟩, hf⟩ := h k hk
  have hl : g < w.heap.size := hb _ rfl
  exact ⟨g, off, rfl, ⟨u, (hx.cell (p := ⟨g, off + k, none⟩) hl).trans hu⟩, (hx.frozen (p := ⟨g, off + k, none⟩) hl).trans hf⟩
theorem Free.put {w : World} {g off n : Nat} {p : Addr} {v : Value} (h : Free w (some ⟨g, off, none⟩) n) : Free (w.setCell p v) (some ⟨g, off, none⟩) n := fun k hk => by
  obtain ⟨g', off', e, ⟨u, hu⟩, hf⟩ := h k hk
  simp only [Option.some.injEq, Addr.mk.injEq, and_true] at e
  obtain ⟨rfl, rfl⟩ := e
  refine ⟨g, off, rfl, ?_, by rw [World.frozen?_setCell]; exact hf⟩
  by_cases e : p = ⟨g, off + k, none⟩
  · subst e; exact ⟨v, World.cell?_setCell_same w _ v hu⟩
  · exact ⟨u, by rw [World.cell?_setCell_other w _ _ v e]; exact hu⟩
theorem Own.free {w : World} {base : Nat} {a : Option Addr} {n c : Nat} {xs : List Value} (h : Own w base 1 (.slice a n c) xs) : Free w a n := by
  intro k hk
  obtain ⟨n', hl, ⟨h, h0⟩ | ⟨g, off, cap, h, hb, hlt, hnc, hcm, hc, hx⟩⟩ := h
  · simp only [Value.slice.injEq] at h; omega
  · simp only [Value.slice.injEq] at h
    obtain ⟨rfl, rfl, rfl⟩ := h
    obtain ⟨h1, h2⟩ := hc k (by omega)
    exact ⟨g, off, rfl, Option.isSome_iff_exists.1 h1, h2⟩
theorem PBox.far {w : World} {B g o : Nat} {v u : Value} {d : Int} (h : PBox w B v d) (hg : g ≠ B) : PBox (w.setCell ⟨g, o, none⟩ u) B v d := by
  obtain ⟨h0, h1, h2⟩ := h
  exact ⟨by rw [World.cell?_setCell_other w _ _ u (fun h => hg (congrArg Addr.block h))]; exact h0, by rw [World.cell?_setCell_other w _ _ u (fun h => hg (congrArg Addr.block h))]; exact h1, by simpa [World.setCell] using h2⟩
set_option maxRecDepth 100000 in
set_option maxHeartbeats 4000000 in
theorem quotaShares_law (hA : AliveOK) (w : World) (rule E : Int) (ao : Option Addr) (cap : Nat) (xs : List Int) (hI : IntsIn w ao xs) :
    Calls Try.prog 3 #[.int .i64 rule, .int .i64 E, .slice ao xs.length cap] w (TrueRes w) := by
  obtain ⟨i0, hi, hz0, hz1, hz2⟩ := info_parts info_int
  go_enter Try.func3, Try.ntmps3
  go_wp2_with fail
  refine (few_calls _ ao xs.length cap).mono ?_
  rintro e w2 ⟨rfl, hx2⟩
  cases hd : decide (xs.length ≤ 40) with
  | false =>
    go_wp2_with fail
    refine (hA w _ hx2).mono ?_
    rintro e w9 ⟨rfl, hx9⟩
    go_wp2_with fail
    go_ret
    exact ⟨rfl, hx9⟩
  | true =>
    have hl1 : xs.length ≤ 40 := by simpa using hd
    have hI2 := hI.ext hx2
    have hsl := share_len (rule := rule) (E := E) (xs := xs)
    have hrc := fun W h => (refShare_calls W rule E ao cap xs h).mono (fun e w' h => h.one)
    have hpc := fun W oo oc h => (share_calls W rule E oo oc xs h (by omega)).mono (fun e w' h => h.one)
    obtain ⟨l, hl⟩ : ∃ l, l = shN (shareP rule E xs) := ⟨_, rfl⟩
    obtain ⟨d, hdd⟩ : ∃ d, d = shD (shareP rule E xs) := ⟨_, rfl⟩
    obtain ⟨er, her⟩ : ∃ er, er = shE (shareP rule E xs) := ⟨_, rfl⟩
    rw [← hl] at hsl
    simp only [← hl, ← hdd, ← her] at hrc hpc
    clear hl hdd her
    obtain ⟨W, hW⟩ : ∃ W, W ≤ w2.heap.size ∧ w2.heap.size ≤ W := ⟨_, Nat.le_refl _, Nat.le_refl _⟩
    go_wp2_with (at_builtin; refine wpList_append_ints _ rfl _ _ 22 rfl 3 i0 Try.underlying22 hi hz0 hz1 hz2 W _ [] rfl (Own.hollow _ _ _ _ hW.1 (by simp)) (by simp; omega) ao _ xs rfl (hI2.ext ((Ext.refl _).alloc _)) (by simp) (by omega) ?_; intro v6 w6 ho6 hg6 hb6)
    have hx6 : Ext w2 w6 := ((Ext.refl w2).alloc _).onto hg6 (fun q hq => by
      have h1 : some w2.heap.size = some q := hq
      simp only [Option.some.injEq] at h1
      omega)
    rw [List.nil_append] at ho6
    clear hg6 hb6 hi hz0 hz1 hz2
    obtain ⟨oo, oc, rfl, hO6, -⟩ := ho6.intsShape
    have hI6 := hI2.ext hx6
    have hx06 := hx2.trans hx6
    clear ho6 hI2 hx2 hx6 hI
    refine (hrc _ hI6).mono ?_
    rintro e w7 ⟨v, rfl, ho7, hx7⟩
    obtain ⟨yo, yc, rfl, hY7, -⟩ := ho7.intsShape
    have hx07 := hx06.trans hx7
    have hO7 := hO6.ext hx7
    have hI7 := hI6.ext hx7
    clear ho7 hx7 hx06 hO6 hI6 hrc
    go_wp2_with fail
    have hx8 : Ext w7 (w7.alloc (Obj.cells #[.slice yo l.length yc, .int .i64 d] 26)) := (Ext.refl _).alloc _
    have hyb := PBox.new w7 26 (.slice yo l.length yc) d
    obtain ⟨B, hB⟩ : ∃ B, B = w7.heap.size := ⟨_, rfl⟩
    generalize (w7.alloc (Obj.cells #[.slice yo l.length yc, .int .i64 d] 26)) = w8 at *
    rw [← hB] at hyb ⊢
    clear hB
    have hx08 := hx07.trans hx8
    have hO8 := hO7.ext hx8
    have hI8 := hI7.ext hx8
    have hY8 := hY7.ext hx8
    clear hO7 hI7 hY7 hx8 hx07
    go_loopw [10] (fun tv wr => ∃ k : Nat, k ≤ 2 ∧ tv = .int .i64 k ∧ Ext w8 wr) (fun tv _ => 2 - (intOf tv).toNat)
    case atStart => exact ⟨0, by omega, rfl, Ext.refl _⟩
    case round =>
      obtain ⟨k, hk, rfl, hx⟩ := hrel
      by_cases hlt : k < 2
      · go_wp2_with fail
        refine (hpc _ oo oc (hO8.ext hx)).mono ?_
        rintro e w9 ⟨v, rfl, ho9, hx9⟩
        obtain ⟨xo, xc, rfl, hX9, hXlow⟩ := ho9.intsShape
        have hfree := ho9.free
        have hx89 := hx.trans hx9
        have hrb := hx.size
        clear ho9
        have hyb9 := hyb.ext hx89
        obtain ⟨q0, q1, q2⟩ := id hyb9
        go_upto_region 9 with fail
        have hx10 : Ext w9 (w9.alloc (Obj.cells #[.slice xo l.length xc, .int .i64 d] 26)) := (Ext.refl _).alloc _
        have hxb := PBox.new w9 26 (.slice xo l.length xc) d
        obtain ⟨C, hC⟩ : ∃ C, C = w9.heap.size := ⟨_, rfl⟩
        have hCl : ∀ a, xo = some a → a.block ≠ C := fun a ha => by have := (hXlow a ha).2; omega
        obtain ⟨w10, hw10⟩ : ∃ w10, w10 = (w9.alloc (Obj.cells #[.slice xo l.length xc, .int .i64 d] 26)) := ⟨_, rfl⟩
        rw [← hw10] at hx10 hxb ⊢
        rw [← hC] at hxb ⊢
        clear hw10 hC q0 q1 q2
        have hyb10 := hyb9.ext hx10
        have hs910 := hx10.size
        obtain ⟨q0, q1, q2⟩ := id hyb10
        obtain ⟨r0, r1, r2⟩ := id hxb
        have hF10 := hfree.ext (fun b hb => (hXlow b hb).2) hx10
        have hX10 := hX9.ext hx10
        have hY10 := hY8.ext (hx89.trans hx10)
        have hx810 := hx89.trans hx10
        have hwr10 := hx9.trans hx10
        clear hfree hX9 hyb9 hx89 hx9 hx10
        have hpp := parts_calls w10 xo yo xc yc l l d d hX10 hY10 (by omega) (by omega)
        rw [show partsB d l d l = true by simp [partsB]] at hpp
        go_wp2_with fail
        refine hpp.mono ?_
        rintro e w11 ⟨rfl, hx11⟩
        have hF11 := hF10.ext (fun b hb => Nat.lt_of_lt_of_le (hXlow b hb).2 hs910) hx11
        have hxb11 := hxb.ext hx11
        have hx811 := hx810.trans hx11
        have hwr11 := hwr10.trans hx11
        clear hF10 hxb q0 q1 q2 r0 r1 r2 hpp hyb10 hx11 hwr10 hx810 hX10 hY10
        go_wp2_with fail
        go_loopw [13] (fun iv wz => ∃ j : Nat, j ≤ l.length ∧ iv = .int .i64 j ∧ Ext w8 wz ∧ PBox wz C (.slice xo l.length xc) d ∧ Free wz xo l.length) (fun iv _ => l.length - (intOf iv).toNat)
        case atStart => exact ⟨0, by omega, rfl, hx811, hxb11, hF11⟩
        case round =>
          rename World => wz
          obtain ⟨j, hj, rfl, hxz, hbz, hFz⟩ := hrel
          obtain ⟨q0, q1, q2⟩ := id hbz
          by_cases hlj : j < l.length
          · obtain ⟨g, off, rfl, ⟨u, hu⟩, hfr⟩ := hFz j hlj
            have hgC : g ≠ C := hCl _ rfl
            have hgw : w8.heap.size ≤ g := by have := (hXlow _ rfl).1; simp only [] at this; omega
            go_wp2_with fail
            exact ⟨⟨j + 1, by omega, rfl, hxz.setOwn _ _ hgw, hbz.far hgC, hFz.put⟩, by simp only [intOf]; omega⟩
          · obtain rfl : j = l.length := by omega
            go_wp2_with fail
            exact ⟨⟨k + 1, by omega, rfl, hxz⟩, by simp only [intOf]; omega⟩
      · obtain rfl : k = 2 := by omega
        have hsc := same_calls wr oo ao oc cap xs xs (hO8.ext hx) (hI8.ext hx) (by omega) (by omega)
        rw [decide_eq_true (rfl : xs = xs)] at hsc
        go_wp2_with fail
        refine hsc.mono ?_
        rintro e w9 ⟨rfl, hx9⟩
        have hx09 := (hx08.trans hx).trans hx9
        go_wp2_with fail
        refine (hA w _ hx09).mono ?_
        rintro e w9 ⟨rfl, hx9⟩
        go_wp2_with fail
        go_ret
        exact ⟨rfl, hx9⟩
end Go.Proofs.Ytcngecibljgndaa

/- alive: true, without a premise. -/
namespace Go.Proofs.Ytcngecibljgndaa
open Go.RowKit Go.Shelf

theorem tabledOK : TabledOK := fun w n ao cap ss hI hl hn hs => tabled_calls w n ao cap ss hI hl hn hs
theorem aliveOK : AliveOK := fun _ w2 hx => (alive_calls tabledOK w2).mono (fun _ _ ⟨he, hx'⟩ => ⟨he, hx.trans hx'⟩)
end Go.Proofs.Ytcngecibljgndaa
