/- Arguments of a law laid open (integers, lists of integers, Parts), and the frame of a law: arguments that are read again, the result true. -/
import Derived.Test.YtcngecibljgndaaKit
import Derived.Test.YtcngecibljgndaaRows
import Derived.ProofKit
import Derived.Deep.Slices
import Derived.Deep.Fields
import Derived.Below
import Derived.Carry
import Derived.Test.YtcngecibljgndaaMQGC
import Derived.Test.YtcngecibljgndaaMQW
namespace Go.Proofs.Ytcngecibljgndaa
open Go.ChangeShapes Go.WideShapes Go.ChangeAt Go.RowKit Go.Deep

theorem own_any : ownKnob Try.prog.godebug = none := by kernel_rfl
theorem laidOut_any : laidOutB Try.prog = true := by kernel_rfl

/-- The integer is one of int. -/
def I64 (x : Int) : Prop := -9223372036854775808 ≤ x ∧ x ≤ 9223372036854775807
theorem i64_of {x : Int} (h : (Lit.int .i64 x).wf = true) : I64 x := by
  simp only [Lit.wf, Bool.and_eq_true, decide_eq_true_eq] at h
  have h1 : IntKind.i64.min = -9223372036854775808 := by decide
  have h2 : IntKind.i64.max = 9223372036854775807 := by decide
  unfold I64
  omega
theorem i64_wf {x : Int} (h : I64 x) : (Lit.int .i64 x).wf = true := by
  unfold I64 at h
  simp only [Lit.wf, Bool.and_eq_true, decide_eq_true_eq]
  have h1 : IntKind.i64.min = -9223372036854775808 := by decide
  have h2 : IntKind.i64.max = 9223372036854775807 := by decide
  omega
theorem cell_plain {w : World} {a : Addr} {v : Value} (h : w.cell? a = some v) : ∃ b off, a = ⟨b, off, none⟩ ∧ b < w.heap.size := by
  obtain ⟨b, off, sp⟩ := a
  unfold World.cell? at h
  split at h
  · rename_i c _ _ hh
    cases sp with
    | none => exact ⟨b, off, rfl, (Array.getElem?_eq_some_iff.1 hh).1⟩
    | some x => simp at h
  · simp at h
/-- What a law of this package answers: true, and nothing that was there has changed. -/
def TrueRes (w : World) (e : Ending) (w' : World) : Prop := e = .returned (.bool true) ∧ Ext w w'
section
variable {H : Type} {enc : TypeId × Value → H}
theorem trodAll_below {W W' : World} (hb : Below W.heap.size W W') : ∀ (ts : List TypeId) (vs : List Value) (ds : List (DataW H)) (ps : List MemPlace), (∀ t ∈ ts, Try.prog.readableRec t = true ∧ t < Try.prog.types.size) → (∀ x ∈ ps, x.block < W.heap.size) →
    DataW.TrodAll enc Try.prog W 0 (fun _ => true) true ts vs ds ps → DataW.TrodAll enc Try.prog W' 0 (fun b => decide (b < W.heap.size)) true ts vs ds ps := by
  intro ts
  induction ts with
  | nil =>
    intro vs ds ps _ _ h
    cases vs with
    | nil => cases ds with
      | nil => exact h
      | cons d ds => exact (h : False).elim
    | cons v vs => cases ds with
      | nil => exact (h : False).elim
      | cons d ds => exact (h : False).elim
  | cons t ts ih =>
    intro vs ds ps hr hlt h
    cases vs with
    | nil => cases ds with
      | nil => exact (h : False).elim
      | cons d ds => exact (h : False).elim
    | cons v vs => cases ds with
      | nil => exact (h : False).elim
      | cons d ds =>
        obtain ⟨p, q, h1, h2, rfl⟩ := h
        have ht := hr t (by simp)
        exact ⟨p, q, Below.trod laidOut_any ht.1 ht.2 h1 hb (fun x hx => hlt x (by simp [hx])), ih vs ds q (fun t ht => hr t (by simp [ht])) (fun x hx => hlt x (by simp [hx])) h2, rfl⟩
theorem post_true {f : Func} {s : ChangeSpec} {W W' : World} {args : Array Value} {ds gs : List (DataW H)} {before : List MemPlace} (hW : DataW.Whole enc Try.prog f.params.toList s.vars false W args.toList ds gs before) (hv : s.vars = []) (hres : f.resultTypes = #[4])
    (hfn : s.fn H (ds ++ []) = { results := [.lit (.bool true)], args := ds }) (hr : ∀ t ∈ f.params.toList, Try.prog.readableRec t = true ∧ t < Try.prog.types.size) (hb : Below W.heap.size W W') :
    s.post enc Try.prog f false true false false W args (.bool true) W' := by
  have hW' := hW
  obtain ⟨p, q, hA, hV, rfl, hfz, hnd⟩ := hW
  rw [hv] at hV
  obtain ⟨rfl, rfl⟩ := trodVars_none hV
  refine ⟨ds, [], p ++ [], [], p ++ [], [], hW', ?_, ?_, ?_, World.keptBut_mono (fun x hx => ⟨hx, .inr (.inl hx)⟩) (hb.frame _), fun h => by cases h⟩
  · rw [hfn, hres]
    exact trodAll_mk1 (shut_bool Try.underlying4 true)
  · rw [hfn]
    have hlt : ∀ x ∈ p ++ [], x.block < W.heap.size := fun x hx => by simpa using hW'.lt x hx
    have := trodAll_below hb _ _ _ _ hr (fun x hx => hlt x (by simpa using hx)) hA
    simpa using this
  · rw [hfn, hv]
    exact rfl
end
set_option maxRecDepth 100000 in
theorem open_list {H : Type} {enc : TypeId × Value → H} {W : World} {v : Value} {d : DataW H} {p : List MemPlace} {r : Reach} {b0 : Nat} (hv : Value.okWide Try.prog W r b0 22 v) (h : DataW.Trod enc Try.prog W 0 (fun _ => true) true 22 v d p) :
    ∃ ao cap J, v = .slice ao J.length cap ∧ IntsIn W ao J ∧ J.length ≤ maxLen ∧ ∀ k, k < J.length → I64 (ith J k) := by
  obtain ⟨a, len, cap, rfl⟩ := okWide_slice Try.underlying22 hv
  obtain ⟨fuel, hf⟩ := h
  rcases open_ints Try.underlying22 Try.underlying3 (by kernel_rfl) hf with ⟨hc, _⟩ | ⟨a', len', cap', zs, hc, _, hl, hm, hz, _, hcell, hwf⟩
  · simp only [Value.cells, List.cons.injEq, Value.slice.injEq, and_true] at hc
    obtain ⟨rfl, rfl, rfl⟩ := hc
    exact ⟨none, 0, [], rfl, fun k hk => by simp at hk, by simp, fun k hk => by simp at hk⟩
  · simp only [Value.cells, List.cons.injEq, Value.slice.injEq, and_true] at hc
    obtain ⟨rfl, rfl, rfl⟩ := hc
    simp only [if_true] at hz
    have hlz : (zs.take len).length = len := by simp; omega
    refine ⟨some a', cap, zs.take len, by rw [hlz], fun k hk => ?_, by omega, fun k hk => ?_⟩
    · rw [hlz] at hk
      have h0 := hcell 0 (by omega)
      have hz0 : a'.add 0 = a' := by simp [Addr.add]
      rw [hz0] at h0
      obtain ⟨b, off, rfl, hb⟩ := cell_plain h0
      have hk' := hcell k (by omega)
      have e : (⟨b, off, none⟩ : Addr).add k = ⟨b, off + k, none⟩ := by
        simp only [Addr.add]
        split
        · rename_i e; subst e; rfl
        · rfl
      rw [e] at hk'
      refine ⟨b, off, rfl, hb, ?_⟩
      rw [hk']
      simp [ith, hk]
    · rw [hlz] at hk
      have : ith (zs.take len) k ∈ zs := by
        simp only [ith, List.getD_eq_getElem?_getD, List.getElem?_take, hk, if_true]
        rw [List.getElem?_eq_getElem (by omega)]
        simp
      exact i64_of (hwf _ this)

set_option maxRecDepth 100000 in
theorem list_cells {H : Type} {enc : TypeId × Value → H} {W : World} {c0 : Value} {y : DataW H × List MemPlace} {fuel : Nat} (hf : DataW.trod enc Try.prog W 0 (fun _ => true) true fuel 22 [c0] = some y) :
    ∃ ao cap J, c0 = .slice ao J.length cap ∧ IntsIn W ao J ∧ J.length ≤ maxLen ∧ ∀ k, k < J.length → I64 (ith J k) := by
  rcases open_ints Try.underlying22 Try.underlying3 (by kernel_rfl) hf with ⟨hc, _⟩ | ⟨a', len', cap', zs, hc, _, hl, hm, hz, _, hcell, hwf⟩
  · simp only [List.cons.injEq, and_true] at hc
    subst hc
    exact ⟨none, 0, [], rfl, fun k hk => by simp at hk, by simp, fun k hk => by simp at hk⟩
  · simp only [List.cons.injEq, and_true] at hc
    subst hc
    simp only [if_true] at hz
    have hlz : (zs.take len').length = len' := by simp; omega
    refine ⟨some a', cap', zs.take len', by rw [hlz], fun k hk => ?_, by omega, fun k hk => ?_⟩
    · rw [hlz] at hk
      have h0 := hcell 0 (by omega)
      have hz0 : a'.add 0 = a' := by simp [Addr.add]
      rw [hz0] at h0
      obtain ⟨b, off, rfl, hb⟩ := cell_plain h0
      have hk' := hcell k (by omega)
      have e : (⟨b, off, none⟩ : Addr).add k = ⟨b, off + k, none⟩ := by
        simp only [Addr.add]
        split
        · rename_i e; subst e; rfl
        · rfl
      rw [e] at hk'
      refine ⟨b, off, rfl, hb, ?_⟩
      rw [hk']
      simp [ith, hk]
    · rw [hlz] at hk
      have : ith (zs.take len') k ∈ zs := by
        simp only [ith, List.getD_eq_getElem?_getD, List.getElem?_take, hk, if_true]
        rw [List.getElem?_eq_getElem (by omega)]
        simp
      exact i64_of (hwf _ this)
/-- alive answers true. -/
def AliveOK : Prop := ∀ (w w2 : World), Ext w w2 → Calls Try.prog 20 #[] w2 fun e w' => e = .returned (.bool true) ∧ Ext w w'
theorem few_calls (w : World) (ao : Option Addr) (len cap : Nat) :
    Calls Try.prog 19 #[.slice ao len cap] w fun e w' => e = .returned (.bool (decide (len ≤ 40))) ∧ Ext w w' := by
  go_enter Try.func19, Try.ntmps19
  go_wp2_with fail
  go_ret
  refine ⟨ret_bool ?_, Ext.refl _⟩
  rw [Bool.eq_iff_iff]; simp; omega
theorem two_cells {H : Type} {enc : TypeId × Value → H} {w : World} {base : Nat} {spare : Nat → Bool} {held : Bool} {P : Program} {t : TypeId} {fuel : Nat} {cs : List Value} {x : DataW H × List MemPlace} {f0 f1 : Field} (hs : P.underlying t = some (.struct #[f0, f1])) (hone : oneCellFields P #[f0, f1] = true) (hC : P.cellsOf t = 2)
    (h : DataW.trod enc P w base spare held fuel t cs = some x) :
    ∃ c0 c1 y0 y1 n, cs = [c0, c1] ∧ DataW.trod enc P w base spare held n f0.type [c0] = some y0 ∧ DataW.trod enc P w base spare held n f1.type [c1] = some y1 := by
  obtain ⟨xs, n, _, _, hcl, hlen, hg⟩ := DataW.trod_struct hs h
  have h5 : cs.length = 2 := hcl.trans hC
  match cs, h5 with
  | [c0, c1], _ =>
    have hxl : xs.length = 2 := hlen
    match xs, hxl with
    | [y0, y1], _ =>
      obtain ⟨o0, k0⟩ := hone_of hone 0 f0 rfl
      obtain ⟨o1, k1⟩ := hone_of hone 1 f1 rfl
      exact ⟨c0, c1, y0, y1, n, rfl, by simpa [o0, k0] using hg 0 f0 rfl, by simpa [o1, k1] using hg 1 f1 rfl⟩
set_option maxRecDepth 100000 in
theorem open_parts {H : Type} {enc : TypeId × Value → H} {W : World} {v : Value} {d : DataW H} {p : List MemPlace} {r : Reach} {b0 : Nat} (hv : Value.okWide Try.prog W r b0 26 v) (h : DataW.Trod enc Try.prog W 0 (fun _ => true) true 26 v d p) :
    ∃ ao cap J den, v = .agg #[.slice ao J.length cap, .int .i64 den] ∧ IntsIn W ao J ∧ J.length ≤ maxLen ∧ (∀ k, k < J.length → I64 (ith J k)) ∧ I64 den := by
  obtain ⟨cs, rfl, hsz⟩ := okWide_struct Try.underlying26 hv
  obtain ⟨fuel, hf⟩ := h
  obtain ⟨c0, c1, y0, y1, n, hc, g0, g1⟩ := two_cells Try.underlying26 (by kernel_rfl) (by kernel_rfl) hf
  obtain ⟨ao, cap, J, rfl, hJ, hl, hw⟩ := list_cells g0
  obtain ⟨n1, a1, _, w1⟩ := DataW.trod_int Try.underlying3 g1
  simp only [List.cons.injEq, and_true] at a1
  subst a1
  refine ⟨ao, cap, J, n1, ?_, hJ, hl, hw, i64_of w1⟩
  obtain ⟨cl⟩ := cs
  have : (Value.agg ⟨cl⟩).cells.toList = cl := by simp [Value.cells]
  rw [this] at hc
  subst hc
  rfl
end Go.Proofs.Ytcngecibljgndaa

/- quota.Excesses; QuotaGames: the walk. -/
namespace Go.Proofs.Ytcngecibljgndaa
open Go.RowKit Go.Shelf

theorem excP_bd {E d : Int} {xs l : List Int} (hP : IsProb E xs) (hS : IsSh E xs l d) : ∀ z ∈ excP E xs l d, BdI z := by
  intro z hz
  unfold excP at hz
  rw [List.mem_map] at hz
  obtain ⟨s, hs, rfl⟩ := hz
  rw [List.mem_range] at hs
  have hd := hS.den
  have hg := gameP_at E xs hP.claims hP.estate (s + 1) (by omega)
  have h1 : ith (gameP E xs) (s + 1) * d ≤ 100000 * 1000000 := Int.mul_le_mul hg.2 hd.2 (by omega) (by omega)
  have h0 : 0 ≤ ith (gameP E xs) (s + 1) * d := Int.mul_nonneg hg.1 (by omega)
  have hb := takeP_bounds (ith (gameP E xs) (s + 1) * d) l (is_upto hS hP.claims) (s + 1) l.length (Nat.le_refl _)
  have h7 := hP.seven
  have hl := hS.len
  unfold BdI
  omega
theorem excP_length (E d : Int) (xs l : List Int) : (excP E xs l d).length = 2 ^ xs.length - 2 := by simp [excP]
set_option maxRecDepth 100000 in
set_option maxHeartbeats 1000000 in
theorem quotaExcesses_calls (w : World) (E : Int) (ao lo : Option Addr) (cap lcap : Nat) (xs l : List Int) (d : Int) (hI : IntsIn w ao xs) (hJ : IntsIn w lo l) (hl : xs.length ≤ 1000000) (hll : l.length ≤ 1000000) :
    Calls Try.prog 44 #[.int .i64 E, .slice ao xs.length cap, .agg #[.slice lo l.length lcap, .int .i64 d]] w (ExcRes w E xs l d) := by
  have hent := eg_cmpI
  go_enter Try.func44, Try.ntmps44
  go_wp2_with fail
  have hx1 : Ext w (w.alloc (Obj.cells #[.slice lo l.length lcap, .int .i64 d] 26)) := (by repeat (first | exact Ext.refl _ | assumption | refine Ext.alloc ?_ _ | refine Ext.drewN ?_ _ | refine Ext.drew ?_))
  have hbx := PBox.new w 26 (.slice lo l.length lcap) d
  obtain ⟨B, hB⟩ : ∃ B, B = w.heap.size := ⟨_, rfl⟩
  generalize (w.alloc (Obj.cells #[.slice lo l.length lcap, .int .i64 d] 26)) = w1 at *
  rw [← hB] at hbx ⊢
  clear hB
  refine (problem_calls _ E ao cap xs (hI.ext hx1) hl).mono ?_
  rintro e w2 ⟨rfl, hx2⟩
  have hx12 := hx1.trans hx2
  cases hp : probB E xs with
  | false =>
    have HP := Lib.hid hp
    clear hp
    simp only [errI]
    go_wp2_with fail
    go_ret2
    exact .inl ⟨by simp [HP.out], rfl, hx12⟩
  | true =>
    have hP := (probB_true E xs).1 hp
    have HP := Lib.hid hp
    clear hp
    obtain ⟨q0, q1, q2⟩ := hbx.ext hx2
    simp only [errI]
    have hic := fun W h1 h2 => is_calls W E ao lo cap lcap xs l d h1 h2 hP.seven hP.claims hP.estate hll
    have HPP := Lib.hid hP
    have h7 := hP.seven
    clear hP
    go_wp2_with fail
    refine (hic _ (hI.ext hx12) (hJ.ext hx12)).mono ?_
    rintro e w3 ⟨rfl, hx3⟩
    have hx13 := hx12.trans hx3
    clear hic q0 q1 q2
    obtain ⟨q0, q1, q2⟩ := (hbx.ext hx2).ext hx3
    cases hib : isB E xs l d with
    | false =>
      have HIB := Lib.hid hib
      clear hib
      go_wp2_with fail
      go_ret2
      exact .inl ⟨by simp [HIB.out], rfl, hx13⟩
    | true =>
      have hS := isB_true hib
      have HIB := Lib.hid hib
      clear hib
      have hec := excesses_calls w3 E ao lo cap lcap xs l d (hI.ext hx13) (hJ.ext hx13) HPP.out hS
      have HBD := Lib.hid (excP_bd HPP.out hS)
      have hel : (excP E xs l d).length ≤ 126 := by
        rw [excP_length]
        have : 2 ^ xs.length ≤ 2 ^ 7 := Nat.pow_le_pow_right (by omega) h7
        omega
      clear hS
      go_wp2_with fail
      refine hec.mono ?_
      rintro e w4 ⟨v, rfl, ho, hx4⟩
      have hx14 := hx13.trans hx4
      have HR : Hid ((probB E xs && isB E xs l d) = true) := Lib.hid (by rw [HP.out, HIB.out]; rfl)
      clear HP HIB HPP hec q0 q1 q2
      obtain ⟨zs, hzs⟩ : ∃ zs, zs = excP E xs l d := ⟨_, rfl⟩
      rw [← hzs] at ho HBD hel
      have HZ := Lib.hid hzs
      clear hzs
      rcases Nat.eq_zero_or_pos zs.length with h0 | h0
      · obtain ⟨vo, vc, rfl, hV, -⟩ := ho.intsShape
        rw [h0]
        have hz : zs = [] := List.length_eq_zero_iff.1 h0
        subst hz
        clear hV
        go_wp2_with fail
        refine (sort_none w4 vo vc _).mono ?_
        rintro e w5 ⟨rfl, rfl⟩
        go_wp2_with fail
        go_ret2
        refine .inr ⟨HR.out, _, rfl, ?_, hx14⟩
        have : sortD [] = [] := by simp [sortD]
        rw [← HZ.out, this]
        exact ho.rebase hx13.size
      · obtain ⟨g, off, vc, rfl, hgW, hgl⟩ := ho.solid h0
        go_wp2_with fail
        refine (sort_calls w4 _ g off vc zs HBD.out ho (by omega)).mono ?_
        rintro e w5 ⟨rfl, ho5, hg5⟩
        go_wp2_with fail
        go_ret2
        refine .inr ⟨HR.out, _, rfl, by rw [← HZ.out]; exact ho5.rebase hx13.size, hx14.onto hg5 (fun q hq => by simp only [Option.some.injEq] at hq; have := hx13.size; omega)⟩
set_option maxRecDepth 100000 in
set_option maxHeartbeats 1000000 in
theorem quotaGames_law (hA : AliveOK) (w : World) (E : Int) (ao lo : Option Addr) (cap lcap : Nat) (xs l : List Int) (d : Int) (hI : IntsIn w ao xs) (hJ : IntsIn w lo l) :
    Calls Try.prog 17 #[.int .i64 E, .slice ao xs.length cap, .agg #[.slice lo l.length lcap, .int .i64 d]] w (TrueRes w) := by
  go_enter Try.func17, Try.ntmps17
  go_wp2_with fail
  have hx1 : Ext w (w.alloc (Obj.cells #[.slice lo l.length lcap, .int .i64 d] 26)) := (by repeat (first | exact Ext.refl _ | assumption | refine Ext.alloc ?_ _ | refine Ext.drewN ?_ _ | refine Ext.drew ?_))
  have hbx := PBox.new w 26 (.slice lo l.length lcap) d
  obtain ⟨B, hB⟩ : ∃ B, B = w.heap.size := ⟨_, rfl⟩
  generalize (w.alloc (Obj.cells #[.slice lo l.length lcap, .int .i64 d] 26)) = w1 at *
  rw [← hB] at hbx ⊢
  clear hB
  refine (few_calls _ ao xs.length cap).mono ?_
  rintro e w2 ⟨rfl, hx2⟩
  have hx12 := hx1.trans hx2
  have hb2 := hbx.ext hx2
  obtain ⟨q0, q1, q2⟩ := id hb2
  cases hd : decide (xs.length ≤ 40) with
  | false =>
    go_wp2_with fail
    refine (hA w _ hx12).mono ?_
    rintro e w9 ⟨rfl, hx9⟩
    go_wp2_with fail
    go_ret
    exact ⟨rfl, hx9⟩
  | true =>
    go_wp2_with fail
    refine (few_calls _ lo l.length lcap).mono ?_
    rintro e w3 ⟨rfl, hx3⟩
    have hx13 := hx12.trans hx3
    have hb3 := hb2.ext hx3
    clear q0 q1 q2
    cases hd2 : decide (l.length ≤ 40) with
    | false =>
      obtain ⟨q0, q1, q2⟩ := id hb3
      go_wp2_with fail
      refine (hA w _ hx13).mono ?_
      rintro e w9 ⟨rfl, hx9⟩
      go_wp2_with fail
      go_ret
      exact ⟨rfl, hx9⟩
    | true =>
      have hl1 : xs.length ≤ 40 := by simpa using hd
      have hl2 : l.length ≤ 40 := by simpa using hd2
      clear hd hd2
      -- the two games are the same
      obtain ⟨gs, er, hq1, hq2, hgl⟩ : ∃ (gs : List Int) (er : Int), (∀ W, IntsIn W ao xs → Calls Try.prog 34 #[.int .i64 E, .slice ao xs.length cap] W (fun e w' => ∃ o c, e = .returned (.tuple #[.slice o gs.length c, .int .i64 er]) ∧ IntsIn w' o gs ∧ Ext W w')) ∧
          (∀ W, IntsIn W ao xs → Calls Try.prog 46 #[.int .i64 E, .slice ao xs.length cap] W (fun e w' => ∃ o c, e = .returned (.tuple #[.slice o gs.length c, .int .i64 er]) ∧ IntsIn w' o gs ∧ Ext W w')) ∧ gs.length ≤ 1000 := by
        cases hp : probB E xs with
        | false =>
          refine ⟨[], 2, fun W h => (quotaGame_calls W E ao cap xs h (by omega)).mono ?_, fun W h => (refGame_calls W E ao cap xs h).mono ?_, by simp⟩
          · rintro e w' (⟨_, rfl, hx⟩ | ⟨h, _⟩)
            · exact ⟨none, 0, rfl, fun k hk => by simp at hk, hx⟩
            · rw [hp] at h; simp at h
          · rintro e w' (⟨_, rfl, hx⟩ | ⟨h, _⟩)
            · exact ⟨none, 0, rfl, fun k hk => by simp at hk, hx⟩
            · rw [hp] at h; simp at h
        | true =>
          have hP := (probB_true E xs).1 hp
          refine ⟨gameP E xs, 0, fun W h => (quotaGame_calls W E ao cap xs h (by omega)).mono ?_, fun W h => (refGame_calls W E ao cap xs h).mono ?_, ?_⟩
          · rintro e w' (⟨h, _⟩ | ⟨_, v, rfl, ho, hx⟩)
            · rw [hp] at h; simp at h
            · obtain ⟨o, c, rfl, hV, -⟩ := ho.intsShape
              exact ⟨o, c, rfl, hV, hx⟩
          · rintro e w' (⟨h, _⟩ | ⟨_, v, rfl, ho, hx⟩)
            · rw [hp] at h; simp at h
            · obtain ⟨o, c, rfl, hV, -⟩ := ho.intsShape
              exact ⟨o, c, rfl, hV, hx⟩
          · rw [gameP_length]
            have : 2 ^ xs.length ≤ 2 ^ 7 := Nat.pow_le_pow_right (by omega) hP.seven
            omega
      obtain ⟨es, fr, hr1, hr2, hel⟩ : ∃ (es : List Int) (fr : Int), (∀ W, IntsIn W ao xs → IntsIn W lo l → Calls Try.prog 44 #[.int .i64 E, .slice ao xs.length cap, .agg #[.slice lo l.length lcap, .int .i64 d]] W (fun e w' => ∃ o c, e = .returned (.tuple #[.slice o es.length c, .int .i64 fr]) ∧ IntsIn w' o es ∧ Ext W w')) ∧
          (∀ W, IntsIn W ao xs → IntsIn W lo l → Calls Try.prog 47 #[.int .i64 E, .slice ao xs.length cap, .agg #[.slice lo l.length lcap, .int .i64 d]] W (fun e w' => ∃ o c, e = .returned (.tuple #[.slice o es.length c, .int .i64 fr]) ∧ IntsIn w' o es ∧ Ext W w')) ∧ es.length ≤ 1000 := by
        cases hp : (probB E xs && isB E xs l d) with
        | false =>
          refine ⟨[], 2, fun W h h' => (quotaExcesses_calls W E ao lo cap lcap xs l d h h' (by omega) (by omega)).mono ?_, fun W h h' => (refExcesses_calls W E ao lo cap lcap xs l d h h' (by omega)).mono ?_, by simp⟩
          · rintro e w' (⟨_, rfl, hx⟩ | ⟨h, _⟩)
            · exact ⟨none, 0, rfl, fun k hk => by simp at hk, hx⟩
            · rw [hp] at h; simp at h
          · rintro e w' (⟨_, rfl, hx⟩ | ⟨h, _⟩)
            · exact ⟨none, 0, rfl, fun k hk => by simp at hk, hx⟩
            · rw [hp] at h; simp at h
        | true =>
          have hp2 := hp
          rw [Bool.and_eq_true] at hp2
          have hP := (probB_true E xs).1 hp2.1
          refine ⟨sortD (excP E xs l d), 0, fun W h h' => (quotaExcesses_calls W E ao lo cap lcap xs l d h h' (by omega) (by omega)).mono ?_, fun W h h' => (refExcesses_calls W E ao lo cap lcap xs l d h h' (by omega)).mono ?_, ?_⟩
          · rintro e w' (⟨h, _⟩ | ⟨_, v, rfl, ho, hx⟩)
            · rw [hp] at h; simp at h
            · obtain ⟨o, c, rfl, hV, -⟩ := ho.intsShape
              exact ⟨o, c, rfl, hV, hx⟩
          · rintro e w' (⟨h, _⟩ | ⟨_, v, rfl, ho, hx⟩)
            · rw [hp] at h; simp at h
            · obtain ⟨o, c, rfl, hV, -⟩ := ho.intsShape
              exact ⟨o, c, rfl, hV, hx⟩
          · rw [sortD_length, excP_length]
            have : 2 ^ xs.length ≤ 2 ^ 7 := Nat.pow_le_pow_right (by omega) hP.seven
            omega
      obtain ⟨q0, q1, q2⟩ := id hb3
      go_wp2_with fail
      refine (hq1 _ (hI.ext hx13)).mono ?_
      rintro e w4 ⟨go, gc, rfl, hG, hx4⟩
      have hx14 := hx13.trans hx4
      go_wp2_with fail
      refine (hq2 _ (hI.ext hx14)).mono ?_
      rintro e w5 ⟨go2, gc2, rfl, hG2, hx5⟩
      have hx15 := hx14.trans hx5
      go_wp2_with fail
      refine (same_calls _ go go2 gc gc2 gs gs (hG.ext hx5) hG2 (by omega) (by omega)).mono ?_
      rintro e w6 ⟨rfl, hx6⟩
      have hx16 := hx15.trans hx6
      rw [decide_eq_true rfl]
      clear q0 q1 q2
      have hb6 := ((hb3.ext hx4).ext hx5).ext hx6
      obtain ⟨q0, q1, q2⟩ := id hb6
      go_wp2_with fail
      refine (hr1 _ (hI.ext hx16) (hJ.ext hx16)).mono ?_
      rintro e w7 ⟨eo, ec, rfl, hE1, hx7⟩
      have hx17 := hx16.trans hx7
      clear q0 q1 q2
      obtain ⟨q0, q1, q2⟩ := hb6.ext hx7
      go_wp2_with fail
      refine (hr2 _ (hI.ext hx17) (hJ.ext hx17)).mono ?_
      rintro e w8 ⟨eo2, ec2, rfl, hE2, hx8⟩
      have hx18 := hx17.trans hx8
      go_wp2_with fail
      refine (same_calls _ eo eo2 ec ec2 es es (hE1.ext hx8) hE2 (by omega) (by omega)).mono ?_
      rintro e w10 ⟨rfl, hx10⟩
      have hx110 := hx18.trans hx10
      rw [decide_eq_true rfl]
      go_wp2_with fail
      refine (hA w _ hx110).mono ?_
      rintro e w9 ⟨rfl, hx9⟩
      go_wp2_with fail
      go_ret
      exact ⟨rfl, hx9⟩
end Go.Proofs.Ytcngecibljgndaa
