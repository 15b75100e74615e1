/- The pivot: the walk. -/
import Derived.Test.YtcngecibljgndaaMQJ
import Derived.Test.YtcngecibljgndaaMQC
namespace Go.Proofs.Ytcngecibljgndaa
open Go.RowKit Go.Shelf

theorem enters_step : ∀ args w, (callFunc 125 args).run Try.prog w = .ok (.enter 125 args) w := enters_of Try.func125 (by kernel_rfl) rfl
theorem TabAt.intsRow {w : World} {B : Nat} {A : Ats} {T : Tab} (h : TabAt w B A T) (hs : T.Sm) {i : Nat} (hi : i < T.rows.length) : IntsIn w (some ⟨A.rb i, 0, none⟩) (T.row i) := by
  intro k hk
  rw [(hs.row i hi).len] at hk
  exact ⟨A.rb i, 0, rfl, (h.rbIn i hi).2, by rw [Nat.zero_add]; exact (h.entC i k hi hk).1⟩
theorem stepTo_zero (T : Tab) (i j : Nat) : stepTo T i j 0 = T := by
  have : (List.range T.rows.length).map (fun q => if q < 0 ∧ q ≠ i then stepRow (T.row i) (T.ent i j) T.den j (T.row q) else T.row q) = T.rows := by
    refine List.ext_getElem (by simp) (fun q h1 h2 => ?_)
    simp [Tab.row, h2]
  unfold stepTo
  rw [this]
theorem stepTo_one (T : Tab) (i j k : Nat) : OneRow (stepTo T i j k) (stepTo T i j (k + 1)) k := by
  refine ⟨rfl, rfl, rfl, rfl, rfl, by rw [stepTo_len, stepTo_len], fun q hq hne => ?_⟩
  rw [stepTo_len] at hq
  rw [stepTo_row _ _ _ _ _ hq, stepTo_row _ _ _ _ _ hq]
  by_cases h : q < k ∧ q ≠ i
  · rw [if_pos h, if_pos ⟨by omega, h.2⟩]
  · rw [if_neg h, if_neg (fun h2 => h ⟨by omega, h2.2⟩)]
theorem stepTo_skip (T : Tab) (i j : Nat) : stepTo T i j (i + 1) = stepTo T i j i := by
  unfold stepTo
  congr 1
  refine List.map_congr_left (fun q _ => ?_)
  by_cases h : q < i ∧ q ≠ i
  · rw [if_pos h, if_pos ⟨by omega, h.2⟩]
  · rw [if_neg h, if_neg (fun h2 => h ⟨by omega, h2.2⟩)]

/-- What a pivot leaves. -/
def TabRes (w0 : World) (B : Nat) (A : Ats) (T : Tab) (e : Ending) (w' : World) : Prop := (∃ v, e = .returned v) ∧ TabAt w' B A T ∧ Ext w0 w'
def TabResX (X : Nat → Prop) (w0 : World) (B : Nat) (A : Ats) (T : Tab) (e : Ending) (w' : World) : Prop := (∃ v, e = .returned v) ∧ TabAt w' B A T ∧ ExtX X w0 w'
theorem TabResX.toRes {w0 : World} {B : Nat} {A : Ats} {T : Tab} {e : Ending} {w' : World} (h : TabResX (fun _ => False) w0 B A T e w') : TabRes w0 B A T e w' := ⟨h.1, h.2.1, h.2.2.toExt⟩
set_option maxRecDepth 100000 in
set_option maxHeartbeats 4000000 in
theorem pivotX_calls (X : Nat → Prop) (w0 w : World) (B : Nat) (A : Ats) (T : Tab) (i j : Nat) (hT : TabAt w B A T) (hs : T.Sm) (hx0 : ExtX X w0 w) (h0 : OnX X w0.heap.size A T.rows.length) (hi : i < T.rows.length) (hj : j < T.wide) :
    Calls Try.prog 107 #[.pointer (some ⟨A.t, 0, none⟩), .int .i64 i, .int .i64 j] w (TabResX X w0 B A (pivotP T i j)) := by
  have hent := enters_step
  have HS := Lib.hid hs
  have hwide : T.wide ≤ 2000 := by unfold Tab.wide; have := hs.sets; have := hs.n; omega
  have hmany := hs.many
  have hc2 := hT.c2
  have hri := (hT.rowC i hi).1
  have ht2 := hT.tIn.2
  have hr2 := hT.rgIn.2
  have hcaps := hT.caps
  have hrl := (hs.row i hi).len
  have hIR := hT.intsRow hs hi
  clear hs
  go_enter Try.func107, Try.ntmps107
  go_wp2_with fail
  rw [← hrl]
  obtain ⟨w1, hw1⟩ : ∃ w1, w1 = ((w.alloc (.cells #[.pointer (some ⟨A.t, 0, none⟩)] 73)).alloc (.cells #[.int .i64 j] 3)) := ⟨_, rfl⟩
  have hx1 : Ext w w1 := by rw [hw1]; exact (by repeat (first | exact Ext.refl _ | assumption | refine Ext.alloc ?_ _ | refine Ext.drewN ?_ _ | refine Ext.drew ?_))
  have hbt1 : w1.cell? ⟨w.heap.size, 0, none⟩ = some (.pointer (some ⟨A.t, 0, none⟩)) := by rw [hw1]; simp [go_sem]
  have hbj1 : w1.cell? ⟨w.heap.size + 1, 0, none⟩ = some (.int .i64 j) := by rw [hw1]; simp [go_sem]
  have hs1 : w1.heap.size = w.heap.size + 2 := by rw [hw1]; simp
  rw [← hw1]
  clear hw1
  obtain ⟨H, hH⟩ : ∃ H, H = w.heap.size := ⟨_, rfl⟩
  rw [← hH] at hs1 hbt1 hbj1 ⊢
  have hHw : w.heap.size ≤ H := by omega
  have htH : A.t < H := by omega
  clear hH
  refine (clone_calls _ (A.rb i) 0 (T.row i).length (T.row i) (hIR.ext hx1) (by omega)).mono ?_
  rintro e w2 ⟨v, rfl, ho, hx2⟩
  rw [hrl]
  have how := ho.shape (by omega)
  rw [ints_length, hrl, Nat.div_one] at how
  have hpos : 0 < T.wide := by unfold Tab.wide; omega
  rcases how with ⟨_, h⟩ | ⟨ob, oo, oc, rfl, hob1, hob2, hoc, -⟩
  · have := congrArg List.length h
    rw [ints_length, hrl] at this
    simp at this; omega
  have hdj := (ho.intAt j (by rw [hrl]; exact hj)).1
  have HO : Hid (∀ k, k < T.wide → w2.cell? ⟨ob, oo + k, none⟩ = some (.int .i64 (ith (T.row i) k))) := Lib.hid (fun k hk => (ho.intAt k (by rw [hrl]; exact hk)).1)
  have hbt2 := (hx2.cell (p := ⟨H, 0, none⟩) (by show H < _; omega)).trans hbt1
  have hbj2 := (hx2.cell (p := ⟨H + 1, 0, none⟩) (by show H + 1 < _; omega)).trans hbj1
  have hT2 := (hT.ext hx1).ext hx2
  have hx02 := (hx0.trans hx1).trans hx2
  have hs2 := hx2.size
  clear ho hbt1 hbj1 hc2 hri ht2 hr2
  have hH1 : H < w2.heap.size := by omega
  have hH2 : H + 1 < w2.heap.size := by omega
  have hjz : (j : Int) < (T.wide : Int) := by omega
  have hdE : ith (T.row i) j = T.ent i j := rfl
  rw [hdE] at hdj
  have hc2 := hT2.c2
  have ht2 := hT2.tIn.2
  go_wp2_with fail
  obtain ⟨w3, hw3⟩ : ∃ w3, w3 = ((w2.alloc (.cells #[.slice (some ⟨ob, oo, none⟩) T.wide oc] 22)).alloc (.cells #[.int .i64 (T.ent i j)] 3)) := ⟨_, rfl⟩
  obtain ⟨Q, hQ⟩ : ∃ Q, Q = w2.heap.size := ⟨_, rfl⟩
  have hx3 : Ext w2 w3 := by rw [hw3]; exact (by repeat (first | exact Ext.refl _ | assumption | refine Ext.alloc ?_ _ | refine Ext.drewN ?_ _ | refine Ext.drew ?_))
  have hbo3 : w3.cell? ⟨Q, 0, none⟩ = some (.slice (some ⟨ob, oo, none⟩) T.wide oc) := by rw [hw3, hQ]; simp [go_sem]
  have hbd3 : w3.cell? ⟨Q + 1, 0, none⟩ = some (.int .i64 (T.ent i j)) := by rw [hw3, hQ]; simp [go_sem]
  have hs3 : w3.heap.size = Q + 2 := by rw [hw3, hQ]; simp
  rw [← hw3]
  rw [← hQ] at hH1 hH2 hob2 hs2 ht2 ⊢
  have hQw : w2.heap.size ≤ Q := by omega
  have hQw2 : Q ≤ w2.heap.size := by omega
  clear hw3 hQ
  have hT3 := hT2.ext hx3
  have hx03 := hx02.trans hx3
  have hC3 : CapsP w3 (H + 1) (Q + 1) Q H ob oo oc A.t T.wide j (T.ent i j) T.den (T.row i) :=
    ⟨⟨(hx3.cell (p := ⟨H + 1, 0, none⟩) (by show H + 1 < _; omega)).trans hbj2, by omega⟩, ⟨hbd3, by omega⟩, ⟨hbo3, by omega⟩, ⟨(hx3.cell (p := ⟨H, 0, none⟩) (by show H < _; omega)).trans hbt2, by omega⟩, ⟨hT3.c5, hT3.tIn.2⟩,
      fun k hk => (hx3.cell (p := ⟨ob, oo + k, none⟩) (by show ob < _; omega)).trans (HO.out k hk), by omega⟩
  have hrbH : Hid (∀ k, k < T.rows.length → A.rb k < H) := Lib.hid (fun k hk => by have := (hT.rbIn k hk).2; omega)
  have hgbH : A.gb < H := by have := hT.gbIn.2; omega
  have hbgH : A.bg < H := by have := hT.bgIn.2; omega
  have hdE2 : -1000000000 ≤ T.ent i j ∧ T.ent i j ≤ 1000000000 := (HS.out.row i hi).ent j hj
  have hapR := Lib.hid hT.rbNe
  have hap := hT.ap
  clear hbo3 hbd3 hc2 hbt2 hbj2 hdj hT hT2 HO hIR hdE
  go_loopw [29] (fun q wr => ∃ k : Nat, k ≤ T.rows.length ∧ q = .int .i64 k ∧ TabAt wr B A (stepTo T i j k) ∧ CapsP wr (H + 1) (Q + 1) Q H ob oo oc A.t T.wide j (T.ent i j) T.den (T.row i) ∧ ExtX X w0 wr) (fun q _ => T.rows.length - (intOf q).toNat)
  case atStart => exact ⟨0, by omega, rfl, by rw [stepTo_zero]; exact hT3, hC3, hx03⟩
  case round =>
    obtain ⟨k, hk, rfl, hTk, hC, hx⟩ := hrel
    have hlk := stepTo_len T i j k
    have hwk : (stepTo T i j k).wide = T.wide := rfl
    by_cases hlt : k < T.rows.length
    · have hrk := (hTk.rowC k (by omega)).1
      rw [hwk] at hrk
      by_cases hki : k = i
      · subst hki
        have hb : ((k : Int) != (k : Int)) = false := by simp
        go_wp2_with fail
        exact ⟨⟨k + 1, by omega, rfl, by rw [stepTo_skip]; exact hTk, hC, hx⟩, by simp only [intOf]; omega⟩
      · have hb : ((k : Int) != (i : Int)) = true := by simp; omega
        have hrow := stepTo_row T i j k k hlt
        rw [if_neg (by omega)] at hrow
        have hR := hrbH.out k hlt
        have hne := hapR.out k hlt
        have hcall := step_calls wr (H + 1) (Q + 1) Q H ob oo oc A.t (A.rb k) T.wide j (T.ent i j) T.den (T.row i) (T.row k) hC ⟨by omega, by omega, by omega, by omega, by omega, hne.1⟩ (fun q hq => by
          have := hTk.entC k q (by omega) (by rw [hwk]; exact hq)
          rw [Tab.ent, hrow] at this
          exact this) hj hwide hoc (HS.out.row k hlt) (HS.out.row i hi) hdE2 HS.out.den0
        clear hrow
        go_wp2_with fail
        refine hcall.mono ?_
        rintro e w4 ⟨⟨v, rfl⟩, hg4, hc4⟩
        have hT4 := hTk.setRow (stepTo_one T i j k) (by omega) hg4 (fun q hq => by
          have h1 := hc4 q (by rw [← hwk]; exact hq)
          rw [Tab.ent, stepTo_row _ _ _ _ _ hlt, if_pos ⟨by omega, hki⟩]
          exact h1)
        have hC4 := hC.grown hg4 ⟨by omega, by omega, by omega, by omega, by omega, hne.1⟩
        have hx4 := hx.onto hg4 (fun q hq => by simp only [Option.some.injEq] at hq; subst hq; exact h0.rb k hlt)
        clear hcall hg4 hc4
        go_wp2_with fail
        exact ⟨⟨k + 1, by omega, rfl, hT4, hC4, hx4⟩, by simp only [intOf]; omega⟩
    · obtain rfl : k = T.rows.length := by omega
      have hgk : (stepTo T i j T.rows.length).goal = T.goal := rfl
      have hc3 := hTk.c3
      rw [hwk] at hc3
      have hct := hC.ct.1
      have hcall := step_calls wr (H + 1) (Q + 1) Q H ob oo oc A.t A.gb T.wide j (T.ent i j) T.den (T.row i) T.goal hC ⟨by omega, by omega, by omega, by omega, by omega, fun e => hap.2.2.1 e.symm⟩ (fun q hq => hTk.goalC q hq) hj hwide hoc HS.out.goal (HS.out.row i hi) hdE2 HS.out.den0
      go_wp2_with fail
      refine hcall.mono ?_
      rintro e w4 ⟨⟨v, rfl⟩, hg4, hc4⟩
      have hT4 := hTk.setGoal hg4 hc4
      have hC4 := hC.grown hg4 ⟨by omega, by omega, by omega, by omega, by omega, fun e => hap.2.2.1 e.symm⟩
      have hx4 := hx.onto hg4 (fun q hq => by simp only [Option.some.injEq] at hq; subst hq; exact h0.gb)
      clear hcall hg4 hc4 hct hc3
      have q1 := hC4.ct.1
      have q2 := hC4.cj.1
      have q3 := hC4.cd.1
      have q4 := hT4.c4
      have q5 := hT4.c5
      have q6 := hT4.free 5 (by omega) (by omega)
      have hi2 : i < (stepTo T i j T.rows.length).rows.length := by omega
      have q7 := hT4.basC i hi2
      simp only [stepTo_len] at q4 q7
      have q8 := q7.1
      have q9 := q7.2
      clear q7
      go_wp2_with fail
      go_region
      all_goals
        go_end0
        have hT5 := ((hT4.setBasis hi2 (by show T.basis.length = _; rw [HS.out.bas, hlk]) (j : Int)).setDen (T.ent i j)).ext (Ext.refl _).drew
        exact ⟨⟨_, rfl⟩, hT5, ((hx4.setOwn _ _ h0.bg).setOwn _ _ h0.t).drew⟩
theorem pivot_calls (w0 w : World) (B : Nat) (A : Ats) (T : Tab) (i j : Nat) (hT : TabAt w B A T) (hs : T.Sm) (hx0 : Ext w0 w) (h0 : w0.heap.size ≤ B) (hi : i < T.rows.length) (hj : j < T.wide) :
    Calls Try.prog 107 #[.pointer (some ⟨A.t, 0, none⟩), .int .i64 i, .int .i64 j] w (TabRes w0 B A (pivotP T i j)) :=
  (pivotX_calls (fun _ => False) w0 w B A T i j hT hs (ExtX.of _ hx0) (OnX.of _ hT h0) hi hj).mono fun _ _ h => h.toRes
end Go.Proofs.Ytcngecibljgndaa

/- run of a tableau: the walk. -/
namespace Go.Proofs.Ytcngecibljgndaa
open Go.RowKit Go.Shelf

/-- Is row i better than row o, to be taken out? -/
def betterB (T : Tab) (c i o : Nat) : Bool := decide (T.ent i (T.sets + T.n) * T.ent o c < T.ent o (T.sets + T.n) * T.ent i c) || (decide (T.ent i (T.sets + T.n) * T.ent o c = T.ent o (T.sets + T.n) * T.ent i c) && decide (ith T.basis i < ith T.basis o))
def pickP (T : Tab) (c : Nat) (out : Option Nat) (i : Nat) : Option Nat :=
  if T.ent i c ≤ 0 then out else match out with | none => some i | some o => if betterB T c i o = true then some i else out
def outP (T : Tab) (c k : Nat) : Option Nat := (List.range k).foldl (pickP T c) none
theorem outP_succ (T : Tab) (c k : Nat) : outP T c (k + 1) = pickP T c (outP T c k) k := by simp [outP, List.range_succ, List.foldl_append]
theorem outP_lt (T : Tab) (c : Nat) : ∀ (k o : Nat), outP T c k = some o → o < k
  | 0, o, h => by simp [outP] at h
  | k + 1, o, h => by
    rw [outP_succ] at h
    unfold pickP at h
    split at h
    · have := outP_lt T c k o h; omega
    · split at h
      · simp at h; omega
      · rename_i o' he
        split at h
        · simp at h; omega
        · have := outP_lt T c k o h
          omega
def outV : Option Nat → Int
  | none => -1
  | some o => o
def negB (n : Int) : Bool := decide (n < 0)
def runP (cols : Nat) : Nat → Tab → Option Tab
  | 0, _ => none
  | f + 1, T => if T.sm = true then (if firstI negB (T.goal.take cols) < 0 then some T else match outP T (firstI negB (T.goal.take cols)).toNat T.rows.length with | none => none | some o => runP cols f (pivotP T o (firstI negB (T.goal.take cols)).toNat)) else none

theorem neg_calls (w : World) (n : Int) : Calls Try.prog 124 #[.int .i64 n] w fun e w' => e = .returned (.bool (negB n)) ∧ Ext w w' := by
  go_enter Try.func124, Try.ntmps124
  go_wp2_with fail
  go_ret
  exact ⟨rfl, Ext.refl _⟩
theorem enters_neg : ∀ args w, (callFunc 124 args).run Try.prog w = .ok (.enter 124 args) w := enters_of Try.func124 (by kernel_rfl) rfl
theorem pred_neg (w : World) : PredI w 124 #[] negB := ⟨fun args w' => enters_neg args w', fun w' x _ => neg_calls w' x⟩

theorem TabAt.goalIn {w : World} {B : Nat} {A : Ats} {T : Tab} (h : TabAt w B A T) (hs : T.Sm) (cols : Nat) : IntsIn w (some ⟨A.gb, 0, none⟩) (T.goal.take cols) := by
  intro k hk
  rw [List.length_take, hs.goal.len] at hk
  refine ⟨A.gb, 0, rfl, h.gbIn.2, ?_⟩
  have e : ith (T.goal.take cols) k = ith T.goal k := by
    simp only [ith, List.getD_eq_getElem?_getD, List.getElem?_take]
    rw [if_pos (by omega)]
  rw [Nat.zero_add, e]
  exact (h.goalC k (by omega)).1
theorem firstI_bounds (p : Int → Bool) (L : List Int) (h : ¬ firstI p L < 0) : ∃ c : Nat, firstI p L = (c : Int) ∧ c < L.length := by
  unfold firstI at h ⊢
  cases hf : L.findIdx? p with
  | none => rw [hf] at h; simp at h
  | some k =>
    rw [List.findIdx?_eq_some_iff_getElem] at hf
    exact ⟨k, rfl, hf.1⟩

set_option maxRecDepth 100000 in
set_option maxHeartbeats 4000000 in
theorem runX_calls (X : Nat → Prop) (w0 w : World) (B : Nat) (A : Ats) (T0 T' : Tab) (cols f : Nat) (hT0 : TabAt w B A T0) (hx0 : ExtX X w0 w) (h0 : OnX X w0.heap.size A T0.rows.length) (hc : cols ≤ T0.sets + T0.n) (hr : runP cols f T0 = some T') :
    Calls Try.prog 102 #[.pointer (some ⟨A.t, 0, none⟩), .int .i64 cols] w (TabResX X w0 B A T') := by
  have HR := Lib.hid hr
  have hent := enters_neg
  have hsm : T0.sm = true := by
    cases f with
    | zero => simp [runP] at hr
    | succ f =>
      rw [runP] at hr
      split at hr
      · assumption
      · simp at hr
  have hS0 := Tab.sm_iff hsm
  have hse := hS0.sets
  have hsn := hS0.n
  have h1 := hT0.c0
  have h2 := hT0.c1
  have hw1 : IntKind.i64.wrap ((T0.sets : Int) + (T0.n : Int)) = (T0.sets : Int) + (T0.n : Int) := by rw [IntKind.wrap_i64]; omega
  clear hsm hS0 hr
  go_enter Try.func102, Try.ntmps102
  go_wp2_with fail
  go_region
  go_wp2_with fail
  have hT0d := hT0.ext ((Ext.refl w).drew)
  have hx0d := hx0.drew
  generalize w.drew = w1 at *
  clear h1 h2 hT0 hx0
  rw [show (T0.sets : Int) + (T0.n : Int) = ((T0.sets + T0.n : Nat) : Int) by simp]
  have HL0 := Lib.hid (show T0.sets + T0.n = T0.sets + T0.n from rfl)
  generalize hL : T0.sets + T0.n = last at hc HL0 ⊢
  have HLL := Lib.hid hL
  clear hL hw1 HL0
  go_loopg [] f (fun q wr => ∃ T : Tab, TabAt wr B A T ∧ Hid (T.sets + T.n = last ∧ T.rows.length = T0.rows.length) ∧ ExtX X w0 wr ∧ Hid (runP cols q T = some T'))
  case atStart => exact ⟨T0, hT0d, Lib.hid ⟨HLL.out, rfl⟩, hx0d, HR⟩
  case round =>
    obtain ⟨T, hT, HLT, hx, HG⟩ := hrel
    have HW : Hid (T.wide = last + 1) := Lib.hid (by unfold Tab.wide; have := HLT.out.1; omega)
    obtain ⟨q, rfl⟩ : ∃ q, gk = q + 1 := by
      cases gk with
      | zero => have := HG.out; simp [runP] at this
      | succ q => exact ⟨q, rfl⟩
    have hG := HG.out
    rw [runP] at hG
    by_cases hsm : T.sm = true
    · rw [if_pos hsm] at hG
      have hS := Lib.hid (Tab.sm_iff hsm)
      have hgl : (T.goal.take cols).length = cols := by rw [List.length_take, hS.out.goal.len]; have := HW.out; omega
      have h3 := hT.c3
      have ht2 := hT.tIn.2
      have hwd : T.wide ≤ 2000 := by unfold Tab.wide; have := hS.out.sets; have := hS.out.n; omega
      have hcw : cols ≤ T.wide := by have := HW.out; omega
      have hgi := hT.goalIn hS.out cols
      have HGG := Lib.hid hG
      clear hG hsm HG
      have hic := indexFunc_calls wr (some ⟨A.gb, 0, none⟩) T.wide (T.goal.take cols) 124 #[] negB hgi (by omega) (pred_neg wr)
      rw [hgl] at hic
      go_wp2_with fail
      refine hic.mono ?_
      rintro e w2 ⟨rfl, hx2⟩
      have hT2 := hT.ext hx2
      have hx02 := hx.trans hx2
      clear hic hgi h3
      by_cases hneg : firstI negB (T.goal.take cols) < 0
      · have hG := HGG.out
        rw [if_pos hneg] at hG
        have hTT := Lib.hid (Option.some.inj hG)
        clear hG HGG
        go_wp2_with fail
        go_end0
        rw [← hTT.out]
        exact ⟨⟨_, rfl⟩, hT2, hx02⟩
      · obtain ⟨c, hcf, hcl⟩ := firstI_bounds negB _ hneg
        have hG := HGG.out
        rw [if_neg hneg, hcf] at hG
        rw [hcf]
        rw [hgl] at hcl
        have HGX := Lib.hid hG
        clear hG HGG hneg hcf
        have h2c := hT2.c2
        have hmany := hS.out.many
        have hcw2 : c < T.wide := by omega
        go_wp2_with fail
        go_loopw [6, 32] (fun ov i ws => ∃ k : Nat, k ≤ T.rows.length ∧ i = .int .i64 k ∧ ov = .int .i64 (outV (outP T c k)) ∧ Ext w2 ws) (fun _ i _ => T.rows.length - (intOf i).toNat)
        case atStart => exact ⟨0, by omega, rfl, rfl, Ext.refl _⟩
        case round =>
          rename World => ws
          obtain ⟨k, hk, rfl, rfl, hx3⟩ := hrel
          have hT3 := hT2.ext hx3
          by_cases hlt : k < T.rows.length
          · have hrk := (hT3.rowC k hlt).1
            have hek := (hT3.entC k c hlt hcw2).1
            have hsk := hS.out.row k hlt
            have hbk := hsk.ent c hcw2
            have hrg3 := hT3.rgIn.2
            have hrb3 := (hT3.rbIn k hlt).2
            by_cases he0 : T.ent k c ≤ 0
            · have HO : Hid (outP T c (k + 1) = outP T c k) := Lib.hid (by rw [outP_succ, pickP.eq_def, if_pos he0])
              go_wp2_with fail
              exact ⟨⟨k + 1, by omega, rfl, by rw [HO.out], hx3⟩, by simp only [intOf]; omega⟩
            · cases ho : outP T c k with
              | none =>
                have HO : Hid (outP T c (k + 1) = some k) := Lib.hid (by rw [outP_succ, pickP.eq_def, if_neg he0, ho])
                simp only [outV]
                clear ho
                go_wp2_with fail
                refine wp_region_after (by kernel_rfl) (by kernel_rfl) ?_
                intro hne
                repeat (go_big_quiet_step (fail))
                refine wpQuiet_nil ?_
                intro w9 hx9
                go_wp2_with fail
                exact ⟨⟨k + 1, by omega, rfl, by rw [HO.out], hx3.trans hx9⟩, by simp only [intOf]; omega⟩
              | some o =>
                have hok : o < k := outP_lt T c k o ho
                have hol : o < T.rows.length := by omega
                have hlw : last < T.wide := by have := HW.out; omega
                have hlw2 : (last : Int) < (T.wide : Int) := by omega
                have hol2 : (o : Int) < (T.rows.length : Int) := by omega
                have hkl2 : (k : Int) < (T.rows.length : Int) := by omega
                have hcl2 : (c : Int) < (T.wide : Int) := by omega
                have hno : ((o : Int) < 0) = False := by simp
                have hz1 : (0 : Int) ≤ (o : Int) := by omega
                have hz2 : (0 : Int) ≤ (k : Int) := by omega
                have hz3 : (0 : Int) ≤ (c : Int) := by omega
                have hz4 : (0 : Int) ≤ (last : Int) := by omega
                have ht3 := hT3.tIn.2
                have hb3 := hT3.bgIn.2
                have hro3 := (hT3.rbIn o hol).2
                have a1 := After.cell (hT3.entC k last hlt hlw).1 hrb3
                have a2 := After.cell hT3.c2 ht3
                have a3 := After.cell (hT3.rowC o hol).1 hrg3
                have a4 := After.cell (hT3.entC o c hol hcw2).1 hro3
                have a5 := After.cell (hT3.entC o last hol hlw).1 hro3
                have a6 := After.cell hek hrb3
                have a7 := After.cell hT3.c4 ht3
                have a8 := After.cell (hT3.basC k hlt).1 hb3
                have a9 := After.cell (hT3.basC o hol).1 hb3
                have b1 := mul_small (hsk.ent last hlw) ((hS.out.row o hol).ent c hcw2)
                have b2 := mul_small ((hS.out.row o hol).ent last hlw) (hsk.ent c hcw2)
                have hw1 : IntKind.i64.wrap (T.ent k last * T.ent o c) = T.ent k last * T.ent o c := by rw [IntKind.wrap_i64]; unfold Tab.ent; omega
                have hw2 : IntKind.i64.wrap (T.ent o last * T.ent k c) = T.ent o last * T.ent k c := by rw [IntKind.wrap_i64]; unfold Tab.ent; omega
                have HBT : Hid (betterB T c k o = (decide (T.ent k last * T.ent o c < T.ent o last * T.ent k c) || (decide (T.ent k last * T.ent o c = T.ent o last * T.ent k c) && decide (ith T.basis k < ith T.basis o)))) := Lib.hid (by unfold betterB; rw [HLT.out.1])
                have HP : Hid (outP T c (k + 1) = if betterB T c k o = true then some k else some o) := Lib.hid (by rw [outP_succ, pickP.eq_def, if_neg he0, ho])
                simp only [outV]
                clear b1 b2 ho
                cases hd1 : decide (T.ent k last * T.ent o c < T.ent o last * T.ent k c) with
                | true =>
                  have HO : Hid (outP T c (k + 1) = some k) := Lib.hid (by rw [HP.out, HBT.out, hd1]; rfl)
                  go_wp2_with fail
                  refine wp_region_after (by kernel_rfl) (by kernel_rfl) ?_
                  intro hne
                  repeat (go_big_quiet_step (fail))
                  refine wpQuiet_nil ?_
                  intro w9 hx9
                  go_wp2_with fail
                  exact ⟨⟨k + 1, by omega, rfl, by rw [HO.out], hx3.trans hx9⟩, by simp only [intOf]; omega⟩
                | false =>
                  cases hd2 : (T.ent k last * T.ent o c == T.ent o last * T.ent k c) with
                  | true =>
                    have hd2' : decide (T.ent k last * T.ent o c = T.ent o last * T.ent k c) = true := by simpa using hd2
                    cases hd3 : decide (ith T.basis k < ith T.basis o) with
                    | true =>
                      have HO : Hid (outP T c (k + 1) = some k) := Lib.hid (by rw [HP.out, HBT.out, hd1, hd2', hd3]; rfl)
                      go_wp2_with fail
                      refine wp_region_after (by kernel_rfl) (by kernel_rfl) ?_
                      intro hne
                      repeat (go_big_quiet_step (fail))
                      refine wpQuiet_nil ?_
                      intro w9 hx9
                      go_wp2_with fail
                      exact ⟨⟨k + 1, by omega, rfl, by rw [HO.out], hx3.trans hx9⟩, by simp only [intOf]; omega⟩
                    | false =>
                      have HO : Hid (outP T c (k + 1) = some o) := Lib.hid (by rw [HP.out, HBT.out, hd1, hd2', hd3]; rfl)
                      go_wp2_with fail
                      refine wp_region_after (by kernel_rfl) (by kernel_rfl) ?_
                      intro hne
                      repeat (go_big_quiet_step (fail))
                      refine wpQuiet_nil ?_
                      intro w9 hx9
                      go_wp2_with fail
                      exact ⟨⟨k + 1, by omega, rfl, by rw [HO.out], hx3.trans hx9⟩, by simp only [intOf]; omega⟩
                  | false =>
                    have hd2' : decide (T.ent k last * T.ent o c = T.ent o last * T.ent k c) = false := by simpa using hd2
                    have HO : Hid (outP T c (k + 1) = some o) := Lib.hid (by rw [HP.out, HBT.out, hd1, hd2']; rfl)
                    go_wp2_with fail
                    refine wp_region_after (by kernel_rfl) (by kernel_rfl) ?_
                    intro hne
                    repeat (go_big_quiet_step (fail))
                    refine wpQuiet_nil ?_
                    intro w9 hx9
                    go_wp2_with fail
                    exact ⟨⟨k + 1, by omega, rfl, by rw [HO.out], hx3.trans hx9⟩, by simp only [intOf]; omega⟩
          · obtain rfl : k = T.rows.length := by omega
            have hG := HGX.out
            simp only [Int.toNat_natCast] at hG
            cases ho : outP T c T.rows.length with
            | none => rw [ho] at hG; simp at hG
            | some o =>
              rw [ho] at hG
              have hol := outP_lt T c _ _ ho
              have HGY := Lib.hid hG
              simp only [outV]
              clear hG HGX ho
              go_wp2_with fail
              refine (pivotX_calls X w0 ws B A T o c hT3 hS.out (hx02.trans hx3) (by rw [HLT.out.2]; exact h0) hol hcw2).mono ?_
              rintro e w4 ⟨⟨v, rfl⟩, hT4, hx4⟩
              go_wp2_with fail
              go_roundg q
              case measure => omega
              case rel => exact ⟨pivotP T o c, hT4, Lib.hid ⟨HLT.out.1, (stepTo_len T o c _).trans HLT.out.2⟩, hx4, HGY⟩
    · rw [if_neg hsm] at hG
      simp at hG
theorem run_calls (w0 w : World) (B : Nat) (A : Ats) (T0 T' : Tab) (cols f : Nat) (hT0 : TabAt w B A T0) (hx0 : Ext w0 w) (h0 : w0.heap.size ≤ B) (hc : cols ≤ T0.sets + T0.n) (hr : runP cols f T0 = some T') :
    Calls Try.prog 102 #[.pointer (some ⟨A.t, 0, none⟩), .int .i64 cols] w (TabRes w0 B A T') :=
  (runX_calls (fun _ => False) w0 w B A T0 T' cols f hT0 (ExtX.of _ hx0) (OnX.of _ hT0 h0) hc hr).mono fun _ _ h => h.toRes
end Go.Proofs.Ytcngecibljgndaa
