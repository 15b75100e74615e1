/- greatest: the walk. -/
import Derived.Test.YtcngecibljgndaaMQK
import Derived.Test.YtcngecibljgndaaMQD
namespace Go.Proofs.Ytcngecibljgndaa
open Go.RowKit Go.Shelf

def eqB (x n : Int) : Bool := x == n
set_option maxRecDepth 100000 in
theorem index_calls (w : World) (ao : Option Addr) (cap : Nat) (L : List Int) (x : Int) (hL : IntsIn w ao L) (hlen : L.length ≤ 10000000) :
    Calls Try.prog 108 #[.slice ao L.length cap, .int .i64 x] w fun e w' => e = .returned (.int .i64 (firstI (eqB x) L)) ∧ Ext w w' := by
  go_enter Try.func108, Try.ntmps108
  go_wp2_with fail
  go_loopw [8] (fun i wr => ∃ k : Nat, k ≤ L.length ∧ i = .int .i64 k ∧ Ext w wr ∧ Hid (∀ j, j < k → eqB x (ith L j) = false)) (fun i _ => L.length - (intOf i).toNat)
  case atStart => exact ⟨0, by omega, rfl, Ext.refl _, Lib.hid (fun j hj => by omega)⟩
  case round =>
    obtain ⟨k, hk, rfl, hx, HN⟩ := hrel
    by_cases hlt : k < L.length
    · obtain ⟨b, off, hao, hb, h0⟩ := hL.ext hx k hlt
      subst hao
      cases hF : (x == ith L k) with
      | true =>
        have HF : Hid (eqB x (ith L k) = true) := Lib.hid hF
        go_wp2_with fail
        go_ret
        exact ⟨ret_int (firstI_hit hlt HF.out HN.out).symm, hx⟩
      | false =>
        have HF : Hid (eqB x (ith L k) = false) := Lib.hid hF
        go_wp2_with fail
        refine ⟨⟨k + 1, by omega, rfl, hx, Lib.hid (fun j hj => ?_)⟩, by simp only [intOf]; omega⟩
        rcases Nat.lt_or_ge j k with h | h
        · exact HN.out j h
        · rw [show j = k by omega]; exact HF.out
    · go_wp2_with fail
      go_ret
      exact ⟨ret_int (firstI_none (fun j hj => HN.out j (by omega))).symm, hx⟩

/-- A goal in a block of its own. -/
theorem TabAt.newGoal {w : World} {B : Nat} {A : Ats} {T : Tab} (h : TabAt w B A T) (hB : B ≤ w.heap.size) (ty : TypeId) : TabAt (((w.setCell ⟨A.t, 3, none⟩ (.slice (some ⟨w.heap.size, 0, none⟩) T.wide T.wide)).alloc (.cells (Array.replicate T.wide (.int .i64 0)) ty)).drew) B { A with gb := w.heap.size } { T with goal := List.replicate T.wide 0 } := by
  have t2 := h.tIn.2
  have r2 := h.rgIn.2
  have b2 := h.bgIn.2
  have n1 := h.ap
  generalize hv : Value.slice (some ⟨w.heap.size, 0, none⟩) T.wide T.wide = v3
  obtain ⟨wa, hwa⟩ : ∃ wa, wa = w.setCell ⟨A.t, 3, none⟩ v3 := ⟨_, rfl⟩
  have hs : wa.heap.size = w.heap.size := by rw [hwa]; simp [World.setCell]
  rw [← hwa]
  have hx : Ext wa (wa.alloc (.cells (Array.replicate T.wide (.int .i64 0)) ty)).drew := ((Ext.refl _).alloc _).drew
  have hnew : ∀ j, j < T.wide → (wa.alloc (.cells (Array.replicate T.wide (.int .i64 0)) ty)).drew.cell? ⟨w.heap.size, j, none⟩ = some (.int .i64 0) ∧ (wa.alloc (.cells (Array.replicate T.wide (.int .i64 0)) ty)).drew.frozen? ⟨w.heap.size, j, none⟩ = false := fun j hj => by
    rw [← hs]; exact ⟨by simp [go_sem, hj], by simp [go_sem]⟩
  have e : (wa.alloc (.cells (Array.replicate T.wide (.int .i64 0)) ty)).drew.heap.size = w.heap.size + 1 := by simp [hs]
  generalize (wa.alloc (.cells (Array.replicate T.wide (.int .i64 0)) ty)).drew = wf at *
  have c : ∀ b o, b < w.heap.size → b ≠ A.t → wf.cell? ⟨b, o, none⟩ = w.cell? ⟨b, o, none⟩ := fun b o hb hn => by
    rw [hx.cell (p := ⟨b, o, none⟩) (by show b < _; omega), hwa, World.cell?_setCell_other _ _ _ _ (fun e => hn (by simp only [Addr.mk.injEq] at e; exact e.1.symm))]
  have ct : ∀ o, o ≠ 3 → wf.cell? ⟨A.t, o, none⟩ = w.cell? ⟨A.t, o, none⟩ := fun o hn => by
    rw [hx.cell (p := ⟨A.t, o, none⟩) (by show A.t < _; omega), hwa, World.cell?_setCell_other _ _ _ _ (fun e => hn (by simp only [Addr.mk.injEq, and_true, true_and] at e; exact e.symm))]
  have f : ∀ b o, b < w.heap.size → wf.frozen? ⟨b, o, none⟩ = w.frozen? ⟨b, o, none⟩ := fun b o hb => by rw [hx.frozen (p := ⟨b, o, none⟩) (by show b < _; omega), hwa, World.frozen?_setCell]
  have c3 : wf.cell? ⟨A.t, 3, none⟩ = some v3 := by
    rw [hx.cell (p := ⟨A.t, 3, none⟩) (by show A.t < _; omega), hwa]
    exact World.cell?_setCell_same _ _ _ h.c3
  clear hwa hx
  refine ⟨⟨h.tIn.1, by rw [e]; exact Nat.lt_succ_of_lt t2⟩, ⟨h.rgIn.1, by rw [e]; exact Nat.lt_succ_of_lt r2⟩, ⟨h.bgIn.1, by rw [e]; exact Nat.lt_succ_of_lt b2⟩, ⟨hB, by rw [e]; exact Nat.lt_succ_self _⟩, (ct _ (by omega)).trans h.c0, (ct _ (by omega)).trans h.c1, (ct _ (by omega)).trans h.c2, ?_, (ct _ (by omega)).trans h.c4, (ct _ (by omega)).trans h.c5,
    fun k h1 h2 => (f _ _ t2).trans (h.free k h1 h2), fun i hi => ⟨(c _ _ r2 (fun e => n1.1 e.symm)).trans (h.rowC i hi).1, (f _ _ r2).trans (h.rowC i hi).2⟩,
    fun i j hi hj => ⟨(c _ _ (h.rbIn i hi).2 (h.rbNe i hi).1).trans (h.entC i j hi hj).1, (f _ _ (h.rbIn i hi).2).trans (h.entC i j hi hj).2⟩, fun j hj => ⟨?_, (hnew j hj).2⟩,
    fun i hi => ⟨(c _ _ b2 (fun e => n1.2.1 e.symm)).trans (h.basC i hi).1, (f _ _ b2).trans (h.basC i hi).2⟩, fun i hi => ⟨(h.rbIn i hi).1, by rw [e]; exact Nat.lt_succ_of_lt (h.rbIn i hi).2⟩, fun i hi => ⟨(h.rbNe i hi).1, (h.rbNe i hi).2.1, (h.rbNe i hi).2.2.1, ?_⟩, h.rbAp, ⟨n1.1, n1.2.1, ?_, n1.2.2.2.1, ?_, ?_⟩, h.caps⟩
  · rw [c3, ← hv]; rfl
  · rw [(hnew j hj).1]
    have hj' : j < T.wide := hj
    simp [ith, hj']
  · have := (h.rbIn i hi).2; simp only []; omega
  all_goals simp only []; omega
theorem TabAt.setGoalAt {w : World} {B : Nat} {A : Ats} {T : Tab} (h : TabAt w B A T) (hl : T.goal.length = T.wide) {j : Nat} (hj : j < T.wide) (u : Int) : TabAt (w.setCell ⟨A.gb, j, none⟩ (.int .i64 u)) B A { T with goal := T.goal.set j u } :=
  h.setGoal (grownBy_setCell w ⟨A.gb, j, none⟩ _) (fun q hq => ⟨by
    rw [ith_set _ _ _ _ (by omega)]
    by_cases e : q = j
    · subst e; rw [if_pos rfl]; exact World.cell?_setCell_same _ _ _ (h.goalC q hq).1
    · rw [if_neg e, World.cell?_setCell_other _ _ _ _ (fun e2 => e (by simp only [Addr.mk.injEq, and_true, true_and] at e2; exact e2.symm))]; exact (h.goalC q hq).1, by rw [World.frozen?_setCell]; exact (h.goalC q hq).2⟩)

def goal0 (T : Tab) (s : Nat) : List Int := if firstI (eqB s) T.basis < 0 then (List.replicate T.wide 0).set s (-T.den) else (T.row (firstI (eqB s) T.basis).toNat).set s 0
def weighP (T : Tab) (k : Nat) : List Int := (List.range k).foldl (fun w i => w.set (ith T.basis i).toNat (T.ent i (T.sets + T.n))) (List.replicate T.sets 0)
def greatestP (f s : Nat) (T : Tab) : Option (Tab × List Int) :=
  match runP T.sets f { T with goal := goal0 T s } with
  | none => none
  | some T2 => if T2.sm = true ∧ T2.sets = T.sets ∧ T2.n = T.n ∧ (T2.basis.all fun b => decide (b < T.sets)) = true then some (T2, weighP T2 T2.rows.length) else none
theorem weighP_succ (T : Tab) (k : Nat) : weighP T (k + 1) = (weighP T k).set (ith T.basis k).toNat (T.ent k (T.sets + T.n)) := by simp [weighP, List.range_succ, List.foldl_append]
theorem weighP_length (T : Tab) : ∀ k, (weighP T k).length = T.sets
  | 0 => by simp [weighP]
  | k + 1 => by rw [weighP_succ, List.length_set, weighP_length T k]

/-- What greatest leaves. -/
def GreatRes (w0 : World) (B : Nat) (A : Ats) (T : Tab) (ws : List Int) (e : Ending) (w' : World) : Prop :=
  ∃ gb g off cap, e = .returned (.tuple #[.slice (some ⟨g, off, none⟩) ws.length cap, .int .i64 T.den]) ∧ TabAt w' B { A with gb := gb } T ∧ IntsIn w' (some ⟨g, off, none⟩) ws ∧ Ext w0 w'
def GreatResX (X : Nat → Prop) (w0 : World) (B : Nat) (A : Ats) (T : Tab) (ws : List Int) (e : Ending) (w' : World) : Prop :=
  ∃ gb g off cap, e = .returned (.tuple #[.slice (some ⟨g, off, none⟩) ws.length cap, .int .i64 T.den]) ∧ TabAt w' B { A with gb := gb } T ∧ IntsIn w' (some ⟨g, off, none⟩) ws ∧ w0.heap.size ≤ gb ∧ w0.heap.size ≤ g ∧ ExtX X w0 w'
set_option maxRecDepth 100000 in
set_option maxHeartbeats 4000000 in
theorem greatestX_calls (X : Nat → Prop) (w0 w : World) (B : Nat) (A : Ats) (T T' : Tab) (ws : List Int) (f s : Nat) (hT : TabAt w B A T) (hsm : T.Sm) (hx0 : ExtX X w0 w) (h0 : OnX X w0.heap.size A T.rows.length) (hB : B ≤ w.heap.size) (hs : s < T.sets) (hr : greatestP f s T = some (T', ws)) :
    Calls Try.prog 68 #[.pointer (some ⟨A.t, 0, none⟩), .int .i64 s] w (GreatResX X w0 B A T' ws) := by
  have HS := Lib.hid hsm
  have hse := hsm.sets
  have hsn := hsm.n
  have hden := hsm.den
  have hmany := hsm.many
  have HR := Lib.hid hr
  clear hr hsm
  have h1 := hT.c0
  have h2 := hT.c1
  have h3 := hT.c3
  have h4 := hT.free 3 (by omega) (by omega)
  have ht2 := hT.tIn.2
  have hw1 : IntKind.i64.wrap ((T.sets : Int) + (T.n : Int)) = (T.sets : Int) + (T.n : Int) := by rw [IntKind.wrap_i64]; omega
  have hw2 : IntKind.i64.wrap ((T.sets : Int) + (T.n : Int) + 1) = (T.sets : Int) + (T.n : Int) + 1 := by rw [IntKind.wrap_i64]; omega
  have hwd : T.wide ≤ 2000 := by unfold Tab.wide; omega
  have hmk : ∀ W, (Instr.makeSlice 22 (.int .i64 ((T.sets : Int) + (T.n : Int) + 1)) (.int .i64 ((T.sets : Int) + (T.n : Int) + 1))).run Try.prog W = .ok (.slice (some ⟨W.heap.size, 0, none⟩) T.wide T.wide) (W.alloc (.cells (Array.replicate T.wide (.int .i64 0)) 3)) := fun W => by
    have := make_ints T.wide (by omega) W
    have e : ((T.wide : Nat) : Int) = (T.sets : Int) + (T.n : Int) + 1 := by unfold Tab.wide; simp
    rw [e] at this
    exact this
  go_enter Try.func68, Try.ntmps68
  go_wp2_with fail
  go_region
  have hT1 := hT.newGoal hB 3
  have hx1 : ExtX X w0 (((w.setCell ⟨A.t, 3, none⟩ (.slice (some ⟨w.heap.size, 0, none⟩) T.wide T.wide)).alloc (.cells (Array.replicate T.wide (.int .i64 0)) 3)).drew) := ((hx0.setOwn ⟨A.t, 3, none⟩ _ h0.t).alloc _).drew
  generalize (((w.setCell ⟨A.t, 3, none⟩ (.slice (some ⟨w.heap.size, 0, none⟩) T.wide T.wide)).alloc (.cells (Array.replicate T.wide (.int .i64 0)) 3)).drew) = w1 at *
  obtain ⟨G, hG⟩ : ∃ G, G = w.heap.size := ⟨_, rfl⟩
  rw [← hG] at hT1 ⊢
  have hGw : w0.heap.size ≤ G := by rw [hG]; exact hx0.size
  clear hG h1 h2 h3 h4 ht2 hw1 hw2 hmk
  have hb1 := hT1.c4
  have htl1 := hT1.tIn.2
  have hbi : IntsIn w1 (some ⟨A.bg, 0, none⟩) T.basis := fun k hk => by
    rw [HS.out.bas] at hk
    exact ⟨A.bg, 0, rfl, hT1.bgIn.2, by rw [Nat.zero_add]; exact (hT1.basC k hk).1⟩
  have hidx := index_calls w1 (some ⟨A.bg, 0, none⟩) A.bc T.basis s hbi (by rw [HS.out.bas]; omega)
  rw [HS.out.bas] at hidx
  go_wp2_with fail
  refine hidx.mono ?_
  rintro e w2 ⟨rfl, hx2⟩
  have hT2 := hT1.ext hx2
  have hx02 := hx1.trans hx2
  clear hidx hbi hb1 htl1 hT1 hx1
  have hgl : (List.replicate T.wide (0 : Int)).length = T.wide := by simp
  have hsw : s < T.wide := by unfold Tab.wide; omega
  by_cases hneg : firstI (eqB s) T.basis < 0
  · have HG0 : Hid (goal0 T s = (List.replicate T.wide 0).set s (-T.den)) := Lib.hid (by unfold goal0; rw [if_pos hneg])
    have q1 : w2.cell? ⟨A.t, 3, none⟩ = some (.slice (some ⟨G, 0, none⟩) T.wide T.wide) := hT2.c3
    have q2 : w2.cell? ⟨A.t, 5, none⟩ = some (.int .i64 T.den) := hT2.c5
    have q4 : A.t < w2.heap.size := hT2.tIn.2
    have q5 : G < w2.heap.size := hT2.gbIn.2
    have q6 : w2.cell? ⟨G, s, none⟩ = some (.int .i64 (ith (List.replicate T.wide 0) s)) := (hT2.goalC s hsw).1
    have q7 : w2.frozen? ⟨G, s, none⟩ = false := (hT2.goalC s hsw).2
    have hT3 : TabAt ((w2.setCell ⟨G, s, none⟩ (.int .i64 (-T.den))).drew) B { A with gb := G } { T with goal := goal0 T s } := by
      have := hT2.setGoalAt hgl hsw (-T.den)
      rw [HG0.out]
      exact this.ext (Ext.refl _).drew
    have hx3 : ExtX X w0 ((w2.setCell ⟨G, s, none⟩ (.int .i64 (-T.den))).drew) := (hx02.setOwn ⟨G, s, none⟩ _ (.inl hGw)).drew
    have hnd : IntKind.i64.wrap (-T.den) = -T.den := by rw [IntKind.wrap_i64]; omega
    have hsz : (s : Int) < (T.wide : Int) := by omega
    go_wp2_with fail
    go_region
    generalize (w2.setCell ⟨G, s, none⟩ (.int .i64 (-T.den))).drew = w3 at *
    clear q1 q2 q4 q5 q6 q7 hT2 hx02
    have hr := HR.out
    unfold greatestP at hr
    cases hrun : runP T.sets f { T with goal := goal0 T s } with
    | none => rw [hrun] at hr; simp at hr
    | some T2 =>
      rw [hrun] at hr
      simp only [] at hr
      by_cases hcnd : T2.sm = true ∧ T2.sets = T.sets ∧ T2.n = T.n ∧ (T2.basis.all fun b => decide (b < T.sets)) = true
      · rw [if_pos hcnd] at hr
        obtain ⟨c1, c2, c3, c4⟩ := hcnd
        simp only [Option.some.injEq, Prod.mk.injEq] at hr
        obtain ⟨rfl, hws⟩ := hr
        have HWS := Lib.hid hws
        have HRUN := Lib.hid hrun
        have HS2 := Lib.hid (Tab.sm_iff c1)
        have HC2 := Lib.hid c2
        have HC3 := Lib.hid c3
        have HC4 : Hid (∀ i, i < T2.rows.length → ith T2.basis i < T.sets) := Lib.hid (fun i hi => by
          simp only [List.all_eq_true, decide_eq_true_eq] at c4
          have hl := (Tab.sm_iff c1).bas
          have e : ith T2.basis i = T2.basis[i]'(by omega) := by simp [ith, show i < T2.basis.length by omega]
          rw [e]; exact c4 _ (List.getElem_mem _))
        clear c1 c2 c3 c4 hws hrun
        have q0 : w3.cell? ⟨A.t, 0, none⟩ = some (.int .i64 T.sets) := hT3.c0
        have q9 : A.t < w3.heap.size := hT3.tIn.2
        go_wp2_with fail
        refine (runX_calls X w0 w3 B { A with gb := G } { T with goal := goal0 T s } T2 T.sets f hT3 hx3 ⟨h0.t, h0.rg, h0.bg, .inl hGw, h0.rb⟩ (Nat.le_add_right _ _) HRUN.out).mono ?_
        rintro e w4 ⟨⟨v, rfl⟩, hT4, hx4⟩
        clear hT3 hx3 q0 q9
        have hsz2 : ((T2.sets : Nat) : Int) = (T.sets : Int) := by rw [HC2.out]
        have p0 : w4.cell? ⟨A.t, 0, none⟩ = some (.int .i64 T.sets) := by rw [← HC2.out]; exact hT4.c0
        have p4 : w4.cell? ⟨A.t, 4, none⟩ = some (.slice (some ⟨A.bg, 0, none⟩) T2.rows.length A.bc) := hT4.c4
        have p9 : A.t < w4.heap.size := hT4.tIn.2
        have hmk2 := make_ints T.sets (by omega)
        have hx4d : Ext w4 (w4.alloc (.cells (Array.replicate T.sets (.int .i64 0)) 3)) := (Ext.refl _).alloc _
        have hT5 := hT4.ext hx4d
        have hx5 := hx4.trans hx4d
        have p4a : (w4.alloc (.cells (Array.replicate T.sets (.int .i64 0)) 3)).cell? ⟨A.t, 4, none⟩ = some (.slice (some ⟨A.bg, 0, none⟩) T2.rows.length A.bc) := hT5.c4
        have p9a : A.t < (w4.alloc (.cells (Array.replicate T.sets (.int .i64 0)) 3)).heap.size := hT5.tIn.2
        have hmany2 := HS2.out.many
        go_wp2_with fail
        have hnw : ∀ j, j < T.sets → (w4.alloc (.cells (Array.replicate T.sets (.int .i64 0)) 3)).cell? ⟨w4.heap.size, j, none⟩ = some (.int .i64 0) ∧ (w4.alloc (.cells (Array.replicate T.sets (.int .i64 0)) 3)).frozen? ⟨w4.heap.size, j, none⟩ = false := fun j hj => ⟨by simp [go_sem, hj], by simp [go_sem]⟩
        have hsW : (w4.alloc (.cells (Array.replicate T.sets (.int .i64 0)) 3)).heap.size = w4.heap.size + 1 := by simp
        generalize (w4.alloc (.cells (Array.replicate T.sets (.int .i64 0)) 3)) = w5 at *
        obtain ⟨Q, hQ⟩ : ∃ Q, Q = w4.heap.size := ⟨_, rfl⟩
        rw [← hQ] at hnw hsW ⊢
        have hQt : A.t < Q := by omega
        have hQr : A.rg < Q := by have : A.rg < w4.heap.size := hT4.rgIn.2; omega
        have hQb : A.bg < Q := by have : A.bg < w4.heap.size := hT4.bgIn.2; omega
        have hQg : G < Q := by have : G < w4.heap.size := hT4.gbIn.2; omega
        have HQrb : Hid (∀ i, i < T2.rows.length → A.rb i < Q) := Lib.hid (fun i hi => by have : A.rb i < w4.heap.size := (hT4.rbIn i hi).2; omega)
        have hQ0 : w0.heap.size ≤ Q := by have := hx4.size; omega
        have hlw : T.sets + T.n < T2.wide := by unfold Tab.wide; have := HC2.out; have := HC3.out; omega
        clear hQ p0 p4 p9 p4a p9a hmk2 hx4d hT4 hx4
        go_loopw [88] (fun iv wr => ∃ k : Nat, k ≤ T2.rows.length ∧ iv = .int .i64 k ∧ TabAt wr B { A with gb := G } T2 ∧ ExtX X w0 wr ∧ Q < wr.heap.size ∧ Hid (∀ j, j < T.sets → wr.cell? ⟨Q, j, none⟩ = some (.int .i64 (ith (weighP T2 k) j)) ∧ wr.frozen? ⟨Q, j, none⟩ = false)) (fun iv _ => T2.rows.length - (intOf iv).toNat)
        case atStart => exact ⟨0, by omega, rfl, hT5, hx5, by omega, Lib.hid (fun j hj => by
          have := hnw j hj
          rw [this.1]
          refine ⟨?_, this.2⟩
          have hj2 : j < T2.sets := by rw [HC2.out]; exact hj
          simp [weighP, ith, hj2])⟩
        case round =>
          rename World => wz
          clear hT5 hx5 hnw
          obtain ⟨k, hk, rfl, hTz, hxz, hQz, HZ⟩ := hrel
          by_cases hlt : k < T2.rows.length
          · obtain ⟨b, hb⟩ : ∃ b : Nat, ith T2.basis k = (b : Int) := ⟨(ith T2.basis k).toNat, by have := (HS2.out.basIn k hlt).1; omega⟩
            have hbs : b < T.sets := by have := HC4.out k hlt; omega
            have z1 : wz.cell? ⟨A.bg, k, none⟩ = some (.int .i64 b) := by rw [← hb]; exact (hTz.basC k hlt).1
            have z2 : wz.cell? ⟨A.t, 2, none⟩ = some (.slice (some ⟨A.rg, 0, none⟩) T2.rows.length A.rc) := hTz.c2
            have z3 : wz.cell? ⟨A.rg, k, none⟩ = some (.slice (some ⟨A.rb k, 0, none⟩) T2.wide T2.wide) := (hTz.rowC k hlt).1
            have z4 : wz.cell? ⟨A.t, 0, none⟩ = some (.int .i64 T.sets) := by rw [← HC2.out]; exact hTz.c0
            have z5 : wz.cell? ⟨A.t, 1, none⟩ = some (.int .i64 T.n) := by rw [← HC3.out]; exact hTz.c1
            have z6 : wz.cell? ⟨A.rb k, T.sets + T.n, none⟩ = some (.int .i64 (T2.ent k (T.sets + T.n))) := (hTz.entC k _ hlt hlw).1
            have z7 := (HZ.out b hbs).1
            have z8 := (HZ.out b hbs).2
            have z9 : A.t < wz.heap.size := hTz.tIn.2
            have z10 : A.rg < wz.heap.size := hTz.rgIn.2
            have z11 : A.bg < wz.heap.size := hTz.bgIn.2
            have z12 : A.rb k < wz.heap.size := (hTz.rbIn k hlt).2
            have hw5 : IntKind.i64.wrap ((T.sets : Int) + (T.n : Int)) = ((T.sets + T.n : Nat) : Int) := by rw [IntKind.wrap_i64]; omega
            have hbz : (b : Int) < (T.sets : Int) := by omega
            have hlz : ((T.sets + T.n : Nat) : Int) < (T2.wide : Int) := by omega
            have hkz : (k : Int) < (T2.rows.length : Int) := by omega
            have HTN := HQrb.out k hlt
            have hTq := (hTz.grown (grownBy_setCell wz ⟨Q, b, none⟩ (.int .i64 (T2.ent k (T.sets + T.n)))) (fun q hq => by
              simp only [Option.some.injEq] at hq
              subst hq
              exact ⟨by simp only []; omega, by simp only []; omega, by simp only []; omega, by simp only []; omega, fun i hi => by have := HQrb.out i hi; simp only []; omega⟩)).ext (Ext.refl _).drew
            have hxq := (hxz.setOwn ⟨Q, b, none⟩ (.int .i64 (T2.ent k (T.sets + T.n))) (.inl hQ0)).drew
            have HZ2 : Hid (∀ j, j < T.sets → ((wz.setCell ⟨Q, b, none⟩ (.int .i64 (T2.ent k (T.sets + T.n)))).drew).cell? ⟨Q, j, none⟩ = some (.int .i64 (ith (weighP T2 (k + 1)) j)) ∧ ((wz.setCell ⟨Q, b, none⟩ (.int .i64 (T2.ent k (T.sets + T.n)))).drew).frozen? ⟨Q, j, none⟩ = false) := Lib.hid (fun j hj => by
              rw [World.cell?_drew, World.frozen?_drew, World.frozen?_setCell, weighP_succ, hb, HC2.out, HC3.out, ith_set _ _ _ _ (by rw [weighP_length, HC2.out]; simpa using hbs)]
              refine ⟨?_, (HZ.out j hj).2⟩
              by_cases e : j = b
              · subst e
                rw [if_pos (by simp)]; exact World.cell?_setCell_same _ _ _ z7
              · rw [if_neg (by simpa using e), World.cell?_setCell_other _ _ _ _ (fun e2 => e (by simp only [Addr.mk.injEq, and_true, true_and] at e2; exact e2.symm))]
                exact (HZ.out j hj).1)
            clear hb
            go_wp2_with fail
            go_region
            go_wp2_with fail
            exact ⟨⟨k + 1, by omega, rfl, hTq, hxq, by simp [World.setCell]; omega, HZ2⟩, by simp only [intOf]; omega⟩
          · obtain rfl : k = T2.rows.length := by omega
            have z1 : wz.cell? ⟨A.t, 5, none⟩ = some (.int .i64 T2.den) := hTz.c5
            have z9 : A.t < wz.heap.size := hTz.tIn.2
            go_wp2_with fail
            go_region
            go_wp2_with fail
            go_ret2
            have hwl := weighP_length T2 T2.rows.length
            refine ⟨G, Q, 0, T.sets, ?_, hTz.ext (Ext.refl _).drew, ?_, hGw, hQ0, hxz.drew⟩
            · rw [← HWS.out, hwl, HC2.out]; rfl
            · rw [← HWS.out]
              intro j hj
              rw [hwl, HC2.out] at hj
              exact ⟨Q, 0, rfl, by simp; omega, by rw [Nat.zero_add, World.cell?_drew]; exact (HZ.out j hj).1⟩
      · rw [if_neg hcnd] at hr
        simp at hr
  · obtain ⟨r, hrf, hrl⟩ := firstI_bounds (eqB s) _ hneg
    rw [HS.out.bas] at hrl
    have HG0 : Hid (goal0 T s = (T.row r).set s 0) := Lib.hid (by unfold goal0; rw [if_neg hneg, hrf]; simp)
    rw [hrf]
    clear hneg hrf
    have q1 : w2.cell? ⟨A.t, 2, none⟩ = some (.slice (some ⟨A.rg, 0, none⟩) T.rows.length A.rc) := hT2.c2
    have q2 : w2.cell? ⟨A.rg, r, none⟩ = some (.slice (some ⟨A.rb r, 0, none⟩) T.wide T.wide) := (hT2.rowC r hrl).1
    have q3 : A.t < w2.heap.size := hT2.tIn.2
    go_wp2_with fail
    clear q1 q2 q3
    go_loopw [42] (fun i wr => ∃ (k : Nat) (g : List Int), k ≤ T.wide ∧ i = .int .i64 k ∧ TabAt wr B { A with gb := G } { T with goal := g } ∧ ExtX X w0 wr ∧ Hid (g.length = T.wide ∧ ∀ q, q < k → ith g q = ith (T.row r) q)) (fun i _ => T.wide - (intOf i).toNat)
    case atStart => exact ⟨0, _, by omega, rfl, hT2, hx02, Lib.hid ⟨hgl, fun q hq => by omega⟩⟩
    case round =>
      clear hT2 hx02
      obtain ⟨k, g, hk, rfl, hTk, hxk, HGK⟩ := hrel
      by_cases hlt : k < T.wide
      · have q1 : wr.cell? ⟨A.t, 3, none⟩ = some (.slice (some ⟨G, 0, none⟩) T.wide T.wide) := hTk.c3
        have q2 : wr.cell? ⟨A.rb r, k, none⟩ = some (.int .i64 (T.ent r k)) := (hTk.entC r k hrl hlt).1
        have q4 : A.t < wr.heap.size := hTk.tIn.2
        have q5 : G < wr.heap.size := hTk.gbIn.2
        have q6 : wr.cell? ⟨G, k, none⟩ = some (.int .i64 (ith g k)) := (hTk.goalC k hlt).1
        have q7 : wr.frozen? ⟨G, k, none⟩ = false := (hTk.goalC k hlt).2
        have hT5 := hTk.setGoalAt HGK.out.1 hlt (T.ent r k)
        have hx5 := hxk.setOwn ⟨G, k, none⟩ (.int .i64 (T.ent r k)) (.inl hGw)
        go_wp2_with fail
        refine ⟨⟨k + 1, g.set k (T.ent r k), by omega, rfl, hT5, hx5, Lib.hid ⟨by rw [List.length_set]; exact HGK.out.1, fun q hq => ?_⟩⟩, by simp only [intOf]; omega⟩
        rw [ith_set _ _ _ _ (by rw [HGK.out.1]; exact hlt)]
        by_cases e : q = k
        · subst e; rw [if_pos rfl]; rfl
        · rw [if_neg e]; exact HGK.out.2 q (by omega)
      · obtain rfl : k = T.wide := by omega
        have hge : g = T.row r := by
          refine List.ext_getElem (by rw [HGK.out.1, (HS.out.row r hrl).len]) (fun q h1 h2 => ?_)
          have := HGK.out.2 q (by rw [← HGK.out.1]; exact h1)
          simpa [ith, h1, h2] using this
        subst hge
        have q1 : wr.cell? ⟨A.t, 3, none⟩ = some (.slice (some ⟨G, 0, none⟩) T.wide T.wide) := hTk.c3
        have q4 : A.t < wr.heap.size := hTk.tIn.2
        have q5 : G < wr.heap.size := hTk.gbIn.2
        have q6 : wr.cell? ⟨G, s, none⟩ = some (.int .i64 (ith (T.row r) s)) := (hTk.goalC s hsw).1
        have q7 : wr.frozen? ⟨G, s, none⟩ = false := (hTk.goalC s hsw).2
        have hT3 : TabAt (wr.setCell ⟨G, s, none⟩ (.int .i64 0)) B { A with gb := G } { T with goal := goal0 T s } := by
          have := hTk.setGoalAt HGK.out.1 hsw 0
          rw [HG0.out]
          exact this
        have hx3 : ExtX X w0 (wr.setCell ⟨G, s, none⟩ (.int .i64 0)) := hxk.setOwn ⟨G, s, none⟩ _ (.inl hGw)
        have q8 : (wr.setCell ⟨G, s, none⟩ (.int .i64 0)).cell? ⟨A.t, 0, none⟩ = some (.int .i64 T.sets) := hT3.c0
        have q10 : A.t < (wr.setCell ⟨G, s, none⟩ (.int .i64 0)).heap.size := hT3.tIn.2
        go_wp2_with fail
        generalize (wr.setCell ⟨G, s, none⟩ (.int .i64 0)) = w3 at *
        clear q1 q4 q5 q6 q7 q8 q10 hTk hxk
        have hr := HR.out
        unfold greatestP at hr
        cases hrun : runP T.sets f { T with goal := goal0 T s } with
        | none => rw [hrun] at hr; simp at hr
        | some T2 =>
          rw [hrun] at hr
          simp only [] at hr
          by_cases hcnd : T2.sm = true ∧ T2.sets = T.sets ∧ T2.n = T.n ∧ (T2.basis.all fun b => decide (b < T.sets)) = true
          · rw [if_pos hcnd] at hr
            obtain ⟨c1, c2, c3, c4⟩ := hcnd
            simp only [Option.some.injEq, Prod.mk.injEq] at hr
            obtain ⟨rfl, hws⟩ := hr
            have HWS := Lib.hid hws
            have HRUN := Lib.hid hrun
            have HS2 := Lib.hid (Tab.sm_iff c1)
            have HC2 := Lib.hid c2
            have HC3 := Lib.hid c3
            have HC4 : Hid (∀ i, i < T2.rows.length → ith T2.basis i < T.sets) := Lib.hid (fun i hi => by
              simp only [List.all_eq_true, decide_eq_true_eq] at c4
              have hl := (Tab.sm_iff c1).bas
              have e : ith T2.basis i = T2.basis[i]'(by omega) := by simp [ith, show i < T2.basis.length by omega]
              rw [e]; exact c4 _ (List.getElem_mem _))
            clear c1 c2 c3 c4 hws hrun
            have q0 : w3.cell? ⟨A.t, 0, none⟩ = some (.int .i64 T.sets) := hT3.c0
            have q9 : A.t < w3.heap.size := hT3.tIn.2
            skip
            refine (runX_calls X w0 w3 B { A with gb := G } { T with goal := goal0 T s } T2 T.sets f hT3 hx3 ⟨h0.t, h0.rg, h0.bg, .inl hGw, h0.rb⟩ (Nat.le_add_right _ _) HRUN.out).mono ?_
            rintro e w4 ⟨⟨v, rfl⟩, hT4, hx4⟩
            clear hT3 hx3 q0 q9
            have hsz2 : ((T2.sets : Nat) : Int) = (T.sets : Int) := by rw [HC2.out]
            have p0 : w4.cell? ⟨A.t, 0, none⟩ = some (.int .i64 T.sets) := by rw [← HC2.out]; exact hT4.c0
            have p4 : w4.cell? ⟨A.t, 4, none⟩ = some (.slice (some ⟨A.bg, 0, none⟩) T2.rows.length A.bc) := hT4.c4
            have p9 : A.t < w4.heap.size := hT4.tIn.2
            have hmk2 := make_ints T.sets (by omega)
            have hx4d : Ext w4 (w4.alloc (.cells (Array.replicate T.sets (.int .i64 0)) 3)) := (Ext.refl _).alloc _
            have hT5 := hT4.ext hx4d
            have hx5 := hx4.trans hx4d
            have p4a : (w4.alloc (.cells (Array.replicate T.sets (.int .i64 0)) 3)).cell? ⟨A.t, 4, none⟩ = some (.slice (some ⟨A.bg, 0, none⟩) T2.rows.length A.bc) := hT5.c4
            have p9a : A.t < (w4.alloc (.cells (Array.replicate T.sets (.int .i64 0)) 3)).heap.size := hT5.tIn.2
            have hmany2 := HS2.out.many
            go_wp2_with fail
            have hnw : ∀ j, j < T.sets → (w4.alloc (.cells (Array.replicate T.sets (.int .i64 0)) 3)).cell? ⟨w4.heap.size, j, none⟩ = some (.int .i64 0) ∧ (w4.alloc (.cells (Array.replicate T.sets (.int .i64 0)) 3)).frozen? ⟨w4.heap.size, j, none⟩ = false := fun j hj => ⟨by simp [go_sem, hj], by simp [go_sem]⟩
            have hsW : (w4.alloc (.cells (Array.replicate T.sets (.int .i64 0)) 3)).heap.size = w4.heap.size + 1 := by simp
            generalize (w4.alloc (.cells (Array.replicate T.sets (.int .i64 0)) 3)) = w5 at *
            obtain ⟨Q, hQ⟩ : ∃ Q, Q = w4.heap.size := ⟨_, rfl⟩
            rw [← hQ] at hnw hsW ⊢
            have hQt : A.t < Q := by omega
            have hQr : A.rg < Q := by have : A.rg < w4.heap.size := hT4.rgIn.2; omega
            have hQb : A.bg < Q := by have : A.bg < w4.heap.size := hT4.bgIn.2; omega
            have hQg : G < Q := by have : G < w4.heap.size := hT4.gbIn.2; omega
            have HQrb : Hid (∀ i, i < T2.rows.length → A.rb i < Q) := Lib.hid (fun i hi => by have : A.rb i < w4.heap.size := (hT4.rbIn i hi).2; omega)
            have hQ0 : w0.heap.size ≤ Q := by have := hx4.size; omega
            have hlw : T.sets + T.n < T2.wide := by unfold Tab.wide; have := HC2.out; have := HC3.out; omega
            clear hQ p0 p4 p9 p4a p9a hmk2 hx4d hT4 hx4
            go_loopw [88] (fun iv wr => ∃ k : Nat, k ≤ T2.rows.length ∧ iv = .int .i64 k ∧ TabAt wr B { A with gb := G } T2 ∧ ExtX X w0 wr ∧ Q < wr.heap.size ∧ Hid (∀ j, j < T.sets → wr.cell? ⟨Q, j, none⟩ = some (.int .i64 (ith (weighP T2 k) j)) ∧ wr.frozen? ⟨Q, j, none⟩ = false)) (fun iv _ => T2.rows.length - (intOf iv).toNat)
            case atStart => exact ⟨0, by omega, rfl, hT5, hx5, by omega, Lib.hid (fun j hj => by
              have := hnw j hj
              rw [this.1]
              refine ⟨?_, this.2⟩
              have hj2 : j < T2.sets := by rw [HC2.out]; exact hj
              simp [weighP, ith, hj2])⟩
            case round =>
              rename World => wz
              clear hT5 hx5 hnw
              obtain ⟨k, hk, rfl, hTz, hxz, hQz, HZ⟩ := hrel
              by_cases hlt : k < T2.rows.length
              · obtain ⟨b, hb⟩ : ∃ b : Nat, ith T2.basis k = (b : Int) := ⟨(ith T2.basis k).toNat, by have := (HS2.out.basIn k hlt).1; omega⟩
                have hbs : b < T.sets := by have := HC4.out k hlt; omega
                have z1 : wz.cell? ⟨A.bg, k, none⟩ = some (.int .i64 b) := by rw [← hb]; exact (hTz.basC k hlt).1
                have z2 : wz.cell? ⟨A.t, 2, none⟩ = some (.slice (some ⟨A.rg, 0, none⟩) T2.rows.length A.rc) := hTz.c2
                have z3 : wz.cell? ⟨A.rg, k, none⟩ = some (.slice (some ⟨A.rb k, 0, none⟩) T2.wide T2.wide) := (hTz.rowC k hlt).1
                have z4 : wz.cell? ⟨A.t, 0, none⟩ = some (.int .i64 T.sets) := by rw [← HC2.out]; exact hTz.c0
                have z5 : wz.cell? ⟨A.t, 1, none⟩ = some (.int .i64 T.n) := by rw [← HC3.out]; exact hTz.c1
                have z6 : wz.cell? ⟨A.rb k, T.sets + T.n, none⟩ = some (.int .i64 (T2.ent k (T.sets + T.n))) := (hTz.entC k _ hlt hlw).1
                have z7 := (HZ.out b hbs).1
                have z8 := (HZ.out b hbs).2
                have z9 : A.t < wz.heap.size := hTz.tIn.2
                have z10 : A.rg < wz.heap.size := hTz.rgIn.2
                have z11 : A.bg < wz.heap.size := hTz.bgIn.2
                have z12 : A.rb k < wz.heap.size := (hTz.rbIn k hlt).2
                have hw5 : IntKind.i64.wrap ((T.sets : Int) + (T.n : Int)) = ((T.sets + T.n : Nat) : Int) := by rw [IntKind.wrap_i64]; omega
                have hbz : (b : Int) < (T.sets : Int) := by omega
                have hlz : ((T.sets + T.n : Nat) : Int) < (T2.wide : Int) := by omega
                have hkz : (k : Int) < (T2.rows.length : Int) := by omega
                have HTN := HQrb.out k hlt
                have hTq := (hTz.grown (grownBy_setCell wz ⟨Q, b, none⟩ (.int .i64 (T2.ent k (T.sets + T.n)))) (fun q hq => by
                  simp only [Option.some.injEq] at hq
                  subst hq
                  exact ⟨by simp only []; omega, by simp only []; omega, by simp only []; omega, by simp only []; omega, fun i hi => by have := HQrb.out i hi; simp only []; omega⟩)).ext (Ext.refl _).drew
                have hxq := (hxz.setOwn ⟨Q, b, none⟩ (.int .i64 (T2.ent k (T.sets + T.n))) (.inl hQ0)).drew
                have HZ2 : Hid (∀ j, j < T.sets → ((wz.setCell ⟨Q, b, none⟩ (.int .i64 (T2.ent k (T.sets + T.n)))).drew).cell? ⟨Q, j, none⟩ = some (.int .i64 (ith (weighP T2 (k + 1)) j)) ∧ ((wz.setCell ⟨Q, b, none⟩ (.int .i64 (T2.ent k (T.sets + T.n)))).drew).frozen? ⟨Q, j, none⟩ = false) := Lib.hid (fun j hj => by
                  rw [World.cell?_drew, World.frozen?_drew, World.frozen?_setCell, weighP_succ, hb, HC2.out, HC3.out, ith_set _ _ _ _ (by rw [weighP_length, HC2.out]; simpa using hbs)]
                  refine ⟨?_, (HZ.out j hj).2⟩
                  by_cases e : j = b
                  · subst e
                    rw [if_pos (by simp)]; exact World.cell?_setCell_same _ _ _ z7
                  · rw [if_neg (by simpa using e), World.cell?_setCell_other _ _ _ _ (fun e2 => e (by simp only [Addr.mk.injEq, and_true, true_and] at e2; exact e2.symm))]
                    exact (HZ.out j hj).1)
                clear hb
                go_wp2_with fail
                go_region
                go_wp2_with fail
                exact ⟨⟨k + 1, by omega, rfl, hTq, hxq, by simp [World.setCell]; omega, HZ2⟩, by simp only [intOf]; omega⟩
              · obtain rfl : k = T2.rows.length := by omega
                have z1 : wz.cell? ⟨A.t, 5, none⟩ = some (.int .i64 T2.den) := hTz.c5
                have z9 : A.t < wz.heap.size := hTz.tIn.2
                go_wp2_with fail
                go_region
                go_wp2_with fail
                go_ret2
                have hwl := weighP_length T2 T2.rows.length
                refine ⟨G, Q, 0, T.sets, ?_, hTz.ext (Ext.refl _).drew, ?_, hGw, hQ0, hxz.drew⟩
                · rw [← HWS.out, hwl, HC2.out]; rfl
                · rw [← HWS.out]
                  intro j hj
                  rw [hwl, HC2.out] at hj
                  exact ⟨Q, 0, rfl, by simp; omega, by rw [Nat.zero_add, World.cell?_drew]; exact (HZ.out j hj).1⟩
          · rw [if_neg hcnd] at hr
            simp at hr
theorem greatest_calls (w0 w : World) (B : Nat) (A : Ats) (T T' : Tab) (ws : List Int) (f s : Nat) (hT : TabAt w B A T) (hsm : T.Sm) (hx0 : Ext w0 w) (h0 : w0.heap.size ≤ B) (hB : B ≤ w.heap.size) (hs : s < T.sets) (hr : greatestP f s T = some (T', ws)) :
    Calls Try.prog 68 #[.pointer (some ⟨A.t, 0, none⟩), .int .i64 s] w (GreatRes w0 B A T' ws) :=
  (greatestX_calls (fun _ => False) w0 w B A T T' ws f s hT hsm (ExtX.of _ hx0) (OnX.of _ hT h0) hB hs hr).mono fun _ _ ⟨gb, g, off, cap, h1, h2, h3, _, _, h4⟩ => ⟨gb, g, off, cap, h1, h2, h3, h4.toExt⟩
end Go.Proofs.Ytcngecibljgndaa
