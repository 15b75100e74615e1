/- The pivot: the walk. -/
import Derived.Test.YtcngecibljgndaaQJ
import Derived.Test.YtcngecibljgndaaQC
namespace Go.Proofs.Ytcngecibljgndaa
open Go.RowKit Go.Shelf

theorem enters_step : ∀ args w, (callFunc 125 args).run Try.prog w = .ok (.enter 125 args) w := enters_of Try.func125 (by kernel_rfl) rfl
theorem TabAt.intsRow {w : World} {B : Nat} {A : Ats} {T : Tab} (h : TabAt w B A T) (hs : T.Sm) {i : Nat} (hi : i < T.rows.length) : IntsIn w (some ⟨A.rb i, 0, none⟩) (T.row i) := by
  intro k hk
  rw [(hs.row i hi).len] at hk
  exact ⟨A.rb i, 0, rfl, (h.rbIn i hi).2, by rw [Nat.zero_add]; exact (h.entC i k hi hk).1⟩
theorem stepTo_zero (T : Tab) (i j : Nat) : stepTo T i j 0 = T := by
  have : (List.range T.rows.length).map (fun q => if q < 0 ∧ q ≠ i then stepRow (T.row i) (T.ent i j) T.den j (T.row q) else T.row q) = T.rows := by
    refine List.ext_getElem (by simp) (fun q h1 h2 => ?_)
    simp [Tab.row, h2]
  unfold stepTo
  rw [this]
theorem stepTo_one (T : Tab) (i j k : Nat) : OneRow (stepTo T i j k) (stepTo T i j (k + 1)) k := by
  refine ⟨rfl, rfl, rfl, rfl, rfl, by rw [stepTo_len, stepTo_len], fun q hq hne => ?_⟩
  rw [stepTo_len] at hq
  rw [stepTo_row _ _ _ _ _ hq, stepTo_row _ _ _ _ _ hq]
  by_cases h : q < k ∧ q ≠ i
  · rw [if_pos h, if_pos ⟨by omega, h.2⟩]
  · rw [if_neg h, if_neg (fun h2 => h ⟨by omega, h2.2⟩)]
theorem stepTo_skip (T : Tab) (i j : Nat) : stepTo T i j (i + 1) = stepTo T i j i := by
  unfold stepTo
  congr 1
  refine List.map_congr_left (fun q _ => ?_)
  by_cases h : q < i ∧ q ≠ i
  · rw [if_pos h, if_pos ⟨by omega, h.2⟩]
  · rw [if_neg h, if_neg (fun h2 => h ⟨by omega, h2.2⟩)]

/-- What a pivot leaves. -/
def TabRes (w0 : World) (B : Nat) (A : Ats) (T : Tab) (e : Ending) (w' : World) : Prop := (∃ v, e = .returned v) ∧ TabAt w' B A T ∧ Ext w0 w'
def TabResX (X : Nat → Prop) (w0 : World) (B : Nat) (A : Ats) (T : Tab) (e : Ending) (w' : World) : Prop := (∃ v, e = .returned v) ∧ TabAt w' B A T ∧ ExtX X w0 w'
theorem TabResX.toRes {w0 : World} {B : Nat} {A : Ats} {T : Tab} {e : Ending} {w' : World} (h : TabResX (fun _ => False) w0 B A T e w') : TabRes w0 B A T e w' := ⟨h.1, h.2.1, h.2.2.toExt⟩
set_option maxRecDepth 100000 in
set_option maxHeartbeats 4000000 in
theorem pivotX_calls (X : Nat → Prop) (w0 w : World) (B : Nat) (A : Ats) (T : Tab) (i j : Nat) (hT : TabAt w B A T) (hs : T.Sm) (hx0 : ExtX X w0 w) (h0 : OnX X w0.heap.size A T.rows.length) (hi : i < T.rows.length) (hj : j < T.wide) :
    Calls Try.prog 107 #[.pointer (some ⟨A.t, 0, none⟩), .int .i64 i, .int .i64 j] w (TabResX X w0 B A (pivotP T i j)) := by
  have hent := enters_step
  have HS := Lib.hid hs
  have hwide : T.wide ≤ 2000 := by unfold Tab.wide; have := hs.sets; have := hs.n; omega
  have hmany := hs.many
  have hc2 := hT.c2
  have hri := (hT.rowC i hi).1
  have ht2 := hT.tIn.2
  have hr2 := hT.rgIn.2
  have hcaps := hT.caps
  have hrl := (hs.row i hi).len
  have hIR := hT.intsRow hs hi
  clear hs
  go_enter Try.func107, Try.ntmps107
  go_wp2_with fail
  rw [← hrl]
  obtain ⟨w1, hw1⟩ : ∃ w1, w1 = ((w.alloc (.cells #[.pointer (some ⟨A.t, 0, none⟩)] 73)).alloc (.cells #[.int .i64 j] 3)) := ⟨_, rfl⟩
  have hx1 : Ext w w1 := by rw [hw1]; exact (by repeat (first | exact Ext.refl _ | assumption | refine Ext.alloc ?_ _ | refine Ext.drewN ?_ _ | refine Ext.drew ?_))
  have hbt1 : w1.cell? ⟨w.heap.size, 0, none⟩ = some (.pointer (some ⟨A.t, 0, none⟩)) := by rw [hw1]; simp [go_sem]
  have hbj1 : w1.cell? ⟨w.heap.size + 1, 0, none⟩ = some (.int .i64 j) := by rw [hw1]; simp [go_sem]
  have hs1 : w1.heap.size = w.heap.size + 2 := by rw [hw1]; simp
  rw [← hw1]
  clear hw1
  obtain ⟨H, hH⟩ : ∃ H, H = w.heap.size := ⟨_, rfl⟩
  rw [← hH] at hs1 hbt1 hbj1 ⊢
  have hHw : w.heap.size ≤ H := by omega
  have htH : A.t < H := by omega
  clear hH
  refine (clone_calls _ (A.rb i) 0 (T.row i).length (T.row i) (hIR.ext hx1) (by omega)).mono ?_
  rintro e w2 ⟨v, rfl, ho, hx2⟩
  rw [hrl]
  have how := ho.shape (by omega)
  rw [ints_length, hrl, Nat.div_one] at how
  have hpos : 0 < T.wide := by unfold Tab.wide; omega
  rcases how with ⟨_, h⟩ | ⟨ob, oo, oc, rfl, hob1, hob2, hoc, -⟩
  · have := congrArg List.length h
    rw [ints_length, hrl] at this
    simp at this; omega
  have hdj := (ho.intAt j (by rw [hrl]; exact hj)).1
  have HO : Hid (∀ k, k < T.wide → w2.cell? ⟨ob, oo + k, none⟩ = some (.int .i64 (ith (T.row i) k))) := Lib.hid (fun k hk => (ho.intAt k (by rw [hrl]; exact hk)).1)
  have hbt2 := (hx2.cell (p := ⟨H, 0, none⟩) (by show H < _; omega)).trans hbt1
  have hbj2 := (hx2.cell (p := ⟨H + 1, 0, none⟩) (by show H + 1 < _; omega)).trans hbj1
  have hT2 := (hT.ext hx1).ext hx2
  have hx02 := (hx0.trans hx1).trans hx2
  have hs2 := hx2.size
  clear ho hbt1 hbj1 hc2 hri ht2 hr2
  have hH1 : H < w2.heap.size := by omega
  have hH2 : H + 1 < w2.heap.size := by omega
  have hjz : (j : Int) < (T.wide : Int) := by omega
  have hdE : ith (T.row i) j = T.ent i j := rfl
  rw [hdE] at hdj
  have hc2 := hT2.c2
  have ht2 := hT2.tIn.2
  go_wp2_with fail
  obtain ⟨w3, hw3⟩ : ∃ w3, w3 = ((w2.alloc (.cells #[.slice (some ⟨ob, oo, none⟩) T.wide oc] 22)).alloc (.cells #[.int .i64 (T.ent i j)] 3)) := ⟨_, rfl⟩
  obtain ⟨Q, hQ⟩ : ∃ Q, Q = w2.heap.size := ⟨_, rfl⟩
  have hx3 : Ext w2 w3 := by rw [hw3]; exact (by repeat (first | exact Ext.refl _ | assumption | refine Ext.alloc ?_ _ | refine Ext.drewN ?_ _ | refine Ext.drew ?_))
  have hbo3 : w3.cell? ⟨Q, 0, none⟩ = some (.slice (some ⟨ob, oo, none⟩) T.wide oc) := by rw [hw3, hQ]; simp [go_sem]
  have hbd3 : w3.cell? ⟨Q + 1, 0, none⟩ = some (.int .i64 (T.ent i j)) := by rw [hw3, hQ]; simp [go_sem]
  have hs3 : w3.heap.size = Q + 2 := by rw [hw3, hQ]; simp
  rw [← hw3]
  rw [← hQ] at hH1 hH2 hob2 hs2 ht2 ⊢
  have hQw : w2.heap.size ≤ Q := by omega
  have hQw2 : Q ≤ w2.heap.size := by omega
  clear hw3 hQ
  have hT3 := hT2.ext hx3
  have hx03 := hx02.trans hx3
  have hC3 : CapsP w3 (H + 1) (Q + 1) Q H ob oo oc A.t T.wide j (T.ent i j) T.den (T.row i) :=
    ⟨⟨(hx3.cell (p := ⟨H + 1, 0, none⟩) (by show H + 1 < _; omega)).trans hbj2, by omega⟩, ⟨hbd3, by omega⟩, ⟨hbo3, by omega⟩, ⟨(hx3.cell (p := ⟨H, 0, none⟩) (by show H < _; omega)).trans hbt2, by omega⟩, ⟨hT3.c5, hT3.tIn.2⟩,
      fun k hk => (hx3.cell (p := ⟨ob, oo + k, none⟩) (by show ob < _; omega)).trans (HO.out k hk), by omega⟩
  have hrbH : Hid (∀ k, k < T.rows.length → A.rb k < H) := Lib.hid (fun k hk => by have := (hT.rbIn k hk).2; omega)
  have hgbH : A.gb < H := by have := hT.gbIn.2; omega
  have hbgH : A.bg < H := by have := hT.bgIn.2; omega
  have hdE2 : -1000000000 ≤ T.ent i j ∧ T.ent i j ≤ 1000000000 := (HS.out.row i hi).ent j hj
  have hapR := Lib.hid hT.rbNe
  have hap := hT.ap
  clear hbo3 hbd3 hc2 hbt2 hbj2 hdj hT hT2 HO hIR hdE
  go_loopw [29] (fun q wr => ∃ k : Nat, k ≤ T.rows.length ∧ q = .int .i64 k ∧ TabAt wr B A (stepTo T i j k) ∧ CapsP wr (H + 1) (Q + 1) Q H ob oo oc A.t T.wide j (T.ent i j) T.den (T.row i) ∧ ExtX X w0 wr) (fun q _ => T.rows.length - (intOf q).toNat)
  case atStart => exact ⟨0, by omega, rfl, by rw [stepTo_zero]; exact hT3, hC3, hx03⟩
  case round =>
    obtain ⟨k, hk, rfl, hTk, hC, hx⟩ := hrel
    have hlk := stepTo_len T i j k
    have hwk : (stepTo T i j k).wide = T.wide := rfl
    by_cases hlt : k < T.rows.length
    · have hrk := (hTk.rowC k (by omega)).1
      rw [hwk] at hrk
      by_cases hki : k = i
      · subst hki
        have hb : ((k : Int) != (k : Int)) = false := by simp
        go_wp2_with fail
        exact ⟨⟨k + 1, by omega, rfl, by rw [stepTo_skip]; exact hTk, hC, hx⟩, by simp only [intOf]; omega⟩
      · have hb : ((k : Int) != (i : Int)) = true := by simp; omega
        have hrow := stepTo_row T i j k k hlt
        rw [if_neg (by omega)] at hrow
        have hR := hrbH.out k hlt
        have hne := hapR.out k hlt
        have hcall := step_calls wr (H + 1) (Q + 1) Q H ob oo oc A.t (A.rb k) T.wide j (T.ent i j) T.den (T.row i) (T.row k) hC ⟨by omega, by omega, by omega, by omega, by omega, hne.1⟩ (fun q hq => by
          have := hTk.entC k q (by omega) (by rw [hwk]; exact hq)
          rw [Tab.ent, hrow] at this
          exact this) hj hwide hoc (HS.out.row k hlt) (HS.out.row i hi) hdE2 HS.out.den0
        clear hrow
        go_wp2_with fail
        refine hcall.mono ?_
        rintro e w4 ⟨⟨v, rfl⟩, hg4, hc4⟩
        have hT4 := hTk.setRow (stepTo_one T i j k) (by omega) hg4 (fun q hq => by
          have h1 := hc4 q (by rw [← hwk]; exact hq)
          rw [Tab.ent, stepTo_row _ _ _ _ _ hlt, if_pos ⟨by omega, hki⟩]
          exact h1)
        have hC4 := hC.grown hg4 ⟨by omega, by omega, by omega, by omega, by omega, hne.1⟩
        have hx4 := hx.onto hg4 (fun q hq => by simp only [Option.some.injEq] at hq; subst hq; exact h0.rb k hlt)
        clear hcall hg4 hc4
        go_wp2_with fail
        exact ⟨⟨k + 1, by omega, rfl, hT4, hC4, hx4⟩, by simp only [intOf]; omega⟩
    · obtain rfl : k = T.rows.length := by omega
      have hgk : (stepTo T i j T.rows.length).goal = T.goal := rfl
      have hc3 := hTk.c3
      rw [hwk] at hc3
      have hct := hC.ct.1
      have hcall := step_calls wr (H + 1) (Q + 1) Q H ob oo oc A.t A.gb T.wide j (T.ent i j) T.den (T.row i) T.goal hC ⟨by omega, by omega, by omega, by omega, by omega, fun e => hap.2.2.1 e.symm⟩ (fun q hq => hTk.goalC q hq) hj hwide hoc HS.out.goal (HS.out.row i hi) hdE2 HS.out.den0
      go_wp2_with fail
      refine hcall.mono ?_
      rintro e w4 ⟨⟨v, rfl⟩, hg4, hc4⟩
      have hT4 := hTk.setGoal hg4 hc4
      have hC4 := hC.grown hg4 ⟨by omega, by omega, by omega, by omega, by omega, fun e => hap.2.2.1 e.symm⟩
      have hx4 := hx.onto hg4 (fun q hq => by simp only [Option.some.injEq] at hq; subst hq; exact h0.gb)
      clear hcall hg4 hc4 hct hc3
      have q1 := hC4.ct.1
      have q2 := hC4.cj.1
      have q3 := hC4.cd.1
      have q4 := hT4.c4
      have q5 := hT4.c5
      have q6 := hT4.free 5 (by omega) (by omega)
      have hi2 : i < (stepTo T i j T.rows.length).rows.length := by omega
      have q7 := hT4.basC i hi2
      simp only [stepTo_len] at q4 q7
      have q8 := q7.1
      have q9 := q7.2
      clear q7
      go_wp2_with fail
      go_region
      all_goals
        go_end0
        have hT5 := ((hT4.setBasis hi2 (by show T.basis.length = _; rw [HS.out.bas, hlk]) (j : Int)).setDen (T.ent i j)).ext (Ext.refl _).drew
        exact ⟨⟨_, rfl⟩, hT5, ((hx4.setOwn _ _ h0.bg).setOwn _ _ h0.t).drew⟩
theorem pivot_calls (w0 w : World) (B : Nat) (A : Ats) (T : Tab) (i j : Nat) (hT : TabAt w B A T) (hs : T.Sm) (hx0 : Ext w0 w) (h0 : w0.heap.size ≤ B) (hi : i < T.rows.length) (hj : j < T.wide) :
    Calls Try.prog 107 #[.pointer (some ⟨A.t, 0, none⟩), .int .i64 i, .int .i64 j] w (TabRes w0 B A (pivotP T i j)) :=
  (pivotX_calls (fun _ => False) w0 w B A T i j hT hs (ExtX.of _ hx0) (OnX.of _ hT h0) hi hj).mono fun _ _ h => h.toRes
end Go.Proofs.Ytcngecibljgndaa
