/- RouteMenger: the walk. -/
import Derived.Test.YtmmjjfjbhogfgaaFlowF
import Derived.Test.YtmmjjfjbhogfgaaMengerA
import Derived.Test.YtmmjjfjbhogfgaaLawIs
import Derived.Test.YtmmjjfjbhogfgaaMore
namespace Go.Proofs.Ytmmjjfjbhogfgaa
/-- Has a number been among the first ones? -/
def SeenIn (xs : List Nat) (d q : Nat) (b : Bool) : Prop := b = true ↔ ∃ t, t < q ∧ xs.getD t 0 = d
theorem SeenIn.start (xs : List Nat) (d : Nat) : SeenIn xs d 0 false := ⟨fun h => (by cases h), fun ⟨t, ht, _⟩ => (by omega)⟩
theorem SeenIn.stay {xs : List Nat} {d q : Nat} (h : SeenIn xs d q true) : SeenIn xs d (q + 1) true := ⟨fun _ => (by
  obtain ⟨t, ht, h⟩ := h.1 rfl
  exact ⟨t, by omega, h⟩), fun _ => rfl⟩
theorem SeenIn.yes {xs : List Nat} {d q : Nat} (h : xs.getD q 0 = d) : SeenIn xs d (q + 1) true := ⟨fun _ => ⟨q, by omega, h⟩, fun _ => rfl⟩
theorem SeenIn.no {xs : List Nat} {d q : Nat} (h : SeenIn xs d q false) (hn : xs.getD q 0 ≠ d) : SeenIn xs d (q + 1) false := ⟨fun h => (by cases h), fun ⟨t, ht, e⟩ => (by
  by_cases e2 : t = q
  · subst e2; exact (hn e).elim
  · exact h.2 ⟨t, by omega, e⟩)⟩
theorem SeenIn.end_ {xs : List Nat} {d : Nat} {b : Bool} (h : SeenIn xs d xs.length b) (hd : d ∈ xs) : b = true := h.2 (by
  obtain ⟨t, ht, e⟩ := List.getElem_of_mem hd
  exact ⟨t, ht, by rw [List.getD_eq_getElem?_getD, List.getElem?_eq_getElem ht]; exact e⟩)
theorem keep1 {w1 w2 : World} {b o : Nat} {x : Value} (hb : b < w1.heap.size) (h : w1.cell? ⟨b, o, none⟩ = some x) (he : Ext w1 w2) : w2.cell? ⟨b, o, none⟩ = some x ∧ Ext w1 w2 := ⟨(he.cell hb).trans h, he⟩
theorem take_in {w : World} {ao : Option Addr} {L : List Leg} {d : Nat} (h : LegsIn w ao L) : LegsIn w ao (L.take d) := by
  intro k hk
  rw [List.length_take] at hk
  have e : leg (L.take d) k = leg L k := by simp [leg, List.getD_eq_getElem?_getD, show k < d by omega]
  rw [e]
  exact h k (by omega)
theorem rest_at {w : World} {lb lf cap d : Nat} {L : List Leg} (h : LegsIn w (some ⟨lb, lf, none⟩) L) : ∃ A : Addr, (if cap = d + 1 then (some ⟨lb, lf, none⟩ : Option Addr) else some ⟨lb, lf + (d + 1) * 5, none⟩) = some A ∧ (L.length ≤ cap → LegsIn w (some A) (L.drop (d + 1))) := by
  by_cases e : cap = d + 1
  · refine ⟨⟨lb, lf, none⟩, by rw [if_pos e], fun hc k hk => ?_⟩
    rw [List.length_drop] at hk
    omega
  · refine ⟨⟨lb, lf + (d + 1) * 5, none⟩, by rw [if_neg e], fun _ k hk => ?_⟩
    rw [List.length_drop] at hk
    obtain ⟨b, off, e2, hb, h0, h1, h2, h3, h4⟩ := h (d + 1 + k) (by omega)
    simp only [Option.some.injEq, Addr.mk.injEq, and_true] at e2
    obtain ⟨rfl, rfl⟩ := e2
    rw [leg_drop]
    refine ⟨lb, lf + (d + 1) * 5, rfl, hb, ?_⟩
    rw [show lf + (d + 1) * 5 + k * 5 = lf + (d + 1 + k) * 5 by omega]
    exact ⟨h0, h1, h2, h3, h4⟩
theorem step_append_legsN {P : Program} (w : World) {ops : Array Oper} {o : Oper} {a : Act} {K : Act → World → Prop} {Q : Exit → Act → World → Prop} {E : Prop}
    (hg : o.guard = none) (s x : Operand) (t : TypeId) (hop : o.op = Op.call { callee := Callee.builtin Builtin.append, args := #[s, x], argTypes := #[t, t] })
    (e : TypeId) (i : TypeInfo) (z : Value) (h1 : P.underlying t = some (.slice e)) (h2 : P.info? e = some i) (h3 : i.zero = some z) (h4 : i.size = 5) (h5 : i.bytes = 40) (h6 : z.cells.size = 5)
    (base : Nat) (v : Value) (M : List Leg) (hs : a.eval s = v) (hown : Own w base 5 v (legCells M)) (hbase : base ≤ w.heap.size)
    (ao : Option Addr) (c : Nat) (L : List Leg) (m : Nat) (hm : L.length = m) (hx : a.eval x = .slice ao m c) (hL : LegsIn w ao L) (hM : M.length ≤ 1000) (hLl : L.length ≤ 1000)
    (hK : ∀ v' w', Own w' base 5 v' (legCells (M ++ L)) → w.grownBy w' v.ownBlock → (∀ k, v'.ownBlock = some k → v.ownBlock = some k ∨ w.heap.size ≤ k) → K (a.put o.dst v') w') :
    if Region.wanted o (yielded ops a.tmps) = true then Oper.wp P o a w K Q else E := by
  subst hm
  exact step_append_legs (ops := ops) (E := E) w hg s x t hop e i z h1 h2 h3 h4 h5 h6 base v M hs hown hbase ao c L hx hL hM hLl (K := K) (Q := Q) hK
open Go.ChangeShapes Go.WideShapes Go.ChangeAt Go.RowKit
attribute [local go_sem] Leg.val run_store_fn

set_option maxRecDepth 100000 in
set_option maxHeartbeats 8000000 in
theorem routeMenger_calls (w : World) (n : Int) (ao : Option Addr) (cap : Nat) (L : List Leg) (c src dst at_ by_ : Int) (hL : LegsIn w ao L) (hcap : L.length ≤ cap) (hcm : cap ≤ maxLen) :
    Calls Try.prog 12 #[.int .i64 n, .slice ao L.length cap, .int .i64 c, .int .i64 src, .int .i64 dst, .int .i64 at_, .int .i64 by_] w (TrueRes w) := by
  unfold maxLen at hcm
  have hal : ∀ w2, Ext w w2 → Calls Try.prog 19 #[] w2 fun e w' => e = .returned (.bool true) ∧ Ext w w' := fun w2 hx => (alive_calls w2).mono (fun e w' ⟨he, hx'⟩ => ⟨he, hx.trans hx'⟩)
  obtain ⟨i0, hi, hz0, hz1, hz2⟩ := info_parts info_leg
  go_enter Try.func12, Try.ntmps12
  go_wp2_with fail
  refine (few_calls w ao L.length cap).mono ?_
  rintro e w1 ⟨rfl, hx1⟩
  cases hd : decide (L.length ≤ 80) with
  | false =>
    go_wp2_with fail
    refine (hal _ (hx1)).mono ?_
    rintro e w2 ⟨rfl, hx2⟩
    go_wp2_with fail
    go_ret
    exact ⟨rfl, hx2⟩
  | true =>
    have hl : L.length ≤ 80 := by simpa using hd
    cases hsd : (src == dst) with
    | true =>
      go_wp2_with fail
      refine (hal _ (hx1)).mono ?_
      rintro e w2 ⟨rfl, hx2⟩
      go_wp2_with fail
      go_ret
      exact ⟨rfl, hx2⟩
    | false =>
      have hnd : src ≠ dst := by simpa using hsd
      have HND := Lib.hid hnd
      clear hnd
      go_wp2_with fail
      refine (bigNeeded_calls w1 n ao cap L c src dst at_ by_ (hL.ext hx1) (by omega)).mono ?_
      rintro e w2 ⟨v, R, er, rfl, ho, hRl, hN, hx2⟩
      have hx02 := hx1.trans hx2
      have HN := Lib.hid hN
      clear hN
      obtain ⟨no, ncap, rfl, hni, -⟩ := ho.intsShape
      rw [nats_length]
      clear ho
      go_wp2_with fail
      refine (apart_calls w2 n ao cap L c src dst at_ by_ (hL.ext hx02) (by omega)).mono ?_
      rintro e w3 ⟨k, f, rfl, hA, hx3⟩
      have hx03 := hx02.trans hx3
      obtain ⟨rfl, herr⟩ := menger_err HN.out hA
      rcases Decidable.em (er = 0) with he | he
      · subst he
        have HM := Lib.hid (menger_ok HN.out hA HND.out rfl)
        have hkp := HM.out.pos
        have hk1 := HM.out.one
        clear hA herr
        have hkd : decide ((k : Int) < 1) = false := by simp only [decide_eq_false_iff_not]; omega
        by_cases hR : 0 < R.length
        · have hk := hk1.2 hR
          have hke : ((k : Int) == 1) = true := by simp only [beq_iff_eq]; omega
          have hRd : decide (0 < (R.length : Int)) = true := by simp only [decide_eq_true_eq]; omega
          clear hk1 hk hkp
          go_wp2_with fail
          refine (earliest_calls w3 n ao cap L c src dst at_ (hL.ext hx03) (by omega)).mono ?_
          rintro e w4 ⟨a, v4, xs, e0, rfl, ho4, hE, hx4⟩
          obtain ⟨he0, hab, hin⟩ := menger_early HM.out HND.out hE
          subst he0
          have HIN := Lib.hid hin
          have hxlen := law_len hE
          clear hE hin
          obtain ⟨xo, xcap, rfl, hxi, -⟩ := ho4.intsShape
          rw [nats_length]
          have hx04 := hx03.trans hx4
          have hni4 := hni.ext (hx3.trans hx4)
          have hab' : decide (by_ < a) = false := by simp only [decide_eq_false_iff_not]; omega
          clear ho4
          go_wp2_with fail
          go_loopw [21] (fun ii ws => ∃ i : Nat, i ≤ R.length ∧ ii = .int .i64 i ∧ Ext w4 ws) (fun ii _ => R.length - (intOf ii).toNat)
          case atStart => exact ⟨0, by omega, rfl, Ext.refl _⟩
          case round =>
            obtain ⟨i, hi2, rfl, hx⟩ := hrel
            by_cases hlt : i < R.length
            · obtain ⟨nb, nf, hno, hnb, hcn⟩ := (hni4.ext hx) i (by rw [nats_length]; exact hlt)
              subst hno
              rw [ith_nats] at hcn
              obtain ⟨d, hd⟩ : ∃ d, d = R.getD i 0 := ⟨_, rfl⟩
              have hdm : d ∈ R := by
                rw [hd, List.getD_eq_getElem?_getD, List.getElem?_eq_getElem hlt]
                exact List.getElem_mem hlt
              rw [← hd] at hcn
              have hdl := ((HM.out.need.2 d).1 hdm).1
              have HDM := Lib.hid hdm
              clear hd hdm
              have hcnA := After.cell hcn hnb
              go_wp2_with fail
              go_loopw [23, 22] (fun qq bb ws => ∃ (q : Nat) (b : Bool), q ≤ xs.length ∧ qq = .int .i64 q ∧ bb = .bool b ∧ Ext wr ws ∧ Hid (SeenIn xs d q b)) (fun qq _ _ => xs.length - (intOf qq).toNat)
              case atStart => exact ⟨0, false, by omega, rfl, rfl, Ext.refl _, Lib.hid (SeenIn.start xs d)⟩
              case round =>
                rename World => ws
                obtain ⟨q, b, hq, rfl, rfl, hx2, HB⟩ := hrel
                have hxr := hx.trans hx2
                have hcn2 := (hx2.cell (p := ⟨nb, nf + i, none⟩) hnb).trans hcn
                have hnb2 := Nat.lt_of_lt_of_le hnb hx2.size
                by_cases hlt2 : q < xs.length
                · obtain ⟨xb, xf, hxo, hxb, hcx⟩ := (hxi.ext hxr) q (by rw [nats_length]; exact hlt2)
                  subst hxo
                  rw [ith_nats] at hcx
                  obtain ⟨x0, hx0⟩ : ∃ x0, x0 = xs.getD q 0 := ⟨_, rfl⟩
                  rw [← hx0] at hcx
                  have HXQ := Lib.hid hx0
                  clear hx0
                  cases b with
                  | true =>
                    have HK := Lib.hid HB.out.stay
                    go_wp2_with fail
                    refine wp_region_after (by kernel_rfl) (by kernel_rfl) ?_
                    intro hne
                    repeat (go_big_quiet_step (fail))
                    refine wpQuiet_nil ?_
                    intro w5 hx5
                    go_wp2_with fail
                    exact ⟨⟨q + 1, true, by omega, rfl, rfl, hx2.trans hx5, Lib.hid HK.out⟩, by simp only [intOf]; omega⟩
                  | false =>
                    have hxA := After.cell hcx hxb
                    have hnA := After.cell hcn2 hnb2
                    cases hee : ((x0 : Int) == (d : Int)) with
                    | true =>
                      have he2 : x0 = d := by simp only [beq_iff_eq] at hee; omega
                      have HK := Lib.hid (SeenIn.yes (HXQ.out.symm.trans he2))
                      clear he2
                      go_wp2_with fail
                      refine wp_region_after (by kernel_rfl) (by kernel_rfl) ?_
                      intro hne
                      repeat (go_big_quiet_step (fail))
                      refine wpQuiet_nil ?_
                      intro w5 hx5
                      go_wp2_with fail
                      exact ⟨⟨q + 1, true, by omega, rfl, rfl, hx2.trans hx5, Lib.hid HK.out⟩, by simp only [intOf]; omega⟩
                    | false =>
                      have he2 : x0 ≠ d := fun h => by rw [h] at hee; simp at hee
                      have HK := Lib.hid (HB.out.no (fun h => he2 (HXQ.out.trans h)))
                      clear he2
                      go_wp2_with fail
                      refine wp_region_after (by kernel_rfl) (by kernel_rfl) ?_
                      intro hne
                      repeat (go_big_quiet_step (fail))
                      refine wpQuiet_nil ?_
                      intro w5 hx5
                      go_wp2_with fail
                      exact ⟨⟨q + 1, false, by omega, rfl, rfl, hx2.trans hx5, Lib.hid HK.out⟩, by simp only [intOf]; omega⟩
                · obtain rfl : q = xs.length := by omega
                  have hbt := HB.out.end_ (HIN.out d HDM.out)
                  subst hbt
                  have hLw := hL.ext (hx04.trans hxr)
                  obtain ⟨lb, lf, hlo, hlb, -⟩ := hLw d hdl
                  subst hlo
                  have hdc : (d : Int) < (L.length : Int) := by omega
                  clear hcnA
                  obtain ⟨A, hA1, hA2⟩ := rest_at (L := L) (cap := cap) (d := d) hLw
                  have HA2 := Lib.hid (hA2 hcap)
                  have htl : (L.take d).length = d := by rw [List.length_take]; omega
                  have hdl2 : (L.drop (d + 1)).length = L.length - (d + 1) := List.length_drop
                  clear hA2
                  have hq1 : (d : Int) ≤ (cap : Int) := by omega
                  have hq2 : (d : Int) + 1 ≤ (L.length : Int) := by omega
                  have hq3 : (L.length : Int) ≤ (cap : Int) := by omega
                  have hq4 : (0 : Int) ≤ (d : Int) := by omega
                  have hq5 : (0 : Int) ≤ (d : Int) + 1 := by omega
                  have hq6 : IntKind.i64.wrap ((d : Int) + 1) = (d : Int) + 1 := by rw [IntKind.wrap_i64]; omega
                  have hq7 : (d : Int) + 1 ≤ (cap : Int) := by omega
                  have hq8 : ((d : Int) + 1).toNat = d + 1 := by omega
                  go_wp2_with fail
                  have hx2r : Ext ws ws := Ext.refl _
                  go_region_held3 (fun w' => (w'.cell? ⟨nb, nf + i, none⟩ = some (.int .i64 (d : Int))) ∧ Ext ws w')
                    (first
                      | exact keep1 hnb2 hcn2 hx5
                      | exact keep1 hnb2 hcn2 (hx5.alloc _)
                      | exact keep1 hnb2 hcn2 hx6
                      | exact keep1 hnb2 hcn2 (by repeat (first | exact Ext.refl _ | assumption | refine Ext.alloc ?_ _ | refine Ext.drewN ?_ _ | refine Ext.drew ?_)))
                    ((first
                      | (refine step_append_legsN _ (by rfl) _ _ 22 (by rfl) 38 i0 _ Try.underlying22 hi hz0 hz1 hz2 rfl ws.heap.size _ [] (by rfl) (Own.hollow _ ws.heap.size _ 5 (by simp <;> omega) (by simp <;> omega)) (by simp <;> omega) (some ⟨lb, lf, none⟩) cap (L.take d) d htl (by rfl) ((take_in hLw).ext (by repeat (first | exact Ext.refl _ | assumption | refine Ext.alloc ?_ _ | refine Ext.drewN ?_ _ | refine Ext.drew ?_))) (by simp) (by omega) ?_
                         intro v5 w5 ho5 hg5 hb5
                         have hx5 : Ext ws w5 := (show Ext ws _ from (by repeat (first | exact Ext.refl _ | assumption | refine Ext.alloc ?_ _ | refine Ext.drewN ?_ _ | refine Ext.drew ?_))).onto hg5 (fun k hk => by simp [Value.ownBlock] at hk; omega))
                      | (refine step_append_legsN _ (by rfl) _ _ 22 (by rfl) 38 i0 _ Try.underlying22 hi hz0 hz1 hz2 rfl ws.heap.size _ (L.take d) (by rfl) (by first | exact ho5 | exact ho5.ext ((Ext.refl _).alloc _)) (by have := hx5.size; first | omega | (simp; omega)) (some A) _ (L.drop (d + 1)) _ hdl2 (by rfl) (HA2.out.ext (by first | exact hx5 | exact hx5.alloc _)) (by omega) (by omega) ?_
                         intro v6 w6 ho6 hg6 hb6
                         have hx6 : Ext ws w6 := (show Ext ws _ from (by first | exact hx5 | exact hx5.alloc _)).onto hg6 (fun k hk => (ho5.lt k hk).1)
                         obtain ⟨ro, rcap, rfl, hLx⟩ := ho6.legsShape)))
                  all_goals
                    have hEr : L.take d ++ L.drop (d + 1) = L.eraseIdx d := (List.eraseIdx_eq_take_drop_succ L d).symm
                    have hErl : (L.eraseIdx d).length = d + (L.length - (d + 1)) := by rw [erase_len hdl]; omega
                    rw [hEr] at hLx
                    have hx46 := hxr.trans hx6
                    clear ho5 hg5 hb5 ho6 hg6 hb6 hEr hq1 hq2 hq3 hq4 hq5 hq6 hq7 hq8 hA1 htl hdl2
                    go_wp2_with fail
                    refine (earliest_len w6 n ro rcap (L.eraseIdx d) c src dst at_ hLx (by omega) hErl).mono ?_
                    rintro e w7 ⟨b, v7, ys, fr, rfl, ho7, hE7, hx7⟩
                    have hx47 := hx46.trans hx7
                    clear ho7
                    rcases menger_rest HM.out HND.out HDM.out hE7 with ⟨rfl, hby⟩ | rfl
                    · have hbd : decide (b ≤ by_) = false := by simp only [decide_eq_false_iff_not]; omega
                      clear hE7
                      go_wp2_with fail
                      exact ⟨⟨i + 1, by omega, rfl, hx47⟩, by simp only [intOf]; omega⟩
                    · clear hE7
                      go_wp2_with fail
                      exact ⟨⟨i + 1, by omega, rfl, hx47⟩, by simp only [intOf]; omega⟩
            · go_wp2_with fail
              refine (hal _ ((hx04.trans hx))).mono ?_
              rintro e w2 ⟨rfl, hx2⟩
              go_wp2_with fail
              go_ret
              exact ⟨rfl, hx2⟩
        · have hk : ¬ k = 1 := fun h => hR (hk1.1 h)
          have hke : ((k : Int) == 1) = false := by simp only [beq_eq_false_iff_ne]; omega
          have hRd : decide (0 < (R.length : Int)) = false := by simp only [decide_eq_false_iff_not]; omega
          clear hk1 hk hkp
          go_wp2_with fail
          refine (earliest_calls w3 n ao cap L c src dst at_ (hL.ext hx03) (by omega)).mono ?_
          rintro e w4 ⟨a, v4, xs, e0, rfl, ho4, hE, hx4⟩
          obtain ⟨he0, hab, hin⟩ := menger_early HM.out HND.out hE
          subst he0
          have HIN := Lib.hid hin
          have hxlen := law_len hE
          clear hE hin
          obtain ⟨xo, xcap, rfl, hxi, -⟩ := ho4.intsShape
          rw [nats_length]
          have hx04 := hx03.trans hx4
          have hni4 := hni.ext (hx3.trans hx4)
          have hab' : decide (by_ < a) = false := by simp only [decide_eq_false_iff_not]; omega
          clear ho4
          go_wp2_with fail
          go_loopw [21] (fun ii ws => ∃ i : Nat, i ≤ R.length ∧ ii = .int .i64 i ∧ Ext w4 ws) (fun ii _ => R.length - (intOf ii).toNat)
          case atStart => exact ⟨0, by omega, rfl, Ext.refl _⟩
          case round =>
            obtain ⟨i, hi2, rfl, hx⟩ := hrel
            go_wp2_with fail
            refine (hal _ ((hx04.trans hx))).mono ?_
            rintro e w2 ⟨rfl, hx2⟩
            go_wp2_with fail
            go_ret
            exact ⟨rfl, hx2⟩
      · obtain ⟨rfl, rfl⟩ := herr he
        have he' : (er != 0) = true := by simpa using he
        clear he herr hA
        go_wp2_with fail
        refine (hal _ (hx03)).mono ?_
        rintro e w2 ⟨rfl, hx2⟩
        go_wp2_with fail
        go_ret
        exact ⟨rfl, hx2⟩
end Go.Proofs.Ytmmjjfjbhogfgaa
