/- Apart of the program: the walk. -/
import Derived.Test.YtmmjjfjbhogfgaaMFlowD
namespace Go.Proofs.Ytmmjjfjbhogfgaa
open Go.RowKit
attribute [local go_sem] Leg.val run_store_fn

theorem boxed_set (w : World) (p : Addr) (u : Value) (l : Leg) : LegAt ((w.setCell p u).alloc l.box) w.heap.size l := by
  have := LegAt.boxed (w.setCell p u) l
  rwa [show (w.setCell p u).heap.size = w.heap.size by simp [World.setCell]] at this
set_option maxRecDepth 100000 in
set_option maxHeartbeats 16000000 in
theorem apart_calls (w : World) (n : Int) (ao : Option Addr) (cap : Nat) (L : List Leg) (c src dst at_ by_ : Int) (hL : LegsIn w ao L) (hlen : L.length ≤ 10000000) :
    Calls Try.prog 33 #[.int .i64 n, .slice ao L.length cap, .int .i64 c, .int .i64 src, .int .i64 dst, .int .i64 at_, .int .i64 by_] w (ApartRes w n L c src dst at_ by_) := by
  go_enter Try.func33, Try.ntmps33
  go_wp2_with fail
  have hts := two_ints w 3 at_ by_
  have hx4 : Ext w (w.alloc (Obj.cells #[Value.int IntKind.i64 at_, Value.int IntKind.i64 by_] 3)) := (by repeat (first | exact Ext.refl _ | assumption | refine Ext.alloc ?_ _ | refine Ext.drewN ?_ _ | refine Ext.drew ?_))
  generalize (w.alloc (Obj.cells #[Value.int IntKind.i64 at_, Value.int IntKind.i64 by_] 3)) = w4 at *
  refine (of_calls w4 n ao cap L c src dst _ 2 [at_, by_] (hL.ext hx4) hlen hts (by simp)).mono ?_
  rintro e w5 ⟨hx5, ⟨hg, rfl⟩ | ⟨hg, tb, rfl, htb, hT⟩⟩
  · have hne : (goodE n L c src dst [at_, by_] != 0) = true := by simpa using hg
    have HG := Lib.hid hg
    clear hg
    go_wp2_with fail
    go_ret2
    exact ⟨0, _, rfl, .inl ⟨HG.out, rfl, rfl⟩, hx4.trans hx5⟩
  · have HG := Lib.hid hg
    have hgood := good_iff.1 hg
    have hlen2 := hgood.len
    have hch := hgood.change
    have HF := Lib.hid hgood.fine
    clear hg hgood hts
    have hxw := hx4.trans hx5
    cases hsd : (src == dst) with
    | true =>
      have hsd' : src = dst := by simpa using hsd
      have HS := Lib.hid hsd'
      clear hsd'
      cases hab : decide (by_ < at_) with
      | true =>
        go_wp2_with fail
        go_ret2
        exact ⟨0, _, rfl, .inr (.inl ⟨HG.out, HS.out, rfl, by rw [if_pos (by simpa using hab)]⟩), hxw⟩
      | false =>
        go_wp2_with fail
        go_ret2
        exact ⟨0, _, rfl, .inr (.inl ⟨HG.out, HS.out, rfl, by rw [if_neg (by simpa using hab)]⟩), hxw⟩
    | false =>
      have hsd' : src ≠ dst := by simpa using hsd
      have HS := Lib.hid hsd'
      clear hsd'
      go_wp2_with fail
      refine (within_calls w5 tb n ao cap L c src dst at_ by_ hT (hL.ext hxw) (by omega) (by omega) HF.out).mono ?_
      rintro e w6 ⟨v, xs, rfl, hov, hxl, hxs, hx6⟩
      have HX := Lib.hid hxs
      clear hxs
      have hx06 := hxw.trans hx6
      obtain ⟨vo, vcap, rfl, hvb, -⟩ := hov.boolsShape
      rw [hxl]
      go_wp2_with fail
      refine (containsB_calls w6 vo vcap xs hvb (by omega) hxl).mono ?_
      rintro e w7 ⟨rfl, hx7⟩
      have hx07 := hx06.trans hx7
      have hx57 := hx6.trans hx7
      have HA : Hid (anyB L.length (bth xs) = true ↔ Goes c L src dst at_ by_) := Lib.hid (any_goes rfl HX.out)
      cases hany : anyB L.length (bth xs) with
      | false =>
        have HN : Hid (¬ Goes c L src dst at_ by_) := Lib.hid (fun h => by rw [HA.out.2 h] at hany; cases hany)
        go_wp2_with fail
        go_ret2
        exact ⟨0, _, rfl, .inr (.inr (.inl ⟨HG.out, HS.out, HN.out, rfl, rfl⟩)), hx07⟩
      | true =>
        have HGO := Lib.hid (HA.out.1 hany)
        clear hany
        have hvb7 := hvb.ext hx7
        have hT7 := hT.ext hx57
        have hL7 := hL.ext hx07
        go_wp2_with fail
        have hnn : (2 : Int) * (L.length : Int) + 2 = ((2 * L.length + 2 : Nat) : Int) := by omega
        rw [hnn]
        clear hnn
        refine (newFlow_calls w7 (2 * L.length + 2) (by omega) (by omega)).mono ?_
        rintro e w8 ⟨fb, g, off, gcap, rb, rfl, hN, hx8⟩
        obtain ⟨N, hND⟩ : ∃ N, N = 2 * L.length + 2 := ⟨_, rfl⟩
        rw [← hND] at hN
        have HND := Lib.hid hND
        have hN1 : 2 * L.length + 2 ≤ N := by omega
        have hN2 : N ≤ 1000 := by omega
        clear hND
        go_wp2_with fail
        go_loopw [61] (fun ii ws => ∃ (i : Nat) (M : Nat → Nat → Int), i ≤ L.length ∧ ii = .int .i64 i ∧ Ext w7 ws ∧ Net ws w7.heap.size fb g off gcap N rb M ∧ Hid (IsCap (ArcsOf c L src dst at_ by_ (fun i => bth xs i = true) i) M)) (fun ii _ => L.length - (intOf ii).toNat)
        case atStart => exact ⟨0, _, by omega, rfl, hx8, hN, Lib.hid (fun u v => (if_neg (fun ⟨i, hi, _⟩ => by omega)).symm)⟩
        case round =>
          clear hN hx8
          obtain ⟨i, M, hi2, rfl, hx, hN, HC⟩ := hrel
          by_cases hlt : i < L.length
          · obtain ⟨lb, lf, hao, hlb, h0, h1, h2, h3, h4⟩ := (hL7.ext hx) i hlt
            subst hao
            obtain ⟨vb, vf, hvo, hvbl, hck⟩ := (hvb7.ext hx) i (by omega)
            subst hvo
            cases hb : bth xs i with
            | false =>
              rw [hb] at hck
              have HK := Lib.hid (HC.out.congr (S' := ArcsOf c L src dst at_ by_ (fun i => bth xs i = true) (i + 1)) (fun u v => by
                constructor
                · rintro ⟨k, hk, h, h'⟩
                  refine ⟨k, ?_, h, h'⟩
                  by_cases e : k = i
                  · subst e; rw [hb] at h; cases h
                  · omega
                · rintro ⟨k, hk, h⟩
                  exact ⟨k, by omega, h⟩))
              clear hb
              go_wp2_with fail
              exact ⟨⟨i + 1, M, by omega, rfl, hx.alloc _, hN.ext ((Ext.refl _).alloc _), Lib.hid HK.out⟩, by simp only [intOf]; omega⟩
            | true =>
              rw [hb] at hck
              have HBI := Lib.hid hb
              clear hb
              have hbc := hN.boxCell
              have hbl := hN.box.2
              have htl := hN.top
              have htp := hN.topCell (2 + 2 * i) (by omega)
              obtain ⟨hcp1, hcp2⟩ := hN.rows.cell (2 + 2 * i) (3 + 2 * i) (by omega) (by omega)
              have hlp := hN.rows.low (2 + 2 * i) (by omega)
              go_wp2_with fail
              have hNs := (hN.set (i := 2 + 2 * i) (j := 3 + 2 * i) (by omega) (by omega) 1).ext ((Ext.refl _).alloc (leg L i).box)
              have HC1 := Lib.hid (HC.out.add (i := 2 + 2 * i) (j := 3 + 2 * i) (S' := fun u v => (u = 2 + 2 * i ∧ v = 3 + 2 * i) ∨ ArcsOf c L src dst at_ by_ (fun i => bth xs i = true) i u v) (fun u v => Iff.rfl))
              have hxs := (hx.setOwn ⟨rb (2 + 2 * i), 3 + 2 * i, none⟩ (.int .i64 1) hlp.1).alloc (leg L i).box
              have hBs := boxed_set wr ⟨rb (2 + 2 * i), 3 + 2 * i, none⟩ (.int .i64 1) (leg L i)
              have hrbl : ∀ u, u < N → rb u < wr.heap.size := fun u hu => (hN.rows.low u hu).2
              obtain ⟨bx, hbx⟩ : ∃ bx, bx = wr.heap.size := ⟨_, rfl⟩
              rw [← hbx] at hBs hrbl ⊢
              simp only [Leg.box] at hNs hxs hBs
              clear hbc hbl htl htp hcp1 hcp2 hlp h0 h1 h2 h3 h4 hN HC hck hx hbx hlb hvbl
              generalize hM1 : (fun a b => if a = 2 + 2 * i ∧ b = 3 + 2 * i then (1 : Int) else M a b) = M1 at *
              clear hM1 M
              generalize ((wr.setCell ⟨rb (2 + 2 * i), 3 + 2 * i, none⟩ (Value.int IntKind.i64 1)).alloc (Obj.cells #[Value.int IntKind.i64 (leg L i).From, Value.int IntKind.i64 (leg L i).To, Value.int IntKind.i64 (leg L i).Dep, Value.int IntKind.i64 (leg L i).Arr, Value.int IntKind.i64 (leg L i).Line] 38)) = w1 at *
              refine (begins_calls w1 (leg L i) src at_).mono ?_
              rintro e w2 ⟨rfl, hx2⟩
              have hNs := hNs.ext hx2
              have hxs := hxs.trans hx2
              have hBs := hBs.ext hx2
              clear hx2
              have hne0 : rb 0 ≠ fb ∧ rb 0 ≠ g ∧ rb 0 ≠ rb (3 + 2 * i) ∧ rb 0 ≠ bx := ⟨(hNs.free 0 (by omega)).1, (hNs.free 0 (by omega)).2, hNs.rows.apart 0 (3 + 2 * i) (by omega) (by omega) (by omega), by have := hrbl 0 (by omega); omega⟩
              have hne3 : rb (3 + 2 * i) ≠ fb ∧ rb (3 + 2 * i) ≠ g ∧ rb (3 + 2 * i) ≠ bx := ⟨(hNs.free _ (by omega)).1, (hNs.free _ (by omega)).2, by have := hrbl (3 + 2 * i) (by omega); omega⟩
              obtain ⟨hn01, hn02, hn03, hn04⟩ := hne0
              obtain ⟨hn31, hn32, hn34⟩ := hne3
              have hbc := hNs.boxCell
              have hbl := hNs.box.2
              have htl := hNs.top
              have htp := hNs.topCell 0 (by omega)
              rw [Nat.add_zero] at htp
              have htp3 := hNs.topCell (3 + 2 * i) (by omega)
              obtain ⟨hcp1, hcp2⟩ := hNs.rows.cell 0 (2 + 2 * i) (by omega) (by omega)
              obtain ⟨hcp31, hcp32⟩ := hNs.rows.cell (3 + 2 * i) 1 (by omega) (by omega)
              have hlp := hNs.rows.low 0 (by omega)
              have hlp3 := hNs.rows.low (3 + 2 * i) (by omega)
              have hNp : (0 : Int) < (N : Int) := by omega
              have hNp1 : (1 : Int) < (N : Int) := by omega
              obtain ⟨hBl, hB0, hB1, hB2, hB3, hB4⟩ := id hBs
              cases hbeg : begB src at_ (leg L i) with
              | true =>
                have HBEG := Lib.hid hbeg
                clear hbeg
                have hNa := hNs.set (i := 0) (j := 2 + 2 * i) (by omega) (by omega) 1
                have HCa := Lib.hid (HC1.out.add (i := 0) (j := 2 + 2 * i) (S' := fun u v => (u = 0 ∧ v = 2 + 2 * i) ∨ ((u = 2 + 2 * i ∧ v = 3 + 2 * i) ∨ ArcsOf c L src dst at_ by_ (fun i => bth xs i = true) i u v)) (fun u v => Iff.rfl))
                have hxa := hxs.setOwn ⟨rb 0, 2 + 2 * i, none⟩ (.int .i64 1) hlp.1
                have hBa := hBs.grown (grownBy_setCell w2 ⟨rb 0, 2 + 2 * i, none⟩ (.int .i64 1)) (by simp only [ne_eq, Option.some.injEq]; exact fun e => hn04 e.symm)
                cases hto : ((leg L i).To == dst) with
                | false =>
                  have HE := Lib.hid (HCa.out.congr (S' := fun u v => ArcsOf c L src dst at_ by_ (fun i => bth xs i = true) i u v ∨ ArcOf c L src dst at_ by_ (fun i => bth xs i = true) i 0 u v) (fun u v => by
                    have hl : ¬ lastB dst by_ (leg L i) = true := fun h => by have h' : (leg L i).To = dst ∧ (leg L i).Arr ≤ by_ := of_decide_eq_true h; rw [h'.1] at hto; simp at hto
                    simp only [ArcOf, ArcTo, HBEG.out, hl, Bool.false_eq_true, true_and, false_and, Nat.not_lt_zero, exists_false, or_false]
                    exact by
                      constructor
                      · rintro (h | h | h)
                        all_goals first | (left; exact h) | (right; left; exact h) | (right; right; left; exact h) | (right; right; right; exact h) | (right; right; exact h) | (right; exact h)
                      · rintro (h | h | h)
                        all_goals first | (left; exact h) | (right; left; exact h) | (right; right; left; exact h) | (right; right; right; exact h) | (right; right; exact h) | (right; exact h)))
                  go_wp2_with fail
                  have HNn := hNa
                  have HXx := hxa
                  have HBb := hBa
                  clear hbc hbl htl htp htp3 hcp1 hcp2 hcp31 hcp32 hlp hlp3 hBl hB0 hB1 hB2 hB3 hB4
                  go_loopw [120] (fun jj ws => ∃ (j : Nat) (M : Nat → Nat → Int), j ≤ L.length ∧ jj = .int .i64 j ∧ Ext w7 ws ∧ LegAt ws bx (leg L i) ∧ Net ws w7.heap.size fb g off gcap N rb M ∧ Hid (IsCap (fun u v => ArcsOf c L src dst at_ by_ (fun i => bth xs i = true) i u v ∨ ArcOf c L src dst at_ by_ (fun i => bth xs i = true) i j u v) M)) (fun jj _ => L.length - (intOf jj).toNat)
                  case atStart => exact ⟨0, _, by omega, rfl, HXx, HBb, HNn, HE⟩
                  case round =>
                    rename World => ws
                    clear HNn HXx HBb
                    obtain ⟨j, M, hj2, rfl, hx, hB, hN, HC⟩ := hrel
                    by_cases hlt2 : j < L.length
                    · obtain ⟨lb', lf', hao, hlb, h0, h1, h2, h3, h4⟩ := (hL7.ext hx) j hlt2
                      simp only [Option.some.injEq, Addr.mk.injEq, and_true] at hao
                      obtain ⟨rfl, rfl⟩ := hao
                      obtain ⟨vb', vf', hvo, hvbl, hck⟩ := (hvb7.ext hx) j (by omega)
                      simp only [Option.some.injEq, Addr.mk.injEq, and_true] at hvo
                      obtain ⟨rfl, rfl⟩ := hvo
                      cases hb : bth xs j with
                      | false =>
                        rw [hb] at hck
                        have HK := Lib.hid (HC.out.congr (S' := fun u v => ArcsOf c L src dst at_ by_ (fun i => bth xs i = true) i u v ∨ ArcOf c L src dst at_ by_ (fun i => bth xs i = true) i (j + 1) u v) (fun u v => or_congr Iff.rfl (arcTo_no (fun h => by rw [hb] at h; cases h.1))))
                        clear hb
                        go_wp2_with fail
                        exact ⟨⟨j + 1, M, by omega, rfl, hx.alloc _, hB.ext ((Ext.refl _).alloc _), hN.ext ((Ext.refl _).alloc _), Lib.hid HK.out⟩, by simp only [intOf]; omega⟩
                      | true =>
                        rw [hb] at hck
                        have HBJ := Lib.hid hb
                        clear hb
                        obtain ⟨hBl, hB0, hB1, hB2, hB3, hB4⟩ := id hB
                        have hTc := hT7.ext hx
                        have hfin := HF.out i hlt
                        unfold Fine at hfin
                        have harr : 0 ≤ (leg L i).Arr ∧ (leg L i).Arr ≤ 10000 := by omega
                        clear hfin
                        have hxA : Ext ws (ws.alloc (leg L j).box) := (Ext.refl _).alloc _
                        go_wp2_with fail
                        refine (follows_calls _ tb 0 (leg L i) (leg L j) c (Nat.lt_of_lt_of_le hTc.lt hxA.size) (hTc.ext hxA).change harr (by omega)).mono ?_
                        rintro e w4' ⟨rfl, hx4'⟩
                        have hxAB := hxA.trans hx4'
                        have hN4 := hN.ext hxAB
                        have hB4' := hB.ext hxAB
                        have hx74 := hx.trans hxAB
                        clear hBl hB0 hB1 hB2 hB3 hB4 hck hvbl hlb h0 h1 h2 h3 h4
                        cases hfo : folB c (leg L i) (leg L j) with
                        | false =>
                          have HK := Lib.hid (HC.out.congr (S' := fun u v => ArcsOf c L src dst at_ by_ (fun i => bth xs i = true) i u v ∨ ArcOf c L src dst at_ by_ (fun i => bth xs i = true) i (j + 1) u v) (fun u v => or_congr Iff.rfl (arcTo_no (fun h => by have := h.2; unfold folL at this; rw [hfo] at this; cases this))))
                          clear hfo
                          go_wp2_with fail
                          exact ⟨⟨j + 1, M, by omega, rfl, hx74, hB4', hN4, Lib.hid HK.out⟩, by simp only [intOf]; omega⟩
                        | true =>
                          have HK := Lib.hid (HC.out.add (i := 3 + 2 * i) (j := 2 + 2 * j) (S' := fun u v => ArcsOf c L src dst at_ by_ (fun i => bth xs i = true) i u v ∨ ArcOf c L src dst at_ by_ (fun i => bth xs i = true) i (j + 1) u v) (fun u v => by
                            unfold ArcOf
                            rw [arcTo_yes ⟨HBJ.out, hfo⟩]
                            exact by
                              constructor
                              · rintro (h | h | h)
                                all_goals first | (left; exact h) | (right; left; exact h) | (right; right; left; exact h) | (right; right; right; exact h) | (right; right; exact h) | (right; exact h)
                              · rintro (h | h | h)
                                all_goals first | (left; exact h) | (right; left; exact h) | (right; right; left; exact h) | (right; right; right; exact h) | (right; right; exact h) | (right; exact h)))
                          clear hfo
                          have hbc := hN4.boxCell
                          have hbl := hN4.box.2
                          have htl := hN4.top
                          have htp := hN4.topCell (3 + 2 * i) (by omega)
                          obtain ⟨hcp1, hcp2⟩ := hN4.rows.cell (3 + 2 * i) (2 + 2 * j) (by omega) (by omega)
                          have hlp := hN4.rows.low (3 + 2 * i) (by omega)
                          go_wp2_with fail
                          exact ⟨⟨j + 1, _, by omega, rfl, hx74.setOwn _ _ hlp.1, hB4'.grown (grownBy_setCell _ _ _) (by simp only [ne_eq, Option.some.injEq]; exact fun e => hn34 e.symm), hN4.set (by omega) (by omega) 1, Lib.hid HK.out⟩, by simp only [intOf]; omega⟩
                    · obtain rfl : j = L.length := by omega
                      have HK := Lib.hid (HC.out.congr (S' := ArcsOf c L src dst at_ by_ (fun i => bth xs i = true) (i + 1)) (fun u v => arcs_yes HBI.out))
                      go_wp2_with fail
                      exact ⟨⟨i + 1, M, by omega, rfl, hx, hN, Lib.hid HK.out⟩, by simp only [intOf]; omega⟩
                | true =>
                  cases hat : decide ((leg L i).Arr ≤ by_) with
                  | false =>
                    have HE := Lib.hid (HCa.out.congr (S' := fun u v => ArcsOf c L src dst at_ by_ (fun i => bth xs i = true) i u v ∨ ArcOf c L src dst at_ by_ (fun i => bth xs i = true) i 0 u v) (fun u v => by
                      have hl : ¬ lastB dst by_ (leg L i) = true := fun h => by have h' : (leg L i).To = dst ∧ (leg L i).Arr ≤ by_ := of_decide_eq_true h; have h2 : ¬ (leg L i).Arr ≤ by_ := of_decide_eq_false hat; exact h2 h'.2
                      simp only [ArcOf, ArcTo, HBEG.out, hl, Bool.false_eq_true, true_and, false_and, Nat.not_lt_zero, exists_false, or_false]
                      exact by
                        constructor
                        · rintro (h | h | h)
                          all_goals first | (left; exact h) | (right; left; exact h) | (right; right; left; exact h) | (right; right; right; exact h) | (right; right; exact h) | (right; exact h)
                        · rintro (h | h | h)
                          all_goals first | (left; exact h) | (right; left; exact h) | (right; right; left; exact h) | (right; right; right; exact h) | (right; right; exact h) | (right; exact h)))
                    go_wp2_with fail
                    have HNn := hNa
                    have HXx := hxa
                    have HBb := hBa
                    clear hbc hbl htl htp htp3 hcp1 hcp2 hcp31 hcp32 hlp hlp3 hBl hB0 hB1 hB2 hB3 hB4
                    go_loopw [120] (fun jj ws => ∃ (j : Nat) (M : Nat → Nat → Int), j ≤ L.length ∧ jj = .int .i64 j ∧ Ext w7 ws ∧ LegAt ws bx (leg L i) ∧ Net ws w7.heap.size fb g off gcap N rb M ∧ Hid (IsCap (fun u v => ArcsOf c L src dst at_ by_ (fun i => bth xs i = true) i u v ∨ ArcOf c L src dst at_ by_ (fun i => bth xs i = true) i j u v) M)) (fun jj _ => L.length - (intOf jj).toNat)
                    case atStart => exact ⟨0, _, by omega, rfl, HXx, HBb, HNn, HE⟩
                    case round =>
                      rename World => ws
                      clear HNn HXx HBb
                      obtain ⟨j, M, hj2, rfl, hx, hB, hN, HC⟩ := hrel
                      by_cases hlt2 : j < L.length
                      · obtain ⟨lb', lf', hao, hlb, h0, h1, h2, h3, h4⟩ := (hL7.ext hx) j hlt2
                        simp only [Option.some.injEq, Addr.mk.injEq, and_true] at hao
                        obtain ⟨rfl, rfl⟩ := hao
                        obtain ⟨vb', vf', hvo, hvbl, hck⟩ := (hvb7.ext hx) j (by omega)
                        simp only [Option.some.injEq, Addr.mk.injEq, and_true] at hvo
                        obtain ⟨rfl, rfl⟩ := hvo
                        cases hb : bth xs j with
                        | false =>
                          rw [hb] at hck
                          have HK := Lib.hid (HC.out.congr (S' := fun u v => ArcsOf c L src dst at_ by_ (fun i => bth xs i = true) i u v ∨ ArcOf c L src dst at_ by_ (fun i => bth xs i = true) i (j + 1) u v) (fun u v => or_congr Iff.rfl (arcTo_no (fun h => by rw [hb] at h; cases h.1))))
                          clear hb
                          go_wp2_with fail
                          exact ⟨⟨j + 1, M, by omega, rfl, hx.alloc _, hB.ext ((Ext.refl _).alloc _), hN.ext ((Ext.refl _).alloc _), Lib.hid HK.out⟩, by simp only [intOf]; omega⟩
                        | true =>
                          rw [hb] at hck
                          have HBJ := Lib.hid hb
                          clear hb
                          obtain ⟨hBl, hB0, hB1, hB2, hB3, hB4⟩ := id hB
                          have hTc := hT7.ext hx
                          have hfin := HF.out i hlt
                          unfold Fine at hfin
                          have harr : 0 ≤ (leg L i).Arr ∧ (leg L i).Arr ≤ 10000 := by omega
                          clear hfin
                          have hxA : Ext ws (ws.alloc (leg L j).box) := (Ext.refl _).alloc _
                          go_wp2_with fail
                          refine (follows_calls _ tb 0 (leg L i) (leg L j) c (Nat.lt_of_lt_of_le hTc.lt hxA.size) (hTc.ext hxA).change harr (by omega)).mono ?_
                          rintro e w4' ⟨rfl, hx4'⟩
                          have hxAB := hxA.trans hx4'
                          have hN4 := hN.ext hxAB
                          have hB4' := hB.ext hxAB
                          have hx74 := hx.trans hxAB
                          clear hBl hB0 hB1 hB2 hB3 hB4 hck hvbl hlb h0 h1 h2 h3 h4
                          cases hfo : folB c (leg L i) (leg L j) with
                          | false =>
                            have HK := Lib.hid (HC.out.congr (S' := fun u v => ArcsOf c L src dst at_ by_ (fun i => bth xs i = true) i u v ∨ ArcOf c L src dst at_ by_ (fun i => bth xs i = true) i (j + 1) u v) (fun u v => or_congr Iff.rfl (arcTo_no (fun h => by have := h.2; unfold folL at this; rw [hfo] at this; cases this))))
                            clear hfo
                            go_wp2_with fail
                            exact ⟨⟨j + 1, M, by omega, rfl, hx74, hB4', hN4, Lib.hid HK.out⟩, by simp only [intOf]; omega⟩
                          | true =>
                            have HK := Lib.hid (HC.out.add (i := 3 + 2 * i) (j := 2 + 2 * j) (S' := fun u v => ArcsOf c L src dst at_ by_ (fun i => bth xs i = true) i u v ∨ ArcOf c L src dst at_ by_ (fun i => bth xs i = true) i (j + 1) u v) (fun u v => by
                              unfold ArcOf
                              rw [arcTo_yes ⟨HBJ.out, hfo⟩]
                              exact by
                                constructor
                                · rintro (h | h | h)
                                  all_goals first | (left; exact h) | (right; left; exact h) | (right; right; left; exact h) | (right; right; right; exact h) | (right; right; exact h) | (right; exact h)
                                · rintro (h | h | h)
                                  all_goals first | (left; exact h) | (right; left; exact h) | (right; right; left; exact h) | (right; right; right; exact h) | (right; right; exact h) | (right; exact h)))
                            clear hfo
                            have hbc := hN4.boxCell
                            have hbl := hN4.box.2
                            have htl := hN4.top
                            have htp := hN4.topCell (3 + 2 * i) (by omega)
                            obtain ⟨hcp1, hcp2⟩ := hN4.rows.cell (3 + 2 * i) (2 + 2 * j) (by omega) (by omega)
                            have hlp := hN4.rows.low (3 + 2 * i) (by omega)
                            go_wp2_with fail
                            exact ⟨⟨j + 1, _, by omega, rfl, hx74.setOwn _ _ hlp.1, hB4'.grown (grownBy_setCell _ _ _) (by simp only [ne_eq, Option.some.injEq]; exact fun e => hn34 e.symm), hN4.set (by omega) (by omega) 1, Lib.hid HK.out⟩, by simp only [intOf]; omega⟩
                      · obtain rfl : j = L.length := by omega
                        have HK := Lib.hid (HC.out.congr (S' := ArcsOf c L src dst at_ by_ (fun i => bth xs i = true) (i + 1)) (fun u v => arcs_yes HBI.out))
                        go_wp2_with fail
                        exact ⟨⟨i + 1, M, by omega, rfl, hx, hN, Lib.hid HK.out⟩, by simp only [intOf]; omega⟩
                  | true =>
                    have hNb := hNa.set (i := 3 + 2 * i) (j := 1) (by omega) (by omega) 1
                    have HCb := Lib.hid (HCa.out.add (i := 3 + 2 * i) (j := 1) (S' := fun u v => (u = 3 + 2 * i ∧ v = 1) ∨ ((u = 0 ∧ v = 2 + 2 * i) ∨ ((u = 2 + 2 * i ∧ v = 3 + 2 * i) ∨ ArcsOf c L src dst at_ by_ (fun i => bth xs i = true) i u v))) (fun u v => Iff.rfl))
                    have hxb := hxa.setOwn ⟨rb (3 + 2 * i), 1, none⟩ (.int .i64 1) hlp3.1
                    have hBb := hBa.grown (grownBy_setCell (w2.setCell ⟨rb 0, 2 + 2 * i, none⟩ (.int .i64 1)) ⟨rb (3 + 2 * i), 1, none⟩ (.int .i64 1)) (by simp only [ne_eq, Option.some.injEq]; exact fun e => hn34 e.symm)
                    have HE := Lib.hid (HCb.out.congr (S' := fun u v => ArcsOf c L src dst at_ by_ (fun i => bth xs i = true) i u v ∨ ArcOf c L src dst at_ by_ (fun i => bth xs i = true) i 0 u v) (fun u v => by
                      have hl : lastB dst by_ (leg L i) = true := by
                        have h1 : (leg L i).To = dst := by simpa using hto
                        have h2 : (leg L i).Arr ≤ by_ := by simpa using hat
                        simp [lastB, h1, h2]
                      simp only [ArcOf, ArcTo, HBEG.out, hl, true_and, Nat.not_lt_zero, false_and, exists_false, or_false]
                      exact by
                        constructor
                        · rintro (h | h | h | h)
                          all_goals first | (left; exact h) | (right; left; exact h) | (right; right; left; exact h) | (right; right; right; exact h) | (right; right; exact h) | (right; exact h)
                        · rintro (h | h | h | h)
                          all_goals first | (left; exact h) | (right; left; exact h) | (right; right; left; exact h) | (right; right; right; exact h) | (right; right; exact h) | (right; exact h)))
                    go_wp2_with fail
                    have HNn := hNb
                    have HXx := hxb
                    have HBb := hBb
                    clear hbc hbl htl htp htp3 hcp1 hcp2 hcp31 hcp32 hlp hlp3 hBl hB0 hB1 hB2 hB3 hB4
                    go_loopw [120] (fun jj ws => ∃ (j : Nat) (M : Nat → Nat → Int), j ≤ L.length ∧ jj = .int .i64 j ∧ Ext w7 ws ∧ LegAt ws bx (leg L i) ∧ Net ws w7.heap.size fb g off gcap N rb M ∧ Hid (IsCap (fun u v => ArcsOf c L src dst at_ by_ (fun i => bth xs i = true) i u v ∨ ArcOf c L src dst at_ by_ (fun i => bth xs i = true) i j u v) M)) (fun jj _ => L.length - (intOf jj).toNat)
                    case atStart => exact ⟨0, _, by omega, rfl, HXx, HBb, HNn, HE⟩
                    case round =>
                      rename World => ws
                      clear HNn HXx HBb
                      obtain ⟨j, M, hj2, rfl, hx, hB, hN, HC⟩ := hrel
                      by_cases hlt2 : j < L.length
                      · obtain ⟨lb', lf', hao, hlb, h0, h1, h2, h3, h4⟩ := (hL7.ext hx) j hlt2
                        simp only [Option.some.injEq, Addr.mk.injEq, and_true] at hao
                        obtain ⟨rfl, rfl⟩ := hao
                        obtain ⟨vb', vf', hvo, hvbl, hck⟩ := (hvb7.ext hx) j (by omega)
                        simp only [Option.some.injEq, Addr.mk.injEq, and_true] at hvo
                        obtain ⟨rfl, rfl⟩ := hvo
                        cases hb : bth xs j with
                        | false =>
                          rw [hb] at hck
                          have HK := Lib.hid (HC.out.congr (S' := fun u v => ArcsOf c L src dst at_ by_ (fun i => bth xs i = true) i u v ∨ ArcOf c L src dst at_ by_ (fun i => bth xs i = true) i (j + 1) u v) (fun u v => or_congr Iff.rfl (arcTo_no (fun h => by rw [hb] at h; cases h.1))))
                          clear hb
                          go_wp2_with fail
                          exact ⟨⟨j + 1, M, by omega, rfl, hx.alloc _, hB.ext ((Ext.refl _).alloc _), hN.ext ((Ext.refl _).alloc _), Lib.hid HK.out⟩, by simp only [intOf]; omega⟩
                        | true =>
                          rw [hb] at hck
                          have HBJ := Lib.hid hb
                          clear hb
                          obtain ⟨hBl, hB0, hB1, hB2, hB3, hB4⟩ := id hB
                          have hTc := hT7.ext hx
                          have hfin := HF.out i hlt
                          unfold Fine at hfin
                          have harr : 0 ≤ (leg L i).Arr ∧ (leg L i).Arr ≤ 10000 := by omega
                          clear hfin
                          have hxA : Ext ws (ws.alloc (leg L j).box) := (Ext.refl _).alloc _
                          go_wp2_with fail
                          refine (follows_calls _ tb 0 (leg L i) (leg L j) c (Nat.lt_of_lt_of_le hTc.lt hxA.size) (hTc.ext hxA).change harr (by omega)).mono ?_
                          rintro e w4' ⟨rfl, hx4'⟩
                          have hxAB := hxA.trans hx4'
                          have hN4 := hN.ext hxAB
                          have hB4' := hB.ext hxAB
                          have hx74 := hx.trans hxAB
                          clear hBl hB0 hB1 hB2 hB3 hB4 hck hvbl hlb h0 h1 h2 h3 h4
                          cases hfo : folB c (leg L i) (leg L j) with
                          | false =>
                            have HK := Lib.hid (HC.out.congr (S' := fun u v => ArcsOf c L src dst at_ by_ (fun i => bth xs i = true) i u v ∨ ArcOf c L src dst at_ by_ (fun i => bth xs i = true) i (j + 1) u v) (fun u v => or_congr Iff.rfl (arcTo_no (fun h => by have := h.2; unfold folL at this; rw [hfo] at this; cases this))))
                            clear hfo
                            go_wp2_with fail
                            exact ⟨⟨j + 1, M, by omega, rfl, hx74, hB4', hN4, Lib.hid HK.out⟩, by simp only [intOf]; omega⟩
                          | true =>
                            have HK := Lib.hid (HC.out.add (i := 3 + 2 * i) (j := 2 + 2 * j) (S' := fun u v => ArcsOf c L src dst at_ by_ (fun i => bth xs i = true) i u v ∨ ArcOf c L src dst at_ by_ (fun i => bth xs i = true) i (j + 1) u v) (fun u v => by
                              unfold ArcOf
                              rw [arcTo_yes ⟨HBJ.out, hfo⟩]
                              exact by
                                constructor
                                · rintro (h | h | h)
                                  all_goals first | (left; exact h) | (right; left; exact h) | (right; right; left; exact h) | (right; right; right; exact h) | (right; right; exact h) | (right; exact h)
                                · rintro (h | h | h)
                                  all_goals first | (left; exact h) | (right; left; exact h) | (right; right; left; exact h) | (right; right; right; exact h) | (right; right; exact h) | (right; exact h)))
                            clear hfo
                            have hbc := hN4.boxCell
                            have hbl := hN4.box.2
                            have htl := hN4.top
                            have htp := hN4.topCell (3 + 2 * i) (by omega)
                            obtain ⟨hcp1, hcp2⟩ := hN4.rows.cell (3 + 2 * i) (2 + 2 * j) (by omega) (by omega)
                            have hlp := hN4.rows.low (3 + 2 * i) (by omega)
                            go_wp2_with fail
                            exact ⟨⟨j + 1, _, by omega, rfl, hx74.setOwn _ _ hlp.1, hB4'.grown (grownBy_setCell _ _ _) (by simp only [ne_eq, Option.some.injEq]; exact fun e => hn34 e.symm), hN4.set (by omega) (by omega) 1, Lib.hid HK.out⟩, by simp only [intOf]; omega⟩
                      · obtain rfl : j = L.length := by omega
                        have HK := Lib.hid (HC.out.congr (S' := ArcsOf c L src dst at_ by_ (fun i => bth xs i = true) (i + 1)) (fun u v => arcs_yes HBI.out))
                        go_wp2_with fail
                        exact ⟨⟨i + 1, M, by omega, rfl, hx, hN, Lib.hid HK.out⟩, by simp only [intOf]; omega⟩
              | false =>
                have HBEG := Lib.hid hbeg
                clear hbeg
                cases hto : ((leg L i).To == dst) with
                | false =>
                  have HE := Lib.hid (HC1.out.congr (S' := fun u v => ArcsOf c L src dst at_ by_ (fun i => bth xs i = true) i u v ∨ ArcOf c L src dst at_ by_ (fun i => bth xs i = true) i 0 u v) (fun u v => by
                    have hl : ¬ lastB dst by_ (leg L i) = true := fun h => by have h' : (leg L i).To = dst ∧ (leg L i).Arr ≤ by_ := of_decide_eq_true h; rw [h'.1] at hto; simp at hto
                    simp only [ArcOf, ArcTo, HBEG.out, hl, Bool.false_eq_true, false_and, Nat.not_lt_zero, exists_false, or_false]
                    exact by
                      constructor
                      · rintro (h | h)
                        all_goals first | (left; exact h) | (right; left; exact h) | (right; right; left; exact h) | (right; right; right; exact h) | (right; right; exact h) | (right; exact h)
                      · rintro (h | h)
                        all_goals first | (left; exact h) | (right; left; exact h) | (right; right; left; exact h) | (right; right; right; exact h) | (right; right; exact h) | (right; exact h)))
                  go_wp2_with fail
                  have HNn := hNs
                  have HXx := hxs
                  have HBb := hBs
                  clear hbc hbl htl htp htp3 hcp1 hcp2 hcp31 hcp32 hlp hlp3 hBl hB0 hB1 hB2 hB3 hB4
                  go_loopw [120] (fun jj ws => ∃ (j : Nat) (M : Nat → Nat → Int), j ≤ L.length ∧ jj = .int .i64 j ∧ Ext w7 ws ∧ LegAt ws bx (leg L i) ∧ Net ws w7.heap.size fb g off gcap N rb M ∧ Hid (IsCap (fun u v => ArcsOf c L src dst at_ by_ (fun i => bth xs i = true) i u v ∨ ArcOf c L src dst at_ by_ (fun i => bth xs i = true) i j u v) M)) (fun jj _ => L.length - (intOf jj).toNat)
                  case atStart => exact ⟨0, _, by omega, rfl, HXx, HBb, HNn, HE⟩
                  case round =>
                    rename World => ws
                    clear HNn HXx HBb
                    obtain ⟨j, M, hj2, rfl, hx, hB, hN, HC⟩ := hrel
                    by_cases hlt2 : j < L.length
                    · obtain ⟨lb', lf', hao, hlb, h0, h1, h2, h3, h4⟩ := (hL7.ext hx) j hlt2
                      simp only [Option.some.injEq, Addr.mk.injEq, and_true] at hao
                      obtain ⟨rfl, rfl⟩ := hao
                      obtain ⟨vb', vf', hvo, hvbl, hck⟩ := (hvb7.ext hx) j (by omega)
                      simp only [Option.some.injEq, Addr.mk.injEq, and_true] at hvo
                      obtain ⟨rfl, rfl⟩ := hvo
                      cases hb : bth xs j with
                      | false =>
                        rw [hb] at hck
                        have HK := Lib.hid (HC.out.congr (S' := fun u v => ArcsOf c L src dst at_ by_ (fun i => bth xs i = true) i u v ∨ ArcOf c L src dst at_ by_ (fun i => bth xs i = true) i (j + 1) u v) (fun u v => or_congr Iff.rfl (arcTo_no (fun h => by rw [hb] at h; cases h.1))))
                        clear hb
                        go_wp2_with fail
                        exact ⟨⟨j + 1, M, by omega, rfl, hx.alloc _, hB.ext ((Ext.refl _).alloc _), hN.ext ((Ext.refl _).alloc _), Lib.hid HK.out⟩, by simp only [intOf]; omega⟩
                      | true =>
                        rw [hb] at hck
                        have HBJ := Lib.hid hb
                        clear hb
                        obtain ⟨hBl, hB0, hB1, hB2, hB3, hB4⟩ := id hB
                        have hTc := hT7.ext hx
                        have hfin := HF.out i hlt
                        unfold Fine at hfin
                        have harr : 0 ≤ (leg L i).Arr ∧ (leg L i).Arr ≤ 10000 := by omega
                        clear hfin
                        have hxA : Ext ws (ws.alloc (leg L j).box) := (Ext.refl _).alloc _
                        go_wp2_with fail
                        refine (follows_calls _ tb 0 (leg L i) (leg L j) c (Nat.lt_of_lt_of_le hTc.lt hxA.size) (hTc.ext hxA).change harr (by omega)).mono ?_
                        rintro e w4' ⟨rfl, hx4'⟩
                        have hxAB := hxA.trans hx4'
                        have hN4 := hN.ext hxAB
                        have hB4' := hB.ext hxAB
                        have hx74 := hx.trans hxAB
                        clear hBl hB0 hB1 hB2 hB3 hB4 hck hvbl hlb h0 h1 h2 h3 h4
                        cases hfo : folB c (leg L i) (leg L j) with
                        | false =>
                          have HK := Lib.hid (HC.out.congr (S' := fun u v => ArcsOf c L src dst at_ by_ (fun i => bth xs i = true) i u v ∨ ArcOf c L src dst at_ by_ (fun i => bth xs i = true) i (j + 1) u v) (fun u v => or_congr Iff.rfl (arcTo_no (fun h => by have := h.2; unfold folL at this; rw [hfo] at this; cases this))))
                          clear hfo
                          go_wp2_with fail
                          exact ⟨⟨j + 1, M, by omega, rfl, hx74, hB4', hN4, Lib.hid HK.out⟩, by simp only [intOf]; omega⟩
                        | true =>
                          have HK := Lib.hid (HC.out.add (i := 3 + 2 * i) (j := 2 + 2 * j) (S' := fun u v => ArcsOf c L src dst at_ by_ (fun i => bth xs i = true) i u v ∨ ArcOf c L src dst at_ by_ (fun i => bth xs i = true) i (j + 1) u v) (fun u v => by
                            unfold ArcOf
                            rw [arcTo_yes ⟨HBJ.out, hfo⟩]
                            exact by
                              constructor
                              · rintro (h | h | h)
                                all_goals first | (left; exact h) | (right; left; exact h) | (right; right; left; exact h) | (right; right; right; exact h) | (right; right; exact h) | (right; exact h)
                              · rintro (h | h | h)
                                all_goals first | (left; exact h) | (right; left; exact h) | (right; right; left; exact h) | (right; right; right; exact h) | (right; right; exact h) | (right; exact h)))
                          clear hfo
                          have hbc := hN4.boxCell
                          have hbl := hN4.box.2
                          have htl := hN4.top
                          have htp := hN4.topCell (3 + 2 * i) (by omega)
                          obtain ⟨hcp1, hcp2⟩ := hN4.rows.cell (3 + 2 * i) (2 + 2 * j) (by omega) (by omega)
                          have hlp := hN4.rows.low (3 + 2 * i) (by omega)
                          go_wp2_with fail
                          exact ⟨⟨j + 1, _, by omega, rfl, hx74.setOwn _ _ hlp.1, hB4'.grown (grownBy_setCell _ _ _) (by simp only [ne_eq, Option.some.injEq]; exact fun e => hn34 e.symm), hN4.set (by omega) (by omega) 1, Lib.hid HK.out⟩, by simp only [intOf]; omega⟩
                    · obtain rfl : j = L.length := by omega
                      have HK := Lib.hid (HC.out.congr (S' := ArcsOf c L src dst at_ by_ (fun i => bth xs i = true) (i + 1)) (fun u v => arcs_yes HBI.out))
                      go_wp2_with fail
                      exact ⟨⟨i + 1, M, by omega, rfl, hx, hN, Lib.hid HK.out⟩, by simp only [intOf]; omega⟩
                | true =>
                  cases hat : decide ((leg L i).Arr ≤ by_) with
                  | false =>
                    have HE := Lib.hid (HC1.out.congr (S' := fun u v => ArcsOf c L src dst at_ by_ (fun i => bth xs i = true) i u v ∨ ArcOf c L src dst at_ by_ (fun i => bth xs i = true) i 0 u v) (fun u v => by
                      have hl : ¬ lastB dst by_ (leg L i) = true := fun h => by have h' : (leg L i).To = dst ∧ (leg L i).Arr ≤ by_ := of_decide_eq_true h; have h2 : ¬ (leg L i).Arr ≤ by_ := of_decide_eq_false hat; exact h2 h'.2
                      simp only [ArcOf, ArcTo, HBEG.out, hl, Bool.false_eq_true, false_and, Nat.not_lt_zero, exists_false, or_false]
                      exact by
                        constructor
                        · rintro (h | h)
                          all_goals first | (left; exact h) | (right; left; exact h) | (right; right; left; exact h) | (right; right; right; exact h) | (right; right; exact h) | (right; exact h)
                        · rintro (h | h)
                          all_goals first | (left; exact h) | (right; left; exact h) | (right; right; left; exact h) | (right; right; right; exact h) | (right; right; exact h) | (right; exact h)))
                    go_wp2_with fail
                    have HNn := hNs
                    have HXx := hxs
                    have HBb := hBs
                    clear hbc hbl htl htp htp3 hcp1 hcp2 hcp31 hcp32 hlp hlp3 hBl hB0 hB1 hB2 hB3 hB4
                    go_loopw [120] (fun jj ws => ∃ (j : Nat) (M : Nat → Nat → Int), j ≤ L.length ∧ jj = .int .i64 j ∧ Ext w7 ws ∧ LegAt ws bx (leg L i) ∧ Net ws w7.heap.size fb g off gcap N rb M ∧ Hid (IsCap (fun u v => ArcsOf c L src dst at_ by_ (fun i => bth xs i = true) i u v ∨ ArcOf c L src dst at_ by_ (fun i => bth xs i = true) i j u v) M)) (fun jj _ => L.length - (intOf jj).toNat)
                    case atStart => exact ⟨0, _, by omega, rfl, HXx, HBb, HNn, HE⟩
                    case round =>
                      rename World => ws
                      clear HNn HXx HBb
                      obtain ⟨j, M, hj2, rfl, hx, hB, hN, HC⟩ := hrel
                      by_cases hlt2 : j < L.length
                      · obtain ⟨lb', lf', hao, hlb, h0, h1, h2, h3, h4⟩ := (hL7.ext hx) j hlt2
                        simp only [Option.some.injEq, Addr.mk.injEq, and_true] at hao
                        obtain ⟨rfl, rfl⟩ := hao
                        obtain ⟨vb', vf', hvo, hvbl, hck⟩ := (hvb7.ext hx) j (by omega)
                        simp only [Option.some.injEq, Addr.mk.injEq, and_true] at hvo
                        obtain ⟨rfl, rfl⟩ := hvo
                        cases hb : bth xs j with
                        | false =>
                          rw [hb] at hck
                          have HK := Lib.hid (HC.out.congr (S' := fun u v => ArcsOf c L src dst at_ by_ (fun i => bth xs i = true) i u v ∨ ArcOf c L src dst at_ by_ (fun i => bth xs i = true) i (j + 1) u v) (fun u v => or_congr Iff.rfl (arcTo_no (fun h => by rw [hb] at h; cases h.1))))
                          clear hb
                          go_wp2_with fail
                          exact ⟨⟨j + 1, M, by omega, rfl, hx.alloc _, hB.ext ((Ext.refl _).alloc _), hN.ext ((Ext.refl _).alloc _), Lib.hid HK.out⟩, by simp only [intOf]; omega⟩
                        | true =>
                          rw [hb] at hck
                          have HBJ := Lib.hid hb
                          clear hb
                          obtain ⟨hBl, hB0, hB1, hB2, hB3, hB4⟩ := id hB
                          have hTc := hT7.ext hx
                          have hfin := HF.out i hlt
                          unfold Fine at hfin
                          have harr : 0 ≤ (leg L i).Arr ∧ (leg L i).Arr ≤ 10000 := by omega
                          clear hfin
                          have hxA : Ext ws (ws.alloc (leg L j).box) := (Ext.refl _).alloc _
                          go_wp2_with fail
                          refine (follows_calls _ tb 0 (leg L i) (leg L j) c (Nat.lt_of_lt_of_le hTc.lt hxA.size) (hTc.ext hxA).change harr (by omega)).mono ?_
                          rintro e w4' ⟨rfl, hx4'⟩
                          have hxAB := hxA.trans hx4'
                          have hN4 := hN.ext hxAB
                          have hB4' := hB.ext hxAB
                          have hx74 := hx.trans hxAB
                          clear hBl hB0 hB1 hB2 hB3 hB4 hck hvbl hlb h0 h1 h2 h3 h4
                          cases hfo : folB c (leg L i) (leg L j) with
                          | false =>
                            have HK := Lib.hid (HC.out.congr (S' := fun u v => ArcsOf c L src dst at_ by_ (fun i => bth xs i = true) i u v ∨ ArcOf c L src dst at_ by_ (fun i => bth xs i = true) i (j + 1) u v) (fun u v => or_congr Iff.rfl (arcTo_no (fun h => by have := h.2; unfold folL at this; rw [hfo] at this; cases this))))
                            clear hfo
                            go_wp2_with fail
                            exact ⟨⟨j + 1, M, by omega, rfl, hx74, hB4', hN4, Lib.hid HK.out⟩, by simp only [intOf]; omega⟩
                          | true =>
                            have HK := Lib.hid (HC.out.add (i := 3 + 2 * i) (j := 2 + 2 * j) (S' := fun u v => ArcsOf c L src dst at_ by_ (fun i => bth xs i = true) i u v ∨ ArcOf c L src dst at_ by_ (fun i => bth xs i = true) i (j + 1) u v) (fun u v => by
                              unfold ArcOf
                              rw [arcTo_yes ⟨HBJ.out, hfo⟩]
                              exact by
                                constructor
                                · rintro (h | h | h)
                                  all_goals first | (left; exact h) | (right; left; exact h) | (right; right; left; exact h) | (right; right; right; exact h) | (right; right; exact h) | (right; exact h)
                                · rintro (h | h | h)
                                  all_goals first | (left; exact h) | (right; left; exact h) | (right; right; left; exact h) | (right; right; right; exact h) | (right; right; exact h) | (right; exact h)))
                            clear hfo
                            have hbc := hN4.boxCell
                            have hbl := hN4.box.2
                            have htl := hN4.top
                            have htp := hN4.topCell (3 + 2 * i) (by omega)
                            obtain ⟨hcp1, hcp2⟩ := hN4.rows.cell (3 + 2 * i) (2 + 2 * j) (by omega) (by omega)
                            have hlp := hN4.rows.low (3 + 2 * i) (by omega)
                            go_wp2_with fail
                            exact ⟨⟨j + 1, _, by omega, rfl, hx74.setOwn _ _ hlp.1, hB4'.grown (grownBy_setCell _ _ _) (by simp only [ne_eq, Option.some.injEq]; exact fun e => hn34 e.symm), hN4.set (by omega) (by omega) 1, Lib.hid HK.out⟩, by simp only [intOf]; omega⟩
                      · obtain rfl : j = L.length := by omega
                        have HK := Lib.hid (HC.out.congr (S' := ArcsOf c L src dst at_ by_ (fun i => bth xs i = true) (i + 1)) (fun u v => arcs_yes HBI.out))
                        go_wp2_with fail
                        exact ⟨⟨i + 1, M, by omega, rfl, hx, hN, Lib.hid HK.out⟩, by simp only [intOf]; omega⟩
                  | true =>
                    have hNb := hNs.set (i := 3 + 2 * i) (j := 1) (by omega) (by omega) 1
                    have HCb := Lib.hid (HC1.out.add (i := 3 + 2 * i) (j := 1) (S' := fun u v => (u = 3 + 2 * i ∧ v = 1) ∨ ((u = 2 + 2 * i ∧ v = 3 + 2 * i) ∨ ArcsOf c L src dst at_ by_ (fun i => bth xs i = true) i u v)) (fun u v => Iff.rfl))
                    have hxb := hxs.setOwn ⟨rb (3 + 2 * i), 1, none⟩ (.int .i64 1) hlp3.1
                    have hBb := hBs.grown (grownBy_setCell w2 ⟨rb (3 + 2 * i), 1, none⟩ (.int .i64 1)) (by simp only [ne_eq, Option.some.injEq]; exact fun e => hn34 e.symm)
                    have HE := Lib.hid (HCb.out.congr (S' := fun u v => ArcsOf c L src dst at_ by_ (fun i => bth xs i = true) i u v ∨ ArcOf c L src dst at_ by_ (fun i => bth xs i = true) i 0 u v) (fun u v => by
                      have hl : lastB dst by_ (leg L i) = true := by
                        have h1 : (leg L i).To = dst := by simpa using hto
                        have h2 : (leg L i).Arr ≤ by_ := by simpa using hat
                        simp [lastB, h1, h2]
                      simp only [ArcOf, ArcTo, HBEG.out, hl, Bool.false_eq_true, true_and, Nat.not_lt_zero, false_and, exists_false, or_false, false_or]
                      exact by
                        constructor
                        · rintro (h | h | h)
                          all_goals first | (left; exact h) | (right; left; exact h) | (right; right; left; exact h) | (right; right; right; exact h) | (right; right; exact h) | (right; exact h)
                        · rintro (h | h | h)
                          all_goals first | (left; exact h) | (right; left; exact h) | (right; right; left; exact h) | (right; right; right; exact h) | (right; right; exact h) | (right; exact h)))
                    go_wp2_with fail
                    have HNn := hNb
                    have HXx := hxb
                    have HBb := hBb
                    clear hbc hbl htl htp htp3 hcp1 hcp2 hcp31 hcp32 hlp hlp3 hBl hB0 hB1 hB2 hB3 hB4
                    go_loopw [120] (fun jj ws => ∃ (j : Nat) (M : Nat → Nat → Int), j ≤ L.length ∧ jj = .int .i64 j ∧ Ext w7 ws ∧ LegAt ws bx (leg L i) ∧ Net ws w7.heap.size fb g off gcap N rb M ∧ Hid (IsCap (fun u v => ArcsOf c L src dst at_ by_ (fun i => bth xs i = true) i u v ∨ ArcOf c L src dst at_ by_ (fun i => bth xs i = true) i j u v) M)) (fun jj _ => L.length - (intOf jj).toNat)
                    case atStart => exact ⟨0, _, by omega, rfl, HXx, HBb, HNn, HE⟩
                    case round =>
                      rename World => ws
                      clear HNn HXx HBb
                      obtain ⟨j, M, hj2, rfl, hx, hB, hN, HC⟩ := hrel
                      by_cases hlt2 : j < L.length
                      · obtain ⟨lb', lf', hao, hlb, h0, h1, h2, h3, h4⟩ := (hL7.ext hx) j hlt2
                        simp only [Option.some.injEq, Addr.mk.injEq, and_true] at hao
                        obtain ⟨rfl, rfl⟩ := hao
                        obtain ⟨vb', vf', hvo, hvbl, hck⟩ := (hvb7.ext hx) j (by omega)
                        simp only [Option.some.injEq, Addr.mk.injEq, and_true] at hvo
                        obtain ⟨rfl, rfl⟩ := hvo
                        cases hb : bth xs j with
                        | false =>
                          rw [hb] at hck
                          have HK := Lib.hid (HC.out.congr (S' := fun u v => ArcsOf c L src dst at_ by_ (fun i => bth xs i = true) i u v ∨ ArcOf c L src dst at_ by_ (fun i => bth xs i = true) i (j + 1) u v) (fun u v => or_congr Iff.rfl (arcTo_no (fun h => by rw [hb] at h; cases h.1))))
                          clear hb
                          go_wp2_with fail
                          exact ⟨⟨j + 1, M, by omega, rfl, hx.alloc _, hB.ext ((Ext.refl _).alloc _), hN.ext ((Ext.refl _).alloc _), Lib.hid HK.out⟩, by simp only [intOf]; omega⟩
                        | true =>
                          rw [hb] at hck
                          have HBJ := Lib.hid hb
                          clear hb
                          obtain ⟨hBl, hB0, hB1, hB2, hB3, hB4⟩ := id hB
                          have hTc := hT7.ext hx
                          have hfin := HF.out i hlt
                          unfold Fine at hfin
                          have harr : 0 ≤ (leg L i).Arr ∧ (leg L i).Arr ≤ 10000 := by omega
                          clear hfin
                          have hxA : Ext ws (ws.alloc (leg L j).box) := (Ext.refl _).alloc _
                          go_wp2_with fail
                          refine (follows_calls _ tb 0 (leg L i) (leg L j) c (Nat.lt_of_lt_of_le hTc.lt hxA.size) (hTc.ext hxA).change harr (by omega)).mono ?_
                          rintro e w4' ⟨rfl, hx4'⟩
                          have hxAB := hxA.trans hx4'
                          have hN4 := hN.ext hxAB
                          have hB4' := hB.ext hxAB
                          have hx74 := hx.trans hxAB
                          clear hBl hB0 hB1 hB2 hB3 hB4 hck hvbl hlb h0 h1 h2 h3 h4
                          cases hfo : folB c (leg L i) (leg L j) with
                          | false =>
                            have HK := Lib.hid (HC.out.congr (S' := fun u v => ArcsOf c L src dst at_ by_ (fun i => bth xs i = true) i u v ∨ ArcOf c L src dst at_ by_ (fun i => bth xs i = true) i (j + 1) u v) (fun u v => or_congr Iff.rfl (arcTo_no (fun h => by have := h.2; unfold folL at this; rw [hfo] at this; cases this))))
                            clear hfo
                            go_wp2_with fail
                            exact ⟨⟨j + 1, M, by omega, rfl, hx74, hB4', hN4, Lib.hid HK.out⟩, by simp only [intOf]; omega⟩
                          | true =>
                            have HK := Lib.hid (HC.out.add (i := 3 + 2 * i) (j := 2 + 2 * j) (S' := fun u v => ArcsOf c L src dst at_ by_ (fun i => bth xs i = true) i u v ∨ ArcOf c L src dst at_ by_ (fun i => bth xs i = true) i (j + 1) u v) (fun u v => by
                              unfold ArcOf
                              rw [arcTo_yes ⟨HBJ.out, hfo⟩]
                              exact by
                                constructor
                                · rintro (h | h | h)
                                  all_goals first | (left; exact h) | (right; left; exact h) | (right; right; left; exact h) | (right; right; right; exact h) | (right; right; exact h) | (right; exact h)
                                · rintro (h | h | h)
                                  all_goals first | (left; exact h) | (right; left; exact h) | (right; right; left; exact h) | (right; right; right; exact h) | (right; right; exact h) | (right; exact h)))
                            clear hfo
                            have hbc := hN4.boxCell
                            have hbl := hN4.box.2
                            have htl := hN4.top
                            have htp := hN4.topCell (3 + 2 * i) (by omega)
                            obtain ⟨hcp1, hcp2⟩ := hN4.rows.cell (3 + 2 * i) (2 + 2 * j) (by omega) (by omega)
                            have hlp := hN4.rows.low (3 + 2 * i) (by omega)
                            go_wp2_with fail
                            exact ⟨⟨j + 1, _, by omega, rfl, hx74.setOwn _ _ hlp.1, hB4'.grown (grownBy_setCell _ _ _) (by simp only [ne_eq, Option.some.injEq]; exact fun e => hn34 e.symm), hN4.set (by omega) (by omega) 1, Lib.hid HK.out⟩, by simp only [intOf]; omega⟩
                      · obtain rfl : j = L.length := by omega
                        have HK := Lib.hid (HC.out.congr (S' := ArcsOf c L src dst at_ by_ (fun i => bth xs i = true) (i + 1)) (fun u v => arcs_yes HBI.out))
                        go_wp2_with fail
                        exact ⟨⟨i + 1, M, by omega, rfl, hx, hN, Lib.hid HK.out⟩, by simp only [intOf]; omega⟩
          · obtain rfl : i = L.length := by omega
            have HC' := Lib.hid (HC.out.congr (S' := ArcsOf c L src dst at_ by_ (InJ c L src dst at_ by_) L.length) (fun u v => by
              have key : ∀ i, i < L.length → (InJ c L src dst at_ by_ i ↔ bth xs i = true) := fun i hi => (HX.out i hi).symm
              unfold ArcsOf Arcs ArcTo
              refine exists_congr (fun i => and_congr_right (fun hi => and_congr (key i hi) ?_))
              refine or_congr Iff.rfl (or_congr Iff.rfl (or_congr Iff.rfl (exists_congr (fun l => and_congr_right (fun hl => and_congr (key l hl) Iff.rfl)))))))
            have hmass : mass0 N M ≤ 100000 := by
              have h1 := sumN_le (f := M 0) (g := fun _ => 1) (n := N) (fun v _ => (HC.out.nonneg 0 v).2)
              have h2 : ∀ n, sumN (fun _ => (1 : Int)) n = n := by
                intro n
                induction n with
                | zero => rfl
                | succ n ih => unfold sumN; rw [ih]; omega
              rw [h2] at h1
              unfold mass0
              omega
            go_wp2_with fail
            refine (most_calls w7 wr fb g off gcap N rb M hx hN hN2 (by omega) (fun u v => (HC.out.nonneg u v).1) (fun u v => by have := (HC.out.nonneg u v).2; have := (HC.out.nonneg v u).2; omega) hmass).mono ?_
            rintro e w9 ⟨k, rfl, hk, hx9⟩
            have HK := Lib.hid hk
            clear hk
            go_wp2_with fail
            go_ret2
            exact ⟨k, 0, rfl, .inr (.inr (.inr ⟨HG.out, HS.out, HGO.out, rfl, M, HC'.out, by rw [← HND.out]; exact HK.out⟩)), hx07.trans hx9⟩
end Go.Proofs.Ytmmjjfjbhogfgaa
