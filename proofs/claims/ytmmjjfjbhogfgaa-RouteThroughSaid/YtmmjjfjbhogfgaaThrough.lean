/- RouteThrough: the walk. -/
import Derived.Test.YtmmjjfjbhogfgaaProfB
import Derived.Test.YtmmjjfjbhogfgaaProfE
import Derived.Test.YtmmjjfjbhogfgaaLooks
namespace Go.Proofs.Ytmmjjfjbhogfgaa
open Go.ChangeShapes Go.WideShapes Go.ChangeAt Go.RowKit
attribute [local go_sem] Leg.val run_store_fn

set_option maxRecDepth 100000 in
set_option maxHeartbeats 8000000 in
theorem routeThrough_calls (w : World) (n : Int) (ao : Option Addr) (cap : Nat) (L : List Leg) (c A B C at_ : Int) (hL : LegsIn w ao L) :
    Calls Try.prog 17 #[.int .i64 n, .slice ao L.length cap, .int .i64 c, .int .i64 A, .int .i64 B, .int .i64 C, .int .i64 at_] w (TrueRes w) := by
  have hal : ∀ w2, Ext w w2 → Calls Try.prog 19 #[] w2 fun e w' => e = .returned (.bool true) ∧ Ext w w' := fun w2 hx => (alive_calls w2).mono (fun e w' ⟨he, hx'⟩ => ⟨he, hx.trans hx'⟩)
  go_enter Try.func17, Try.ntmps17
  go_wp2_with fail
  refine (few_calls w ao L.length cap).mono ?_
  rintro e w1 ⟨rfl, hx1⟩
  cases hd : decide (L.length ≤ 80) with
  | false =>
    go_wp2_with fail
    refine (hal _ (hx1)).mono ?_
    rintro e w2 ⟨rfl, hx2⟩
    go_wp2_with fail
    go_ret
    exact ⟨rfl, hx2⟩
  | true =>
    have hl : L.length ≤ 80 := by simpa using hd
    cases h1 : (A == B) with
    | true =>
      go_wp2_with fail
      refine (hal _ (hx1)).mono ?_
      rintro e w2 ⟨rfl, hx2⟩
      go_wp2_with fail
      go_ret
      exact ⟨rfl, hx2⟩
    | false =>
      cases h2 : (B == C) with
      | true =>
        go_wp2_with fail
        refine (hal _ (hx1)).mono ?_
        rintro e w2 ⟨rfl, hx2⟩
        go_wp2_with fail
        go_ret
        exact ⟨rfl, hx2⟩
      | false =>
        cases h3 : (A == C) with
        | true =>
          go_wp2_with fail
          refine (hal _ (hx1)).mono ?_
          rintro e w2 ⟨rfl, hx2⟩
          go_wp2_with fail
          go_ret
          exact ⟨rfl, hx2⟩
        | false =>
          have hne1 : A ≠ B := by simpa using h1
          have hne2 : B ≠ C := by simpa using h2
          have hne3 : A ≠ C := by simpa using h3
          go_wp2_with fail
          refine (bigProfile_calls w1 n ao cap L c A B (hL.ext hx1) (by omega)).mono ?_
          rintro e w2 ⟨vp, p, e1, rfl, hop, hP, hpl, hx2⟩
          have hx02 := hx1.trans hx2
          have HP := Lib.hid hP
          clear hP
          obtain ⟨po, pcap, rfl, hpi⟩ := hop.tripsIn
          clear hop
          go_wp2_with fail
          refine (bigProfile_calls w2 n ao cap L c B C (hL.ext hx02) (by omega)).mono ?_
          rintro e w3 ⟨vq, q, e2, rfl, hoq, hQ, hql, hx3⟩
          have hx03 := hx02.trans hx3
          have HQ := Lib.hid hQ
          clear hQ
          obtain ⟨qo, qcap, rfl, hqi⟩ := hoq.tripsIn
          clear hoq
          have hpi := hpi.ext hx3
          by_cases he1 : e1 = 0
          · by_cases he2 : e2 = 0
            · subst he1 he2
              have hpok := first_up HP.out rfl hne1 hpl
              have hqok := first_up HQ.out rfl hne2 hql
              have hcc := (prof_ok HP.out rfl hne1).1.change
              have HPOK := Lib.hid hpok
              have HQOK := Lib.hid hqok
              clear hpok hqok
              go_wp2_with fail
              refine (then_calls w3 po qo pcap qcap p q c hpi hqi (by omega) (by omega)).mono ?_
              rintro e w4 ⟨vt, t, e3, rfl, hot, hT, htl, hx4⟩
              obtain ⟨to_, tcap, rfl, hti⟩ := hot.tripsIn
              obtain ⟨rfl, htok⟩ := then_ok hT HPOK.out HQOK.out hcc (by omega)
              have HT := Lib.hid hT
              have HTOK := Lib.hid htok
              clear hT htok hot
              have hpi := hpi.ext hx4
              have hqi := hqi.ext hx4
              have hx04 := hx03.trans hx4
              go_wp2_with fail
              refine (bigLook_calls w4 to_ tcap t at_ hti (by omega)).mono ?_
              rintro e w5 ⟨x, f, rfl, hLk, hx5⟩
              have hpi := hpi.ext hx5
              have hqi := hqi.ext hx5
              have hti := hti.ext hx5
              have hx05 := hx04.trans hx5
              have HLK := Lib.hid hLk
              clear hLk
              go_wp2_with fail
              refine (earliest_calls w5 n ao cap L c A C at_ (hL.ext hx05) (by omega)).mono ?_
              rintro e w6 ⟨y, vy, ys, g, rfl, hoy, hE, hx56⟩
              clear hoy
              have hx06 := hx05.trans hx56
              have HE := Lib.hid hE
              clear hE
              by_cases hf : f = 0
              · by_cases hat : at_ ≤ 10000
                · have hth := through HP.out HQ.out rfl rfl hne1 hne2 hne3 HT.out rfl HLK.out hf hat HE.out
                  obtain ⟨rfl, hyx⟩ := hth
                  subst hf
                  have hyx' : decide (x < y) = false := by simp only [decide_eq_false_iff_not]; omega
                  go_wp2_with fail
                  refine (bigProfile_calls w6 n ao cap L c C A (hL.ext hx06) (by omega)).mono ?_
                  rintro e w7 ⟨vr, r, er4, rfl, hor, hR, hrl, hx7⟩
                  have hr0 := through_third HP.out HQ.out rfl rfl hne1 hne2 hne3 hR
                  subst hr0
                  have hrok := first_up hR rfl (fun h => hne3 h.symm) hrl
                  have HROK := Lib.hid hrok
                  clear hR hrok
                  obtain ⟨ro, rcap, rfl, hri⟩ := hor.tripsIn
                  have hx07 := hx06.trans hx7
                  have hx57 := hx56.trans hx7
                  go_wp2_with fail
                  refine (then_calls w7 qo ro qcap rcap q r c (hqi.ext hx57) hri (by omega) (by omega)).mono ?_
                  rintro e w8 ⟨vu, u, eu, rfl, hou, hU, hul, hx8⟩
                  obtain ⟨uo, ucap, rfl, hui⟩ := hou.tripsIn
                  have hu := then_ok hU HQOK.out HROK.out hcc (by omega)
                  obtain ⟨rfl, huok⟩ := hu
                  have HU := Lib.hid hU
                  have HUOK := Lib.hid huok
                  clear hU huok hou
                  have hx08 := hx07.trans hx8
                  have hx58 := hx57.trans hx8
                  go_wp2_with fail
                  refine (then_calls w8 to_ ro tcap rcap t r c ((hti.ext hx56).ext (hx7.trans hx8)) (hri.ext hx8) (by omega) (by omega)).mono ?_
                  rintro e w9 ⟨vv, v, ev, rfl, hov, hV, hvl, hx9⟩
                  obtain ⟨vo, vcap, rfl, hvi⟩ := hov.tripsIn
                  obtain ⟨rfl, hvok⟩ := then_ok hV HTOK.out HROK.out hcc (by omega)
                  have HV := Lib.hid hV
                  have HVOK := Lib.hid hvok
                  clear hV hvok hov
                  have hx09 := hx08.trans hx9
                  go_wp2_with fail
                  refine (then_calls w9 po uo pcap ucap p u c (hpi.ext (hx58.trans hx9)) (hui.ext hx9) (by omega) (by omega)).mono ?_
                  rintro e w10 ⟨vw, x2, ew, rfl, how, hW, hwl, hx10⟩
                  obtain ⟨wo, wcap, rfl, hwi⟩ := how.tripsIn
                  obtain ⟨rfl, hwok⟩ := then_ok hW HPOK.out HUOK.out hcc (by omega)
                  have hvw := then_assoc HVOK.out hwok HT.out HU.out HV.out hW ⟨rfl, rfl, rfl, rfl⟩
                  subst hvw
                  clear hW hwok how
                  have hx010 := hx09.trans hx10
                  go_wp2_with (go_at_call 37; refine (stops_calls w10 vo wo vcap wcap v (hvi.ext hx10) hwi (by omega) rfl rfl).mono ?_; rintro e w11 ⟨rfl, hx11⟩)
                  refine (hal _ (hx010.trans hx11)).mono ?_
                  rintro e w2 ⟨rfl, hx2⟩
                  go_wp2_with fail
                  go_ret
                  exact ⟨rfl, hx2⟩
                · subst hf
                  go_wp2_with fail
                  refine (bigProfile_calls w6 n ao cap L c C A (hL.ext hx06) (by omega)).mono ?_
                  rintro e w7 ⟨vr, r, er4, rfl, hor, hR, hrl, hx7⟩
                  have hr0 := through_third HP.out HQ.out rfl rfl hne1 hne2 hne3 hR
                  subst hr0
                  have hrok := first_up hR rfl (fun h => hne3 h.symm) hrl
                  have HROK := Lib.hid hrok
                  clear hR hrok
                  obtain ⟨ro, rcap, rfl, hri⟩ := hor.tripsIn
                  have hx07 := hx06.trans hx7
                  have hx57 := hx56.trans hx7
                  go_wp2_with fail
                  refine (then_calls w7 qo ro qcap rcap q r c (hqi.ext hx57) hri (by omega) (by omega)).mono ?_
                  rintro e w8 ⟨vu, u, eu, rfl, hou, hU, hul, hx8⟩
                  obtain ⟨uo, ucap, rfl, hui⟩ := hou.tripsIn
                  have hu := then_ok hU HQOK.out HROK.out hcc (by omega)
                  obtain ⟨rfl, huok⟩ := hu
                  have HU := Lib.hid hU
                  have HUOK := Lib.hid huok
                  clear hU huok hou
                  have hx08 := hx07.trans hx8
                  have hx58 := hx57.trans hx8
                  go_wp2_with fail
                  refine (then_calls w8 to_ ro tcap rcap t r c ((hti.ext hx56).ext (hx7.trans hx8)) (hri.ext hx8) (by omega) (by omega)).mono ?_
                  rintro e w9 ⟨vv, v, ev, rfl, hov, hV, hvl, hx9⟩
                  obtain ⟨vo, vcap, rfl, hvi⟩ := hov.tripsIn
                  obtain ⟨rfl, hvok⟩ := then_ok hV HTOK.out HROK.out hcc (by omega)
                  have HV := Lib.hid hV
                  have HVOK := Lib.hid hvok
                  clear hV hvok hov
                  have hx09 := hx08.trans hx9
                  go_wp2_with fail
                  refine (then_calls w9 po uo pcap ucap p u c (hpi.ext (hx58.trans hx9)) (hui.ext hx9) (by omega) (by omega)).mono ?_
                  rintro e w10 ⟨vw, x2, ew, rfl, how, hW, hwl, hx10⟩
                  obtain ⟨wo, wcap, rfl, hwi⟩ := how.tripsIn
                  obtain ⟨rfl, hwok⟩ := then_ok hW HPOK.out HUOK.out hcc (by omega)
                  have hvw := then_assoc HVOK.out hwok HT.out HU.out HV.out hW ⟨rfl, rfl, rfl, rfl⟩
                  subst hvw
                  clear hW hwok how
                  have hx010 := hx09.trans hx10
                  go_wp2_with (go_at_call 37; refine (stops_calls w10 vo wo vcap wcap v (hvi.ext hx10) hwi (by omega) rfl rfl).mono ?_; rintro e w11 ⟨rfl, hx11⟩)
                  refine (hal _ (hx010.trans hx11)).mono ?_
                  rintro e w2 ⟨rfl, hx2⟩
                  go_wp2_with fail
                  go_ret
                  exact ⟨rfl, hx2⟩
              · have hf' : (f == 0) = false := by simpa using hf
                clear hf
                go_wp2_with fail
                refine (bigProfile_calls w6 n ao cap L c C A (hL.ext hx06) (by omega)).mono ?_
                rintro e w7 ⟨vr, r, er4, rfl, hor, hR, hrl, hx7⟩
                have hr0 := through_third HP.out HQ.out rfl rfl hne1 hne2 hne3 hR
                subst hr0
                have hrok := first_up hR rfl (fun h => hne3 h.symm) hrl
                have HROK := Lib.hid hrok
                clear hR hrok
                obtain ⟨ro, rcap, rfl, hri⟩ := hor.tripsIn
                have hx07 := hx06.trans hx7
                have hx57 := hx56.trans hx7
                go_wp2_with fail
                refine (then_calls w7 qo ro qcap rcap q r c (hqi.ext hx57) hri (by omega) (by omega)).mono ?_
                rintro e w8 ⟨vu, u, eu, rfl, hou, hU, hul, hx8⟩
                obtain ⟨uo, ucap, rfl, hui⟩ := hou.tripsIn
                have hu := then_ok hU HQOK.out HROK.out hcc (by omega)
                obtain ⟨rfl, huok⟩ := hu
                have HU := Lib.hid hU
                have HUOK := Lib.hid huok
                clear hU huok hou
                have hx08 := hx07.trans hx8
                have hx58 := hx57.trans hx8
                go_wp2_with fail
                refine (then_calls w8 to_ ro tcap rcap t r c ((hti.ext hx56).ext (hx7.trans hx8)) (hri.ext hx8) (by omega) (by omega)).mono ?_
                rintro e w9 ⟨vv, v, ev, rfl, hov, hV, hvl, hx9⟩
                obtain ⟨vo, vcap, rfl, hvi⟩ := hov.tripsIn
                obtain ⟨rfl, hvok⟩ := then_ok hV HTOK.out HROK.out hcc (by omega)
                have HV := Lib.hid hV
                have HVOK := Lib.hid hvok
                clear hV hvok hov
                have hx09 := hx08.trans hx9
                go_wp2_with fail
                refine (then_calls w9 po uo pcap ucap p u c (hpi.ext (hx58.trans hx9)) (hui.ext hx9) (by omega) (by omega)).mono ?_
                rintro e w10 ⟨vw, x2, ew, rfl, how, hW, hwl, hx10⟩
                obtain ⟨wo, wcap, rfl, hwi⟩ := how.tripsIn
                obtain ⟨rfl, hwok⟩ := then_ok hW HPOK.out HUOK.out hcc (by omega)
                have hvw := then_assoc HVOK.out hwok HT.out HU.out HV.out hW ⟨rfl, rfl, rfl, rfl⟩
                subst hvw
                clear hW hwok how
                have hx010 := hx09.trans hx10
                go_wp2_with (go_at_call 37; refine (stops_calls w10 vo wo vcap wcap v (hvi.ext hx10) hwi (by omega) rfl rfl).mono ?_; rintro e w11 ⟨rfl, hx11⟩)
                refine (hal _ (hx010.trans hx11)).mono ?_
                rintro e w2 ⟨rfl, hx2⟩
                go_wp2_with fail
                go_ret
                exact ⟨rfl, hx2⟩
            · have he' : (e2 == 0) = false := by simpa using he2
              subst he1
              clear he2
              go_wp2_with fail
              refine (hal _ (hx03)).mono ?_
              rintro e w2 ⟨rfl, hx2⟩
              go_wp2_with fail
              go_ret
              exact ⟨rfl, hx2⟩
          · have he' : (e1 == 0) = false := by simpa using he1
            clear he1
            go_wp2_with fail
            refine (hal _ (hx03)).mono ?_
            rintro e w2 ⟨rfl, hx2⟩
            go_wp2_with fail
            go_ret
            exact ⟨rfl, hx2⟩
end Go.Proofs.Ytmmjjfjbhogfgaa
