/- RouteNeeded: the walk. -/
import Derived.Test.YtmmjjfjbhogfgaaMFlowF
import Derived.Test.YtmmjjfjbhogfgaaMFlowJ
import Derived.Test.YtmmjjfjbhogfgaaLawIs
import Derived.Test.YtmmjjfjbhogfgaaOpen
import Derived.Test.YtmmjjfjbhogfgaaFrame
import Derived.Test.YtmmjjfjbhogfgaaChecked
namespace Go.Proofs.Ytmmjjfjbhogfgaa
open Go.ChangeShapes Go.WideShapes Go.ChangeAt Go.RowKit
attribute [local go_sem] Leg.val run_store_fn

set_option maxRecDepth 100000 in
set_option maxHeartbeats 8000000 in
theorem routeNeeded_calls (w : World) (n : Int) (ao : Option Addr) (cap : Nat) (L : List Leg) (c src dst at_ by_ : Int) (hL : LegsIn w ao L) :
    Calls Try.prog 11 #[.int .i64 n, .slice ao L.length cap, .int .i64 c, .int .i64 src, .int .i64 dst, .int .i64 at_, .int .i64 by_] w (TrueRes w) := by
  have hal : ∀ w2, Ext w w2 → Calls Try.prog 19 #[] w2 fun e w' => e = .returned (.bool true) ∧ Ext w w' := fun w2 hx => (alive_calls w2).mono (fun e w' ⟨he, hx'⟩ => ⟨he, hx.trans hx'⟩)
  go_enter Try.func11, Try.ntmps11
  go_wp2_with fail
  refine (few_calls w ao L.length cap).mono ?_
  rintro e w1 ⟨rfl, hx1⟩
  cases hd : decide (L.length ≤ 80) with
  | false =>
    go_wp2_with fail
    refine (hal _ (hx1)).mono ?_
    rintro e w2 ⟨rfl, hx2⟩
    go_wp2_with fail
    go_ret
    exact ⟨rfl, hx2⟩
  | true =>
    have hl : L.length ≤ 80 := by simpa using hd
    go_wp2_with fail
    refine (bigNeeded_calls w1 n ao cap L c src dst at_ by_ (hL.ext hx1) (by omega)).mono ?_
    rintro e w2 ⟨v, R, er, rfl, ho, hRl, hN, hx2⟩
    have hx02 := hx1.trans hx2
    have HN := Lib.hid hN
    clear hN
    obtain ⟨xo, xcap, rfl, hxi, -⟩ := ho.intsShape
    rw [nats_length]
    clear ho
    go_wp2_with fail
    refine (refNeeded_calls w2 n ao cap L c src dst at_ by_ (hL.ext hx02) (by omega)).mono ?_
    rintro e w3 ⟨yo, ycap, R', fr, rfl, hyi, hN', hx3⟩
    have hx03 := hx02.trans hx3
    obtain ⟨rfl, rfl⟩ := HN.out.uniq hN'
    clear hN'
    go_wp2_with (go_at_call 22; refine (same_len w3 xo yo xcap ycap R (hxi.ext hx3) hyi (by omega) rfl rfl).mono ?_; rintro e w4 ⟨rfl, hx4⟩)
    have hx04 := hx03.trans hx4
    refine (apart_calls w4 n ao cap L c src dst at_ by_ (hL.ext hx04) (by omega)).mono ?_
    rintro e w5 ⟨k, f, rfl, hA, hx5⟩
    have hx05 := hx04.trans hx5
    have HA := Lib.hid hA
    clear hA
    go_wp2_with fail
    refine (refApart_calls w5 n ao cap L c src dst at_ by_ (hL.ext hx05) (by omega)).mono ?_
    rintro e w6 ⟨k', f', rfl, hA', hx6⟩
    obtain ⟨rfl, rfl⟩ := HA.out.same hA'
    clear hA'
    go_wp2_with fail
    refine (hal _ ((hx05.trans hx6))).mono ?_
    rintro e w2 ⟨rfl, hx2⟩
    go_wp2_with fail
    go_ret
    exact ⟨rfl, hx2⟩
end Go.Proofs.Ytmmjjfjbhogfgaa

/- RouteNeeded returns true for all inputs and leaves its arguments as they were: no condition. -/
namespace Go.Proofs.Ytmmjjfjbhogfgaa
open Go.ChangeShapes Go.WideShapes Go.ChangeAt Go.RowKit

set_option maxRecDepth 100000 in
theorem routeNeeded_lifted (os : Os) (started : os.Started) (H : Type) (enc : TypeId × Value → H) :
    ReturnsInHanded {} Try.checked os 11 .any (Rows.routeNeededSpec.pre6 enc Try.prog Try.f11 Rows.routeNeededRow.domain false) (Rows.routeNeededSpec.post enc Try.prog Try.f11 false true false false) := by
  refine returnsInHanded_of_change (C := Try.checked) own_any started (by kernel_rfl) Try.func11
    (ChangeSpec.witness6 (enc := enc) (C := Try.checked) false ⟨#[], #[.int .i64 0, .slice none 0 0, .int .i64 0, .int .i64 0, .int .i64 0, .int .i64 0, .int .i64 0], []⟩ 8 (by kernel_rfl) (by kernel_rfl) (by kernel_rfl) (by kernel_rfl)) ?_
  intro W base args ds gs before hval0 hW hcnd _
  have hval : ∀ (j : Nat) t v, Try.f11.params[j]? = some t → args[j]? = some v → Value.okWide Try.prog W .any base t v := hval0
  have hW' := hW
  obtain ⟨p, q, hA0, hV, rfl, hfz, hnd⟩ := hW
  have hA : DataW.TrodAll enc Try.prog W 0 (fun _ => true) true Try.f11.params.toList args.toList ds p := hA0
  rw [Try.params11] at hA hval
  obtain ⟨al⟩ := args
  obtain ⟨v0, vs, d0, ds, p0, q0, e0, rfl, rfl, h0, hA⟩ := trodAll_cons hA
  obtain ⟨v1, vs, d1, ds, p1, q1, rfl, rfl, rfl, h1, hA⟩ := trodAll_cons hA
  obtain ⟨v2, vs, d2, ds, p2, q2, rfl, rfl, rfl, h2, hA⟩ := trodAll_cons hA
  obtain ⟨v3, vs, d3, ds, p3, q3, rfl, rfl, rfl, h3, hA⟩ := trodAll_cons hA
  obtain ⟨v4, vs, d4, ds, p4, q4, rfl, rfl, rfl, h4, hA⟩ := trodAll_cons hA
  obtain ⟨v5, vs, d5, ds, p5, q5, rfl, rfl, rfl, h5, hA⟩ := trodAll_cons hA
  obtain ⟨v6, vs, d6, ds, p6, q6, rfl, rfl, rfl, h6, hA⟩ := trodAll_cons hA
  obtain ⟨rfl, rfl, rfl⟩ := trodAll_nil hA
  simp only at e0
  subst e0
  obtain ⟨a0, rfl, rfl, rfl, w0⟩ := open_int Try.underlying3 (hval 0 _ v0 rfl rfl) h0
  obtain ⟨a2, rfl, rfl, rfl, w2⟩ := open_int Try.underlying3 (hval 2 _ v2 rfl rfl) h2
  obtain ⟨a3, rfl, rfl, rfl, w3⟩ := open_int Try.underlying3 (hval 3 _ v3 rfl rfl) h3
  obtain ⟨a4, rfl, rfl, rfl, w4⟩ := open_int Try.underlying3 (hval 4 _ v4 rfl rfl) h4
  obtain ⟨a5, rfl, rfl, rfl, w5⟩ := open_int Try.underlying3 (hval 5 _ v5 rfl rfl) h5
  obtain ⟨a6, rfl, rfl, rfl, w6⟩ := open_int Try.underlying3 (hval 6 _ v6 rfl rfl) h6
  obtain ⟨o1, cap1, L1, rfl, hL1, hlen1, hw1⟩ := open_legs (hval 1 _ v1 rfl rfl) h1
  refine (routeNeeded_calls W a0 o1 cap1 L1 a2 a3 a4 a5 a6 hL1).mono fun e W' ⟨he, hx⟩ => ?_
  exact ⟨_, he, post_true hW' rfl (by kernel_rfl) rfl (by rw [Try.params11]; decide +kernel) hx⟩

theorem routeNeeded_holds : Rows.RouteNeededSaid :=
  OpenClaim.holds_of_wide 11 Try.f11 rfl rfl rfl rfl rfl rfl rfl ⟨rfl, rfl, rfl, rfl, rfl⟩ rfl rfl rfl rfl rfl (by kernel_rfl) Try.func11 (by kernel_rfl)
    (of_decide_eq_true (by kernel_rfl)) (by unfold Func.isWrapper; rw [if_neg (by decide +kernel)]; exact ⟨rfl, rfl⟩)
    (fun os started H enc _ => routeNeeded_lifted os started H enc)
end Go.Proofs.Ytmmjjfjbhogfgaa
