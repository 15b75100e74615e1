/- RouteLatest: the walk. -/
import Derived.Test.YtmmjjfjbhogfgaaRefF
import Derived.Test.YtmmjjfjbhogfgaaLawIs
namespace Go.Proofs.Ytmmjjfjbhogfgaa
open Go.ChangeShapes Go.WideShapes Go.ChangeAt Go.RowKit
attribute [local go_sem] Leg.val run_store_fn

theorem EarlyOf.uniq {n : Int} {L : List Leg} {c src dst at_ a b : Int} {xs ys : List Nat} {e f : Int} (h : EarlyOf n L c src dst at_ a xs e) (h' : EarlyOf n L c src dst at_ b ys f) : a = b ∧ xs = ys ∧ e = f := by
  rcases h with ⟨h0, rfl, rfl, rfl⟩ | ⟨h0, h1, rfl, rfl, rfl⟩ | ⟨h0, h1, rfl, rfl, rfl, hA⟩ | ⟨h0, h1, rfl, h3, hA, hl⟩ <;> rcases h' with ⟨g0, rfl, rfl, rfl⟩ | ⟨g0, g1, rfl, rfl, rfl⟩ | ⟨g0, g1, rfl, rfl, rfl, gA⟩ | ⟨g0, g1, rfl, g3, gA, gl⟩
  all_goals first
    | exact ⟨rfl, rfl, rfl⟩
    | exact (h0 g0).elim
    | exact (g0 h0).elim
    | exact (h1 g1).elim
    | exact (g1 h1).elim
    | (have := hA.uniq gA; subst this; exact ⟨rfl, hl.uniq gl, rfl⟩)
    | (have := hA.uniq gA; exfalso; omega)
theorem LateOf.uniq {n : Int} {L : List Leg} {c src dst at_ a b : Int} {xs ys : List Nat} {e f : Int} (h : LateOf n L c src dst at_ a xs e) (h' : LateOf n L c src dst at_ b ys f) : a = b ∧ xs = ys ∧ e = f := by
  rcases h with ⟨h0, rfl, rfl, rfl⟩ | ⟨h0, h1, rfl, rfl, rfl⟩ | ⟨h0, h1, rfl, rfl, rfl, hA⟩ | ⟨h0, h1, rfl, h3, hA, hl⟩ <;> rcases h' with ⟨g0, rfl, rfl, rfl⟩ | ⟨g0, g1, rfl, rfl, rfl⟩ | ⟨g0, g1, rfl, rfl, rfl, gA⟩ | ⟨g0, g1, rfl, g3, gA, gl⟩
  all_goals first
    | exact ⟨rfl, rfl, rfl⟩
    | exact (h0 g0).elim
    | exact (g0 h0).elim
    | exact (h1 g1).elim
    | exact (g1 h1).elim
    | (have := hA.uniq gA; subst this; exact ⟨rfl, hl.uniq gl, rfl⟩)
    | (have := hA.uniq gA; exfalso; omega)
theorem same_len (w : World) (xo yo : Option Addr) (xcap ycap : Nat) (xs : List Nat) (hx : IntsIn w xo (nats xs)) (hy : IntsIn w yo (nats xs)) (hxl : xs.length ≤ 10000000) {m m' : Nat} (hm : xs.length = m) (hm' : xs.length = m') :
    Calls Try.prog 22 #[.slice xo m xcap, .slice yo m' ycap] w fun e w' => e = .returned (.bool true) ∧ Ext w w' := by
  subst hm hm'
  have := same_calls w xo yo xcap ycap (nats xs) (nats xs) hx hy (by rw [nats_length]; exact hxl) (by rw [nats_length]; exact hxl)
  rw [nats_length] at this
  simpa using this

set_option maxRecDepth 100000 in
set_option maxHeartbeats 4000000 in
theorem routeLatest_calls (w : World) (n : Int) (ao : Option Addr) (cap : Nat) (L : List Leg) (c src dst by_ : Int) (hL : LegsIn w ao L) :
    Calls Try.prog 8 #[.int .i64 n, .slice ao L.length cap, .int .i64 c, .int .i64 src, .int .i64 dst, .int .i64 by_] w (TrueRes w) := by
  go_enter Try.func8, Try.ntmps8
  go_wp2_with fail
  refine (few_calls w ao L.length cap).mono ?_
  rintro e w1 ⟨rfl, hx1⟩
  have hal : ∀ w2, Ext w w2 → Calls Try.prog 19 #[] w2 fun e w' => e = .returned (.bool true) ∧ Ext w w' := fun w2 hx => (alive_calls w2).mono (fun e w' ⟨he, hx'⟩ => ⟨he, hx.trans hx'⟩)
  cases hd : decide (L.length ≤ 80) with
  | false =>
    go_wp2_with fail
    refine (hal _ (hx1)).mono ?_
    rintro e w2 ⟨rfl, hx2⟩
    go_wp2_with fail
    go_ret
    exact ⟨rfl, hx2⟩
  | true =>
    have hl : L.length ≤ 80 := by simpa using hd
    go_wp2_with fail
    refine (latest_calls w1 n ao cap L c src dst by_ (hL.ext hx1) (by omega)).mono ?_
    rintro e w2 ⟨a, v, xs, er, rfl, ho, hE, hx2⟩
    have hx12 := hx1.trans hx2
    go_wp2_with fail
    refine (refLatest_calls w2 n ao cap L c src dst by_ (hL.ext hx12) (by omega)).mono ?_
    rintro e w3 ⟨b, yo, ycap, ys, fr, rfl, hyi, hE3, hx3⟩
    have hxl := law_late_len hE
    obtain ⟨rfl, rfl, rfl⟩ := hE.uniq hE3
    clear hE hE3
    have hx13 := hx12.trans hx3
    obtain ⟨xo, xcap, rfl, hxi, -⟩ := ho.intsShape
    rw [nats_length]
    go_wp2_with (go_at_call 22; refine (same_len w3 xo yo xcap ycap xs (hxi.ext hx3) hyi (by omega) rfl rfl).mono ?_; rintro e w4 ⟨rfl, hx4⟩)
    refine (hal _ (hx13.trans hx4)).mono ?_
    rintro e w2 ⟨rfl, hx2⟩
    go_wp2_with fail
    go_ret
    exact ⟨rfl, hx2⟩
end Go.Proofs.Ytmmjjfjbhogfgaa
