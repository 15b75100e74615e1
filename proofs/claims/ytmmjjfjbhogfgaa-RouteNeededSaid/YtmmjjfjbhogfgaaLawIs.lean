/- RouteIs. -/
import Derived.Test.YtmmjjfjbhogfgaaRouteIs
import Derived.Test.YtmmjjfjbhogfgaaRows
import Derived.ProofKit
namespace Go.Proofs.Ytmmjjfjbhogfgaa
open Go.ChangeShapes Go.WideShapes Go.ChangeAt Go.RowKit
attribute [local go_sem] Leg.val run_store_fn

theorem few_calls (w : World) (ao : Option Addr) (len cap : Nat) :
    Calls Try.prog 18 #[.slice ao len cap] w fun e w' => e = .returned (.bool (decide (len ≤ 80))) ∧ Ext w w' := by
  go_enter Try.func18, Try.ntmps18
  go_wp2_with fail
  go_ret
  refine ⟨ret_bool ?_, Ext.refl _⟩
  rw [Bool.eq_iff_iff]; simp; omega

theorem routeIs_calls (w : World) (n : Int) (ao : Option Addr) (cap : Nat) (L : List Leg) (c src dst at_ : Int) (jo : Option Addr) (jcap : Nat) (J : List Int) (hL : LegsIn w ao L) (hJ : IntsIn w jo J) (hJ64 : ∀ k, k < J.length → I64 (ith J k)) :
    Calls Try.prog 6 #[.int .i64 n, .slice ao L.length cap, .int .i64 c, .int .i64 src, .int .i64 dst, .int .i64 at_, .slice jo J.length jcap] w (TrueRes w) := by
  have H64 := Lib.hid hJ64
  clear hJ64
  go_enter Try.func6, Try.ntmps6
  go_wp2_with fail
  refine (few_calls w ao L.length cap).mono ?_
  rintro e w1 ⟨rfl, hx1⟩
  have hal : ∀ w2, Ext w w2 → Calls Try.prog 19 #[] w2 fun e w' => e = .returned (.bool true) ∧ Ext w w' := fun w2 hx => (alive_calls w2).mono (fun e w' ⟨he, hx'⟩ => ⟨he, hx.trans hx'⟩)
  cases hd : decide (L.length ≤ 80) with
  | false =>
    go_wp2_with fail
    refine (hal _ hx1).mono ?_
    rintro e w2 ⟨rfl, hx2⟩
    go_wp2_with fail
    go_ret
    exact ⟨rfl, hx2⟩
  | true =>
    have hl : L.length ≤ 80 := by simpa using hd
    by_cases hd2 : 100 < J.length
    · go_wp2_with fail
      refine (hal _ hx1).mono ?_
      rintro e w2 ⟨rfl, hx2⟩
      go_wp2_with fail
      go_ret
      exact ⟨rfl, hx2⟩
    · go_wp2_with fail
      refine (is_calls w1 n ao cap L c src dst at_ jo jcap J (hL.ext hx1) (by omega) (hJ.ext hx1) (by omega) H64.out).mono ?_
      rintro e w2 ⟨b, er, rfl, h1, hx2⟩
      have hx12 := hx1.trans hx2
      go_wp2_with fail
      refine (refIs_calls w2 n ao cap L c src dst at_ jo jcap J (hL.ext hx12) (by omega) (hJ.ext hx12) (by omega)).mono ?_
      rintro e w3 ⟨b', er', rfl, h2, hx3⟩
      obtain ⟨rfl, rfl⟩ := h1.uniq h2
      clear h1 h2
      go_wp2_with fail
      refine (hal _ (hx12.trans hx3)).mono ?_
      rintro e w4 ⟨rfl, hx4⟩
      go_wp2_with fail
      go_ret
      exact ⟨rfl, hx4⟩
end Go.Proofs.Ytmmjjfjbhogfgaa
