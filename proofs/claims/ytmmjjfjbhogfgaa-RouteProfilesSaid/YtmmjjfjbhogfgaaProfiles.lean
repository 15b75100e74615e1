/- RouteProfiles: the walk. -/
import Derived.Test.YtmmjjfjbhogfgaaProfB
import Derived.Test.YtmmjjfjbhogfgaaProfD
import Derived.Test.YtmmjjfjbhogfgaaLooks
namespace Go.Proofs.Ytmmjjfjbhogfgaa
open Go.ChangeShapes Go.WideShapes Go.ChangeAt Go.RowKit
attribute [local go_sem] Leg.val run_store_fn

set_option maxRecDepth 100000 in
set_option maxHeartbeats 4000000 in
theorem routeProfiles_calls (w : World) (n : Int) (ao : Option Addr) (cap : Nat) (L : List Leg) (c src dst : Int) (hL : LegsIn w ao L) :
    Calls Try.prog 13 #[.int .i64 n, .slice ao L.length cap, .int .i64 c, .int .i64 src, .int .i64 dst] w (TrueRes w) := by
  go_enter Try.func13, Try.ntmps13
  go_wp2_with fail
  refine (few_calls w ao L.length cap).mono ?_
  rintro e w1 ⟨rfl, hx1⟩
  have hal : ∀ w2, Ext w w2 → Calls Try.prog 19 #[] w2 fun e w' => e = .returned (.bool true) ∧ Ext w w' := fun w2 hx => (alive_calls w2).mono (fun e w' ⟨he, hx'⟩ => ⟨he, hx.trans hx'⟩)
  cases hd : decide (L.length ≤ 80) with
  | false =>
    go_wp2_with fail
    refine (hal _ (hx1)).mono ?_
    rintro e w2 ⟨rfl, hx2⟩
    go_wp2_with fail
    go_ret
    exact ⟨rfl, hx2⟩
  | true =>
    have hl : L.length ≤ 80 := by simpa using hd
    go_wp2_with fail
    refine (refProfile_calls w1 n ao cap L c src dst (hL.ext hx1) (by omega)).mono ?_
    rintro e w6 ⟨yo, ycap, Y, fr, rfl, hyi, hE, hx6⟩
    have HE := Lib.hid hE
    have hx56 := hx1.trans hx6
    clear hE
    go_wp2_with fail
    go_loopw [13] (fun t wr => ∃ k : Nat, k ≤ 2 ∧ t = .int .i64 k ∧ Ext w6 wr) (fun t _ => 2 - (intOf t).toNat)
    case atStart => exact ⟨0, by omega, rfl, Ext.refl _⟩
    case round =>
      obtain ⟨k, hk, rfl, hx⟩ := hrel
      have hxw := hx56.trans hx
      by_cases hlt : k < 2
      · go_wp2_with fail
        refine (bigProfile_calls wr n ao cap L c src dst (hL.ext hxw) (by omega)).mono ?_
        rintro e w7 ⟨v, R, er, rfl, ho, hE7, hRl, hx7⟩
        obtain ⟨rfl, rfl⟩ := hE7.uniq HE.out
        clear hE7
        have hB := hx7.size
        have hto := ho
        obtain ⟨xo, xcap, rfl, hxi⟩ := hto.tripsIn
        clear hto
        have hlen6 : (trips R).length = R.length * 2 := by rw [trips_length]
        go_wp2_with (go_at_call 37; refine (stops_calls w7 xo yo xcap ycap R hxi (hyi.ext (hx.trans hx7)) (by omega) rfl rfl).mono ?_; rintro e w8 ⟨rfl, hx8⟩)
        go_loopw [16] (fun ii ws => ∃ (i : Nat) (vs : List Value), i ≤ R.length ∧ ii = .int .i64 i ∧ Ext wr ws ∧ Own ws wr.heap.size 2 (.slice xo R.length xcap) vs ∧ vs.length = R.length * 2) (fun ii _ => R.length - (intOf ii).toNat)
        case atStart => exact ⟨0, _, by omega, rfl, hx7.trans hx8, ho.ext hx8, hlen6⟩
        case round =>
          rename World => ws
          obtain ⟨i, vs, hi2, rfl, hxs, hos, hvl⟩ := hrel
          by_cases hlt2 : i < R.length
          · obtain ⟨xb, xf, hxo, -⟩ := hxi i hlt2
            subst hxo
            obtain ⟨hc, hf⟩ := hos.cellAt (i * 2 + 1) (by omega)
            rw [List.getElem?_eq_getElem (by omega)] at hc
            have hgb := hos.lt xb rfl
            have hst := fun v => hos.stored (i * 2 + 1) (by omega) v
            rw [← Nat.add_assoc] at hc hf
            simp only [← Nat.add_assoc] at hst
            generalize vs[i * 2 + 1] = u at *
            go_wp2_with fail
            exact ⟨⟨i + 1, _, by omega, rfl, hxs.setOwn _ _ hgb.1, hst _, by simpa using hvl⟩, by simp only [intOf]; omega⟩
          · go_wp2_with fail
            exact ⟨⟨k + 1, by omega, rfl, hx.trans hxs⟩, by simp only [intOf]; omega⟩
      · go_wp2_with fail
        refine (hal _ hxw).mono ?_
        rintro e w2 ⟨rfl, hx2⟩
        go_wp2_with fail
        go_ret
        exact ⟨rfl, hx2⟩
end Go.Proofs.Ytmmjjfjbhogfgaa
