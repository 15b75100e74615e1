/- RouteEarliest: the walk. -/
import Derived.Test.YtmmjjfjbhogfgaaLatest
import Derived.Test.YtmmjjfjbhogfgaaLegs
import Derived.Test.YtmmjjfjbhogfgaaTurned
namespace Go.Proofs.Ytmmjjfjbhogfgaa
open Go.ChangeShapes Go.WideShapes Go.ChangeAt Go.RowKit
attribute [local go_sem] Leg.val run_store_fn

set_option maxRecDepth 100000 in
set_option maxHeartbeats 4000000 in
theorem routeEarliest_calls (w : World) (n : Int) (ao : Option Addr) (cap : Nat) (L : List Leg) (c src dst at_ : Int) (hL : LegsIn w ao L) :
    Calls Try.prog 3 #[.int .i64 n, .slice ao L.length cap, .int .i64 c, .int .i64 src, .int .i64 dst, .int .i64 at_] w (TrueRes w) := by
  obtain ⟨i0, hi, hz0, hz1, hz2⟩ := info_parts info_leg
  go_enter Try.func3, Try.ntmps3
  go_wp2_with fail
  refine (few_calls w ao L.length cap).mono ?_
  rintro e w1 ⟨rfl, hx1⟩
  have hal : ∀ w2, Ext w w2 → Calls Try.prog 19 #[] w2 fun e w' => e = .returned (.bool true) ∧ Ext w w' := fun w2 hx => (alive_calls w2).mono (fun e w' ⟨he, hx'⟩ => ⟨he, hx.trans hx'⟩)
  cases hd : decide (L.length ≤ 80) with
  | false =>
    go_wp2_with fail
    refine (hal _ (hx1)).mono ?_
    rintro e w2 ⟨rfl, hx2⟩
    go_wp2_with fail
    go_ret
    exact ⟨rfl, hx2⟩
  | true =>
    have hl : L.length ≤ 80 := by simpa using hd
    have hs1 := hx1.size
    go_wp2_with (at_builtin; refine wpList_append_legs _ rfl _ _ 22 rfl 38 i0 _ Try.underlying22 hi hz0 hz1 hz2 rfl w.heap.size (.slice (some ⟨w1.heap.size, 0, none⟩) 0 0) [] rfl (Own.hollow _ w.heap.size _ 5 (by omega) (by simp)) (by simp; omega) ao cap L rfl (hL.ext (hx1.trans (by repeat (first | exact Ext.refl _ | assumption | refine Ext.alloc ?_ _ | refine Ext.drewN ?_ _ | refine Ext.drew ?_)))) (by simp) (by omega) ?_; intro v5 w5 ho5 hg5 hb5)
    have hx5 : Ext w w5 := (hx1.alloc _).onto hg5 (fun k hk => by simp [Value.ownBlock] at hk; omega)
    rw [List.nil_append] at ho5
    obtain ⟨oo, ocap, rfl, hown⟩ := ho5.legsShape
    refine (refEarliest_calls w5 n ao cap L c src dst at_ (hL.ext hx5) (by omega)).mono ?_
    rintro e w6 ⟨b, yo, ycap, ys, fr, rfl, hyi, hE, hx6⟩
    have hxl := law_len hE
    have HE := Lib.hid hE
    have hx56 := hx5.trans hx6
    have hown6 := hown.ext hx6
    clear hE
    go_wp2_with fail
    go_loopw [17] (fun t wr => ∃ k : Nat, k ≤ 2 ∧ t = .int .i64 k ∧ Ext w6 wr) (fun t _ => 2 - (intOf t).toNat)
    case atStart => exact ⟨0, by omega, rfl, Ext.refl _⟩
    case round =>
      obtain ⟨k, hk, rfl, hx⟩ := hrel
      have hxw := hx56.trans hx
      by_cases hlt : k < 2
      · go_wp2_with fail
        refine (earliest_calls wr n oo ocap L c src dst at_ (hown6.ext hx) (by omega)).mono ?_
        rintro e w7 ⟨a, v, xs, er, rfl, ho, hE7, hx7⟩
        obtain ⟨rfl, rfl, rfl⟩ := hE7.uniq HE.out
        clear hE7
        have hB := hx7.size
        obtain ⟨xo, xcap, rfl, hxi, -⟩ := ho.intsShape
        rw [nats_length] at ho ⊢
        have hlen6 : (ints (nats xs)).length = xs.length := by rw [ints_length, nats_length]
        go_wp2_with (go_at_call 22; refine (same_len w7 xo yo xcap ycap xs hxi (hyi.ext (hx.trans hx7)) (by omega) rfl rfl).mono ?_; rintro e w8 ⟨rfl, hx8⟩)
        go_loopw [21] (fun ii ws => ∃ (i : Nat) (vs : List Value), i ≤ xs.length ∧ ii = .int .i64 i ∧ Ext wr ws ∧ Own ws wr.heap.size 1 (.slice xo xs.length xcap) vs ∧ vs.length = xs.length) (fun ii _ => xs.length - (intOf ii).toNat)
        case atStart => exact ⟨0, _, by omega, rfl, hx7.trans hx8, ho.ext hx8, hlen6⟩
        case round =>
          rename World => ws
          obtain ⟨i, vs, hi2, rfl, hxs, hos, hvl⟩ := hrel
          by_cases hlt2 : i < xs.length
          · obtain ⟨xb, xf, hxo, -⟩ := hxi 0 (by rw [nats_length]; omega)
            subst hxo
            obtain ⟨hc, hf⟩ := hos.valAt (k := i) (by omega)
            have hgb := hos.lt xb rfl
            generalize vs.getD i nilV = u at *
            go_wp2_with fail
            exact ⟨⟨i + 1, _, by omega, rfl, hxs.setOwn _ _ hgb.1, hos.stored i (by omega) _, by simpa using hvl⟩, by simp only [intOf]; omega⟩
          · go_wp2_with fail
            exact ⟨⟨k + 1, by omega, rfl, hx.trans hxs⟩, by simp only [intOf]; omega⟩
      · go_wp2_with (go_at_call 23; refine (legs_calls _ oo ao ocap cap L (hown6.ext hx) (hL.ext hxw) (by omega)).mono ?_; rintro e w8 ⟨rfl, hx8⟩)
        refine (hal _ (hxw.trans hx8)).mono ?_
        rintro e w2 ⟨rfl, hx2⟩
        go_wp2_with fail
        go_ret
        exact ⟨rfl, hx2⟩
end Go.Proofs.Ytmmjjfjbhogfgaa
