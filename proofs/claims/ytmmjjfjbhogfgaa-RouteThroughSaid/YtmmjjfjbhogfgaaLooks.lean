/- RouteLooks and RouteLimit: the walks. -/
import Derived.Test.YtmmjjfjbhogfgaaStopE
import Derived.Test.YtmmjjfjbhogfgaaLawIs
import Derived.Laws.StructEq
namespace Go.Proofs.Ytmmjjfjbhogfgaa
open Go.ChangeShapes Go.WideShapes Go.ChangeAt Go.RowKit
attribute [local go_sem] Leg.val run_store_fn

theorem neq_stop (x y : Int) (w : World) : (binOp .neq 54 (.agg #[.int .i64 x, .int .i64 y]) (.agg #[.int .i64 x, .int .i64 y])).run Try.prog w = .ok (.bool false) w := by
  have u3 := Try.underlying3
  have a3 := Try.isAgg3
  have z3 := Try.sizeOf3
  have hS : Try.prog.underlying 54 = some (.struct (Try.prog.fieldsOf 54)) := by kernel_rfl
  have hp : Try.prog.stoodInHeld 54 = false := by kernel_rfl
  rw [run_neq_struct, show (10000 : Nat) = 9999 + 1 from rfl, run_equalIn_agg w 9999 54 _ _ hS hp]
  simp only [Program.fieldsOf, Try.underlying54]
  go_simp
set_option maxRecDepth 100000 in
set_option maxHeartbeats 2000000 in
theorem stops_calls (w : World) (ao bo : Option Addr) (acap bcap : Nat) (L : Stops) (ha : TripsIn w ao L) (hb : TripsIn w bo L) (hl : L.length ≤ 10000000) {m m' : Nat} (hm : L.length = m) (hm' : L.length = m') :
    Calls Try.prog 37 #[.slice ao m acap, .slice bo m' bcap] w fun e w' => e = .returned (.bool true) ∧ Ext w w' := by
  subst hm hm'
  go_enter Try.func37, Try.ntmps37
  go_wp2_with fail
  go_loopw [5] (fun i wr => ∃ k : Nat, k ≤ L.length ∧ i = .int .i64 k ∧ Ext w wr) (fun i _ => L.length - (intOf i).toNat)
  case atStart => exact ⟨0, by omega, rfl, Ext.refl _⟩
  case round =>
    obtain ⟨k, hk, rfl, hx⟩ := hrel
    by_cases hlt : k < L.length
    · obtain ⟨ab, af, hao, hab, -⟩ := ha.ext hx k hlt
      obtain ⟨bb, bf, hbo, hbb, -⟩ := hb.ext hx k hlt
      subst hao hbo
      have hn : ∀ w, Sem.run Try.prog (binOp .neq 54 (.agg #[.int .i64 (tFst L k), .int .i64 (tSnd L k)]) (.agg #[.int .i64 (tFst L k), .int .i64 (tSnd L k)])) w = .ok (.bool false) w := neq_stop _ _
      go_wp2_with fail
      refine wp_region_after (by kernel_rfl) (by kernel_rfl) ?_
      intro hne
      have hxs := (ha.ext hx).after hlt
      have hys := (hb.ext hx).after hlt
      repeat (go_big_quiet_step (fail))
      refine wpQuiet_nil ?_
      intro w3 hx3
      go_wp2_with fail
      exact ⟨⟨k + 1, by omega, rfl, hx.trans hx3⟩, by simp only [intOf]; omega⟩
    · go_wp2_with fail
      go_ret
      exact ⟨rfl, hx⟩

set_option maxRecDepth 100000 in
set_option maxHeartbeats 4000000 in
theorem routeLooks_calls (w : World) (ao bo : Option Addr) (acap bcap : Nat) (a b : Stops) (at_ wait : Int) (ha : TripsIn w ao a) (hb : TripsIn w bo b) :
    Calls Try.prog 14 #[.slice ao a.length acap, .slice bo b.length bcap, .int .i64 at_, .int .i64 wait] w (TrueRes w) := by
  have hal : ∀ w2, Ext w w2 → Calls Try.prog 19 #[] w2 fun e w' => e = .returned (.bool true) ∧ Ext w w' := fun w2 hx => (alive_calls w2).mono (fun e w' ⟨he, hx'⟩ => ⟨he, hx.trans hx'⟩)
  go_enter Try.func14, Try.ntmps14
  by_cases h1 : 200 < a.length
  · go_wp2_with fail
    refine (hal _ (Ext.refl _)).mono ?_
    rintro e w2 ⟨rfl, hx2⟩
    go_wp2_with fail
    go_ret
    exact ⟨rfl, hx2⟩
  · by_cases h2 : 200 < b.length
    · go_wp2_with fail
      refine (hal _ (Ext.refl _)).mono ?_
      rintro e w2 ⟨rfl, hx2⟩
      go_wp2_with fail
      go_ret
      exact ⟨rfl, hx2⟩
    · go_wp2_with fail
      refine (bigLook_calls w ao acap a at_ ha (by omega)).mono ?_
      rintro e w1 ⟨x, er, rfl, hL1, hx1⟩
      go_wp2_with fail
      refine (refBigLook_calls w1 ao acap a at_ (ha.ext hx1) (by omega)).mono ?_
      rintro e w2 ⟨y, fr, rfl, hL2, hx2⟩
      obtain ⟨rfl, rfl⟩ := hL1.uniq hL2
      clear hL1 hL2
      have hx12 := hx1.trans hx2
      go_wp2_with fail
      refine (then_calls w2 ao bo acap bcap a b wait (ha.ext hx12) (hb.ext hx12) (by omega) (by omega)).mono ?_
      rintro e w3 ⟨v, R, er2, rfl, ho, hT1, hRl, hx3⟩
      have hx13 := hx12.trans hx3
      go_wp2_with fail
      refine (refThen_calls w3 ao bo acap bcap a b wait (ha.ext hx13) (hb.ext hx13) (by omega) (by omega)).mono ?_
      rintro e w4 ⟨vo, vcap, R', fr2, rfl, hti, hT2, hx4⟩
      obtain ⟨rfl, rfl⟩ := hT1.uniq hT2
      clear hT1 hT2
      obtain ⟨xo, xcap, rfl, hxi⟩ := ho.tripsIn
      have hx14 := hx13.trans hx4
      go_wp2_with (go_at_call 37; refine (stops_calls w4 xo vo xcap vcap R (hxi.ext hx4) hti (by omega) rfl rfl).mono ?_; rintro e w5 ⟨rfl, hx5⟩)
      refine (hal _ (hx14.trans hx5)).mono ?_
      rintro e w2 ⟨rfl, hx2⟩
      go_wp2_with fail
      go_ret
      exact ⟨rfl, hx2⟩
end Go.Proofs.Ytmmjjfjbhogfgaa
