/- RouteTrips: the walk. -/
import Derived.Test.YtmmjjfjbhogfgaaTripsR
namespace Go.Proofs.Ytmmjjfjbhogfgaa
open Go.ChangeShapes Go.WideShapes Go.ChangeAt Go.RowKit
attribute [local go_sem] Leg.val run_store_fn

theorem TripsOf.uniq {n : Int} {L : List Leg} {c src dst at_ : Int} {T T' : List (Int × Int)} {e f : Int} (h : TripsOf n L c src dst at_ T e) (h' : TripsOf n L c src dst at_ T' f) : T = T' ∧ e = f := by
  rcases h with ⟨h0, rfl, rfl⟩ | ⟨h0, h1, rfl, rfl⟩ | ⟨h0, h1, hR, rfl⟩ <;> rcases h' with ⟨g0, rfl, rfl⟩ | ⟨g0, g1, rfl, rfl⟩ | ⟨g0, g1, gR, rfl⟩
  · exact ⟨rfl, rfl⟩
  · exact (h0 g0).elim
  · exact (h0 g0).elim
  · exact (g0 h0).elim
  · exact ⟨rfl, rfl⟩
  · exact (g1 h1).elim
  · exact (g0 h0).elim
  · exact (h1 g1).elim
  · have := hR.uniq (fun k a b h h' => h.uniq h') gR
    subst this
    exact ⟨rfl, rfl⟩
theorem neq_trip (x y : Int) (w : World) : (binOp .neq 36 (.agg #[.int .i64 x, .int .i64 y]) (.agg #[.int .i64 x, .int .i64 y])).run Try.prog w = .ok (.bool false) w := by
  have u3 := Try.underlying3
  have a3 := Try.isAgg3
  have z3 := Try.sizeOf3
  have hS : Try.prog.underlying 36 = some (.struct (Try.prog.fieldsOf 36)) := by kernel_rfl
  have hp : Try.prog.stoodInHeld 36 = false := by kernel_rfl
  rw [run_neq_struct, show (10000 : Nat) = 9999 + 1 from rfl, run_equalIn_agg w 9999 36 _ _ hS hp]
  simp only [Program.fieldsOf, Try.underlying36]
  go_simp

set_option maxRecDepth 100000 in
set_option maxHeartbeats 4000000 in
theorem routeTrips_calls (w : World) (n : Int) (ao : Option Addr) (cap : Nat) (L : List Leg) (c src dst at_ : Int) (hL : LegsIn w ao L) :
    Calls Try.prog 4 #[.int .i64 n, .slice ao L.length cap, .int .i64 c, .int .i64 src, .int .i64 dst, .int .i64 at_] w (TrueRes w) := by
  go_enter Try.func4, Try.ntmps4
  go_wp2_with fail
  refine (few_calls w ao L.length cap).mono ?_
  rintro e w1 ⟨rfl, hx1⟩
  have hal : ∀ w2, Ext w w2 → Calls Try.prog 19 #[] w2 fun e w' => e = .returned (.bool true) ∧ Ext w w' := fun w2 hx => (alive_calls w2).mono (fun e w' ⟨he, hx'⟩ => ⟨he, hx.trans hx'⟩)
  cases hd : decide (L.length ≤ 80) with
  | false =>
    go_wp2_with fail
    refine (hal _ (hx1)).mono ?_
    rintro e w2 ⟨rfl, hx2⟩
    go_wp2_with fail
    go_ret
    exact ⟨rfl, hx2⟩
  | true =>
    have hl : L.length ≤ 80 := by simpa using hd
    go_wp2_with fail
    refine (trips_calls w1 n ao cap L c src dst at_ (hL.ext hx1) (by omega)).mono ?_
    rintro e w2 ⟨vt, T, fr, rfl, hoT, hTr, hx2⟩
    have hx12 := hx1.trans hx2
    go_wp2_with fail
    refine (refTrips_calls w2 n ao cap L c src dst at_ (hL.ext hx12) (by omega)).mono ?_
    rintro e w3 ⟨yo, ycap, T', er, rfl, hty, hTr2, hx3⟩
    obtain ⟨rfl, rfl⟩ := hTr.uniq hTr2
    have hTl : T.length ≤ 81 := by
      rcases hTr with ⟨_, rfl, _⟩ | ⟨_, _, rfl, _⟩ | ⟨_, _, hR, _⟩
      · simp
      · simp
      · have := hR.le; omega
    clear hTr hTr2
    have hx13 := hx12.trans hx3
    obtain ⟨to_, tcap, rfl, hti⟩ := hoT.tripsIn
    have hti3 := hti.ext hx3
    go_wp2_with fail
    go_loopw [17] (fun i wr => ∃ k : Nat, k ≤ T.length ∧ i = .int .i64 k ∧ Ext w3 wr) (fun i _ => T.length - (intOf i).toNat)
    case atStart => exact ⟨0, by omega, rfl, Ext.refl _⟩
    case round =>
      obtain ⟨k, hk, rfl, hx⟩ := hrel
      by_cases hlt : k < T.length
      · obtain ⟨tb, tf, hto, htb, -⟩ := hti3.ext hx k hlt
        obtain ⟨yb, yf, hyo, hyb, -⟩ := hty.ext hx k hlt
        subst hto hyo
        have hn : ∀ w, Sem.run Try.prog (binOp .neq 36 (.agg #[.int .i64 (tFst T k), .int .i64 (tSnd T k)]) (.agg #[.int .i64 (tFst T k), .int .i64 (tSnd T k)])) w = .ok (.bool false) w := neq_trip _ _
        go_wp2_with fail
        refine wp_region_after (by kernel_rfl) (by kernel_rfl) ?_
        intro hne
        have hxs := (hti3.ext hx).after hlt
        have hys := (hty.ext hx).after hlt
        repeat (go_big_quiet_step (fail))
        refine wpQuiet_nil ?_
        intro w4 hx4
        go_wp2_with fail
        exact ⟨⟨k + 1, by omega, rfl, hx.trans hx4⟩, by simp only [intOf]; omega⟩
      · go_wp2_with fail
        refine (hal _ (hx13.trans hx)).mono ?_
        rintro e w2 ⟨rfl, hx2⟩
        go_wp2_with fail
        go_ret
        exact ⟨rfl, hx2⟩
end Go.Proofs.Ytmmjjfjbhogfgaa
