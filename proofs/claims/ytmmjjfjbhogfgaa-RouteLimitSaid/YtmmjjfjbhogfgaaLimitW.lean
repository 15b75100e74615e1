/- RouteLimit: the walk. -/
import Derived.Test.YtmmjjfjbhogfgaaLimit
import Derived.Test.YtmmjjfjbhogfgaaLawIs
import Derived.Laws.StructEq
namespace Go.Proofs.Ytmmjjfjbhogfgaa
open Go.ChangeShapes Go.WideShapes Go.ChangeAt Go.RowKit
attribute [local go_sem] Leg.val run_store_fn

theorem eql_stop (x y : Int) (w : World) : (binOp .eql 54 (.agg #[.int .i64 x, .int .i64 y]) (.agg #[.int .i64 x, .int .i64 y])).run Try.prog w = .ok (.bool true) w := by
  have u3 := Try.underlying3
  have a3 := Try.isAgg3
  have z3 := Try.sizeOf3
  have hS : Try.prog.underlying 54 = some (.struct (Try.prog.fieldsOf 54)) := by kernel_rfl
  have hp : Try.prog.stoodInHeld 54 = false := by kernel_rfl
  rw [run_eql_struct, show (10000 : Nat) = 9999 + 1 from rfl, run_equalIn_agg w 9999 54 _ _ hS hp]
  simp only [Program.fieldsOf, Try.underlying54]
  go_simp
theorem look_bad {t x e : Int} (h : LookOf (lim 1001) t x e) : x = 0 ∧ e = 2 := by
  rcases h with ⟨_, h⟩ | ⟨h, _⟩
  · exact h
  · exact (lim_bad h.1).elim
theorem then_bad {R : Stops} {e : Int} (h : ThenOf (lim 1001) (lim 1001) 1 R e) : R = [] ∧ e = 2 := by
  rcases h with ⟨_, h⟩ | ⟨h, _⟩
  · exact h
  · exact (lim_bad h.1).elim
theorem look_good {t x e : Int} (h : LookOf (lim 1000) (t % 1999) x e) : x = (t % 1999 + 1) / 2 * 2 + 1 ∧ e = 0 := by
  have e1 := lim_look (t := t % 1999) (by omega) (by omega)
  rcases h with ⟨h, _⟩ | ⟨h, h'⟩
  · exact (h ⟨lim_ok, by omega, by omega⟩).elim
  · rw [e1] at h'
    omega
set_option maxRecDepth 100000 in
set_option maxHeartbeats 4000000 in
theorem routeLimit_calls (w : World) (more : Bool) (at_ : Int) (h0 : 0 ≤ at_) (h1 : at_ ≤ 65535) :
    Calls Try.prog 15 #[.bool more, .int .u16 at_] w (TrueRes w) := by
  have hal : ∀ w2, Ext w w2 → Calls Try.prog 19 #[] w2 fun e w' => e = .returned (.bool true) ∧ Ext w w' := fun w2 hx => (alive_calls w2).mono (fun e w' ⟨he, hx'⟩ => ⟨he, hx.trans hx'⟩)
  obtain ⟨i0, hi, hz0, hz1, hz2⟩ := info_parts info_stop
  go_enter Try.func15, Try.ntmps15
  cases more with
  | true =>
    go_wp2_with fail
    go_loopw [6, 7] (fun pv i wr => ∃ (k : Nat) (outv : Value), k ≤ 1001 ∧ i = .int .i64 k ∧ outv = pv ∧ Ext w wr ∧ Own wr w.heap.size 2 outv (trips (lim k))) (fun _ i _ => 1001 - (intOf i).toNat)
    case atStart => exact ⟨0, _, by omega, rfl, rfl, Ext.refl _, Own.nil _ _ _⟩
    case round =>
      obtain ⟨k, outv, hk, rfl, rfl, hx, ho⟩ := hrel
      by_cases hlt : k < 1001
      · have hll := lim_length k
        have hxs := hx.size
        go_wp2_with (at_builtin; refine wpList_append_Own _ rfl _ _ 49 rfl 54 i0 (.agg #[.int .i64 0, .int .i64 0]) 2 16 Try.underlying49 hi hz0 hz1 hz2 rfl (by omega) w.heap.size _ _ rfl (Own.ext ho ((Ext.refl _).alloc _)) (by simp; omega) _ 1 1 [.int .i64 (2 * (k : Int)), .int .i64 (2 * (k : Int) + 1)] rfl rfl (two_cell _ _ _ _ _ rfl) (by simp [Value.oneCell']) (by simp [trips_length]; unfold maxLen; omega) (by simp [trips_length]; omega) ?_; intro v' w5 ho5 hg5 hb5)
        have ho6 := Lib.hid ((lim_snoc k) ▸ (trips_snoc (lim k) (2 * (k : Int)) (2 * (k : Int) + 1)))
        have hx5 : Ext w w5 := (hx.alloc _).onto hg5 (fun q hq => (ho.lt q hq).1)
        exact ⟨⟨k + 1, _, by omega, rfl, rfl, hx5, by rw [← ho6.out]; exact ho5⟩, by simp only [intOf]; omega⟩
      · obtain rfl : k = 1001 := by omega
        have hll := lim_length 1001
        obtain ⟨xo, xcap, rfl, hxi⟩ := ho.tripsIn
        go_wp2_with fail
        have hK := bigLook_calls wr xo xcap (lim 1001) (at_ % 1999) hxi (by omega)
        rw [hll] at hK
        refine hK.mono ?_
        rintro e w1 ⟨x, er, rfl, hL1, hx1⟩
        clear hK
        obtain ⟨rfl, rfl⟩ := look_bad hL1
        have hx01 := hx.trans hx1
        have hxi1 := hxi.ext hx1
        go_wp2_with fail
        have hK := then_calls w1 xo xo xcap xcap (lim 1001) (lim 1001) 1 hxi1 hxi1 (by omega) (by omega)
        rw [hll] at hK
        refine hK.mono ?_
        rintro e w2 ⟨v, R, er2, rfl, ho2, hT2, hRl, hx2⟩
        clear hK
        obtain ⟨rfl, rfl⟩ := then_bad hT2
        have hx02 := hx01.trans hx2
        obtain ⟨yo, ycap, rfl, hyi⟩ := ho2.tripsIn
        skip
        go_wp2_with fail
        refine (hal _ hx02).mono ?_
        rintro e w3 ⟨rfl, hx3⟩
        go_wp2_with fail
        go_ret
        exact ⟨rfl, hx3⟩
  | false =>
    go_wp2_with fail
    go_loopw [6, 7] (fun pv i wr => ∃ (k : Nat) (outv : Value), k ≤ 1000 ∧ i = .int .i64 k ∧ outv = pv ∧ Ext w wr ∧ Own wr w.heap.size 2 outv (trips (lim k))) (fun _ i _ => 1000 - (intOf i).toNat)
    case atStart => exact ⟨0, _, by omega, rfl, rfl, Ext.refl _, Own.nil _ _ _⟩
    case round =>
      obtain ⟨k, outv, hk, rfl, rfl, hx, ho⟩ := hrel
      by_cases hlt : k < 1000
      · have hll := lim_length k
        have hxs := hx.size
        go_wp2_with (at_builtin; refine wpList_append_Own _ rfl _ _ 49 rfl 54 i0 (.agg #[.int .i64 0, .int .i64 0]) 2 16 Try.underlying49 hi hz0 hz1 hz2 rfl (by omega) w.heap.size _ _ rfl (Own.ext ho ((Ext.refl _).alloc _)) (by simp; omega) _ 1 1 [.int .i64 (2 * (k : Int)), .int .i64 (2 * (k : Int) + 1)] rfl rfl (two_cell _ _ _ _ _ rfl) (by simp [Value.oneCell']) (by simp [trips_length]; unfold maxLen; omega) (by simp [trips_length]; omega) ?_; intro v' w5 ho5 hg5 hb5)
        have ho6 := Lib.hid ((lim_snoc k) ▸ (trips_snoc (lim k) (2 * (k : Int)) (2 * (k : Int) + 1)))
        have hx5 : Ext w w5 := (hx.alloc _).onto hg5 (fun q hq => (ho.lt q hq).1)
        exact ⟨⟨k + 1, _, by omega, rfl, rfl, hx5, by rw [← ho6.out]; exact ho5⟩, by simp only [intOf]; omega⟩
      · obtain rfl : k = 1000 := by omega
        have hll := lim_length 1000
        obtain ⟨xo, xcap, rfl, hxi⟩ := ho.tripsIn
        go_wp2_with fail
        have hK := bigLook_calls wr xo xcap (lim 1000) (at_ % 1999) hxi (by omega)
        rw [hll] at hK
        refine hK.mono ?_
        rintro e w1 ⟨x, er, rfl, hL1, hx1⟩
        clear hK
        obtain ⟨hxx, rfl⟩ := look_good hL1
        have hx01 := hx.trans hx1
        have hxi1 := hxi.ext hx1
        go_wp2_with fail
        have hK := then_calls w1 xo xo xcap xcap (lim 1000) (lim 1000) 1 hxi1 hxi1 (by omega) (by omega)
        rw [hll] at hK
        refine hK.mono ?_
        rintro e w2 ⟨v, R, er2, rfl, ho2, hT2, hRl, hx2⟩
        clear hK
        obtain ⟨rfl, hR, hR0, hR1⟩ := lim_then hT2
        have hx02 := hx01.trans hx2
        obtain ⟨yo, ycap, rfl, hyi⟩ := ho2.tripsIn
        obtain ⟨pb, pf, rfl, hpb, hs0, hs1⟩ := hyi 0 (by omega); rw [hR0] at hs0; rw [hR1] at hs1; simp only [Nat.zero_mul, Nat.add_zero] at hs0 hs1; have hn : ∀ w, Sem.run Try.prog (binOp .eql 54 (.agg #[.int .i64 0, .int .i64 3]) (.agg #[.int .i64 0, .int .i64 3])) w = .ok (.bool true) w := eql_stop 0 3
        go_wp2_with fail
        refine (hal _ hx02).mono ?_
        rintro e w3 ⟨rfl, hx3⟩
        go_wp2_with fail
        go_ret
        exact ⟨rfl, hx3⟩
end Go.Proofs.Ytmmjjfjbhogfgaa
