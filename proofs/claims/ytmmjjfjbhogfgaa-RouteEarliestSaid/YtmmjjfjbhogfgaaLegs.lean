/- The law's comparing of legs. -/
import Derived.Test.YtmmjjfjbhogfgaaAlive
import Derived.Laws.StructEq
namespace Go.Proofs.Ytmmjjfjbhogfgaa
open Go.RowKit
attribute [local go_sem] Leg.val run_store_fn

theorem neq_leg (l : Leg) (w : World) : (binOp .neq 38 l.val l.val).run Try.prog w = .ok (.bool false) w := by
  have u3 := Try.underlying3
  have a3 := Try.isAgg3
  have z3 := Try.sizeOf3
  have hS : Try.prog.underlying 38 = some (.struct (Try.prog.fieldsOf 38)) := by kernel_rfl
  have hp : Try.prog.stoodInHeld 38 = false := by kernel_rfl
  simp only [Leg.val]
  rw [run_neq_struct, show (10000 : Nat) = 9999 + 1 from rfl, run_equalIn_agg w 9999 38 _ _ hS hp]
  simp only [Program.fieldsOf, Try.underlying38]
  go_simp

set_option maxRecDepth 100000 in
set_option maxHeartbeats 2000000 in
theorem legs_calls (w : World) (ao bo : Option Addr) (acap bcap : Nat) (L : List Leg) (ha : LegsIn w ao L) (hb : LegsIn w bo L) (hl : L.length ≤ 10000000) :
    Calls Try.prog 23 #[.slice ao L.length acap, .slice bo L.length bcap] w fun e w' => e = .returned (.bool true) ∧ Ext w w' := by
  go_enter Try.func23, Try.ntmps23
  go_wp2_with fail
  go_loopw [5] (fun i wr => ∃ k : Nat, k ≤ L.length ∧ i = .int .i64 k ∧ Ext w wr) (fun i _ => L.length - (intOf i).toNat)
  case atStart => exact ⟨0, by omega, rfl, Ext.refl _⟩
  case round =>
    obtain ⟨k, hk, rfl, hx⟩ := hrel
    by_cases hlt : k < L.length
    · obtain ⟨ab, af, hao, hab, -⟩ := ha.ext hx k hlt
      obtain ⟨bb, bf, hbo, hbb, -⟩ := hb.ext hx k hlt
      subst hao hbo
      have hn : ∀ w, Sem.run Try.prog (binOp .neq 38 (.agg #[.int .i64 (leg L k).From, .int .i64 (leg L k).To, .int .i64 (leg L k).Dep, .int .i64 (leg L k).Arr, .int .i64 (leg L k).Line]) (.agg #[.int .i64 (leg L k).From, .int .i64 (leg L k).To, .int .i64 (leg L k).Dep, .int .i64 (leg L k).Arr, .int .i64 (leg L k).Line])) w = .ok (.bool false) w := neq_leg (leg L k)
      go_wp2_with fail
      refine wp_region_after (by kernel_rfl) (by kernel_rfl) ?_
      intro hne
      have hxs := (ha.ext hx).after hlt
      have hys := (hb.ext hx).after hlt
      repeat (go_big_quiet_step (fail))
      refine wpQuiet_nil ?_
      intro w3 hx3
      go_wp2_with fail
      exact ⟨⟨k + 1, by omega, rfl, hx.trans hx3⟩, by simp only [intOf]; omega⟩
    · go_wp2_with fail
      go_ret
      exact ⟨rfl, hx⟩
end Go.Proofs.Ytmmjjfjbhogfgaa
