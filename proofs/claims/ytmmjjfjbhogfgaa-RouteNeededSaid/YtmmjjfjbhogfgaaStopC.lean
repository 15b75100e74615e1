/- Profiles of the program and of the specification: profile, look, Points, look. -/
import Derived.Test.YtmmjjfjbhogfgaaStopB
namespace Go.Proofs.Ytmmjjfjbhogfgaa
open Go.RowKit
attribute [local go_sem] Leg.val run_store_fn

theorem tFst_cons (s : Int × Int) (r : Stops) (k : Nat) : tFst (s :: r) (k + 1) = tFst r k := by simp [tFst]
theorem tSnd_cons (s : Int × Int) (r : Stops) (k : Nat) : tSnd (s :: r) (k + 1) = tSnd r k := by simp [tSnd]
theorem lookL_at : ∀ {p : Stops} {t : Int} {k : Nat}, k < p.length → (∀ j, j < k → tFst p j < t) → t ≤ tFst p k → lookL p t = tSnd p k
  | [], t, k, hk, _, _ => by simp at hk
  | s :: r, t, 0, _, _, h => by
    have : t ≤ s.1 := by simpa [tFst] using h
    simp [lookL, this, tSnd]
  | s :: r, t, k + 1, hk, hj, h => by
    have h0 : s.1 < t := by have := hj 0 (by omega); simpa [tFst] using this
    unfold lookL
    rw [if_neg (by omega), tSnd_cons]
    refine lookL_at (by simpa using hk) (fun j hjk => ?_) (by rw [← tFst_cons s]; exact h)
    have := hj (j + 1) (by omega)
    rw [tFst_cons] at this
    exact this
theorem lookL_none : ∀ {p : Stops} {t : Int}, (∀ j, j < p.length → tFst p j < t) → lookL p t = -1
  | [], t, _ => rfl
  | s :: r, t, hj => by
    have h0 : s.1 < t := by have := hj 0 (by simp); simpa [tFst] using this
    unfold lookL
    rw [if_neg (by omega)]
    refine lookL_none (fun j hjk => ?_)
    have := hj (j + 1) (by simpa using hjk)
    rw [tFst_cons] at this
    exact this

/-- What a profile is. -/
def OkAt (p : Stops) (i : Nat) : Prop := 0 ≤ tFst p i ∧ tFst p i < tSnd p i ∧ tSnd p i ≤ 20000 ∧ (0 < i → tFst p (i - 1) < tFst p i ∧ tSnd p (i - 1) < tSnd p i)
def ProfOk (p : Stops) : Prop := p.length ≤ 1000 ∧ ∀ i, i < p.length → OkAt p i
theorem ProfOk.up {p : Stops} (h : ProfOk p) : Up p := by
  rw [up_iff]
  intro i hi
  have := (h.2 (i + 1) hi).2.2.2 (by omega)
  rwa [Nat.add_sub_cancel] at this
theorem ProfOk.bd {p : Stops} (h : ProfOk p) : ∀ s ∈ p, 0 ≤ s.1 ∧ s.1 < s.2 ∧ s.2 ≤ 20000 := by
  intro s hs
  obtain ⟨i, hi, rfl⟩ := List.getElem_of_mem hs
  have := h.2 i hi
  unfold OkAt tFst tSnd at this
  simp only [List.getD_eq_getElem?_getD, List.getElem?_eq_getElem hi, Option.getD_some] at this
  omega
theorem two_stop (w : World) (x y : Int) (t : TypeId) : (w.alloc (.cells #[.int .i64 x, .int .i64 y] t)).cell? ⟨w.heap.size, 0, none⟩ = some (.int .i64 x) ∧ (w.alloc (.cells #[.int .i64 x, .int .i64 y] t)).cell? ⟨w.heap.size, 1, none⟩ = some (.int .i64 y) := by
  constructor <;> simp [go_sem]

def BoolRes (w : World) (P : Prop) (e : Ending) (w' : World) : Prop := ∃ b : Bool, e = .returned (.bool b) ∧ (b = true ↔ P) ∧ Ext w w'
set_option maxRecDepth 100000 in
set_option maxHeartbeats 8000000 in
theorem profile_calls (w : World) (po : Option Addr) (cap : Nat) (p : Stops) (hp : TripsIn w po p) (hl : p.length ≤ 10000000) :
    Calls Try.prog 71 #[.slice po p.length cap] w (BoolRes w (ProfOk p)) := by
  go_enter Try.func71, Try.ntmps71
  by_cases hbig : 1000 < p.length
  · go_wp2_with fail
    go_ret
    exact ⟨false, rfl, by simp; exact fun h => by have := h.1; omega, Ext.refl _⟩
  · go_wp2_with fail
    go_loopw [10] (fun i wr => ∃ k : Nat, k ≤ p.length ∧ i = .int .i64 k ∧ Ext w wr ∧ Hid (∀ j, j < k → OkAt p j)) (fun i _ => p.length - (intOf i).toNat)
    case atStart => exact ⟨0, by omega, rfl, Ext.refl _, Lib.hid (fun j hj => by omega)⟩
    case round =>
      obtain ⟨k, hk, rfl, hx, HX⟩ := hrel
      by_cases hlt : k < p.length
      · obtain ⟨pb, pf, hpo, hpb, hs0, hs1⟩ := (hp.ext hx) k hlt
        subst hpo
        cases h1 : decide (tFst p k < 0) with
        | true =>
          go_wp2_with fail
          refine wp_region_boxed2 (by kernel_rfl) (by kernel_rfl) ?_
          intro w3 hne3 hx3 hc0 hc1 hlt3
          have hcs0 := After.cell hc0 hlt3
          have hcs1 := After.cell hc1 hlt3
          have HNO : Hid (¬ OkAt p (k)) := Lib.hid (fun h => by have := h.1; simp at h1; omega)
          repeat (go_big_quiet_step (fail))
          refine wpQuiet_nil ?_
          intro w4 hx4
          go_wp2_with fail
          go_ret
          exact ⟨false, rfl, by simp; exact fun h => HNO.out (h.2 (k) hlt), hx.trans (hx3.trans hx4)⟩
        | false =>
          cases h2 : decide (tSnd p k ≤ tFst p k) with
          | true =>
            go_wp2_with fail
            refine wp_region_boxed2 (by kernel_rfl) (by kernel_rfl) ?_
            intro w3 hne3 hx3 hc0 hc1 hlt3
            have hcs0 := After.cell hc0 hlt3
            have hcs1 := After.cell hc1 hlt3
            have HNO : Hid (¬ OkAt p (k)) := Lib.hid (fun h => by have := h.2.1; simp at h2; omega)
            repeat (go_big_quiet_step (fail))
            refine wpQuiet_nil ?_
            intro w4 hx4
            go_wp2_with fail
            go_ret
            exact ⟨false, rfl, by simp; exact fun h => HNO.out (h.2 (k) hlt), hx.trans (hx3.trans hx4)⟩
          | false =>
            cases h3 : decide (20000 < tSnd p k) with
            | true =>
              go_wp2_with fail
              refine wp_region_boxed2 (by kernel_rfl) (by kernel_rfl) ?_
              intro w3 hne3 hx3 hc0 hc1 hlt3
              have hcs0 := After.cell hc0 hlt3
              have hcs1 := After.cell hc1 hlt3
              have HNO : Hid (¬ OkAt p (k)) := Lib.hid (fun h => by have := h.2.2.1; simp at h3; omega)
              repeat (go_big_quiet_step (fail))
              refine wpQuiet_nil ?_
              intro w4 hx4
              go_wp2_with fail
              go_ret
              exact ⟨false, rfl, by simp; exact fun h => HNO.out (h.2 (k) hlt), hx.trans (hx3.trans hx4)⟩
            | false =>
              by_cases hk0 : k = 0
              · subst hk0
                rw [Nat.zero_mul, Nat.add_zero] at hs0 hs1
                go_wp2_with fail
                refine wp_region_boxed2 (by kernel_rfl) (by kernel_rfl) ?_
                intro w3 hne3 hx3 hc0 hc1 hlt3
                have hcs0 := After.cell hc0 hlt3
                have hcs1 := After.cell hc1 hlt3
                have HOK : Hid (OkAt p (0)) := Lib.hid ⟨by simp at h1; omega, by simp at h2; omega, by simp at h3; omega, fun h => by omega⟩
                repeat (go_big_quiet_step (fail))
                refine wpQuiet_nil ?_
                intro w4 hx4
                go_wp2_with fail
                refine ⟨⟨(0) + 1, by omega, rfl, hx.trans (hx3.trans hx4), Lib.hid (fun j hj => ?_)⟩, by simp only [intOf]; omega⟩
                rcases Nat.lt_or_ge j (0) with h | h
                · exact HX.out j h
                · obtain rfl : j = (0) := by omega
                  exact HOK.out
              · obtain ⟨q, rfl⟩ : ∃ q, k = q + 1 := ⟨k - 1, by omega⟩
                have hq0 : decide (0 < (q : Int) + 1) = true := by simp only [decide_eq_true_eq]; omega
                cases h4 : decide (tFst p (q + 1) ≤ tFst p q) with
                | true =>
                  go_wp2_with fail
                  refine wp_region_boxed2 (by kernel_rfl) (by kernel_rfl) ?_
                  intro w3 hne3 hx3 hc0 hc1 hlt3
                  have hcs0 := After.cell hc0 hlt3
                  have hcs1 := After.cell hc1 hlt3
                  have hps := ((hp.ext hx).ext hx3).after (k := q) (by omega)
                  have HNO : Hid (¬ OkAt p (q + 1)) := Lib.hid (fun h => by have := h.2.2.2 (by omega); rw [Nat.add_sub_cancel] at this; simp at h4; omega)
                  repeat (go_big_quiet_step (fail))
                  refine wpQuiet_nil ?_
                  intro w4 hx4
                  go_wp2_with fail
                  go_ret
                  exact ⟨false, rfl, by simp; exact fun h => HNO.out (h.2 (q + 1) hlt), hx.trans (hx3.trans hx4)⟩
                | false =>
                  cases h5 : decide (tSnd p (q + 1) ≤ tSnd p q) with
                  | true =>
                    go_wp2_with fail
                    refine wp_region_boxed2 (by kernel_rfl) (by kernel_rfl) ?_
                    intro w3 hne3 hx3 hc0 hc1 hlt3
                    have hcs0 := After.cell hc0 hlt3
                    have hcs1 := After.cell hc1 hlt3
                    have hps := ((hp.ext hx).ext hx3).after (k := q) (by omega)
                    have HNO : Hid (¬ OkAt p (q + 1)) := Lib.hid (fun h => by have := h.2.2.2 (by omega); rw [Nat.add_sub_cancel] at this; simp at h5; omega)
                    repeat (go_big_quiet_step (fail))
                    refine wpQuiet_nil ?_
                    intro w4 hx4
                    go_wp2_with fail
                    go_ret
                    exact ⟨false, rfl, by simp; exact fun h => HNO.out (h.2 (q + 1) hlt), hx.trans (hx3.trans hx4)⟩
                  | false =>
                    go_wp2_with fail
                    refine wp_region_boxed2 (by kernel_rfl) (by kernel_rfl) ?_
                    intro w3 hne3 hx3 hc0 hc1 hlt3
                    have hcs0 := After.cell hc0 hlt3
                    have hcs1 := After.cell hc1 hlt3
                    have hps := ((hp.ext hx).ext hx3).after (k := q) (by omega)
                    have HOK : Hid (OkAt p (q + 1)) := Lib.hid ⟨by simp at h1; omega, by simp at h2; omega, by simp at h3; omega, fun h => by rw [Nat.add_sub_cancel]; simp at h4 h5; omega⟩
                    repeat (go_big_quiet_step (fail))
                    refine wpQuiet_nil ?_
                    intro w4 hx4
                    go_wp2_with fail
                    refine ⟨⟨(q + 1) + 1, by omega, rfl, hx.trans (hx3.trans hx4), Lib.hid (fun j hj => ?_)⟩, by simp only [intOf]; omega⟩
                    rcases Nat.lt_or_ge j (q + 1) with h | h
                    · exact HX.out j h
                    · obtain rfl : j = (q + 1) := by omega
                      exact HOK.out
      · go_wp2_with fail
        go_ret
        exact ⟨true, rfl, by simp; exact ⟨by omega, fun j hj => HX.out j (by omega)⟩, hx⟩
end Go.Proofs.Ytmmjjfjbhogfgaa
