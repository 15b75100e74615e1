/- Points and look of the specification, look of the program, Look of both. -/
import Derived.Test.YtmmjjfjbhogfgaaStopC
namespace Go.Proofs.Ytmmjjfjbhogfgaa
open Go.RowKit
attribute [local go_sem] Leg.val run_store_fn

set_option maxRecDepth 100000 in
set_option maxHeartbeats 8000000 in
theorem points_calls (w : World) (po : Option Addr) (cap : Nat) (p : Stops) (hp : TripsIn w po p) (hl : p.length ≤ 10000000) :
    Calls Try.prog 73 #[.slice po p.length cap] w (BoolRes w (ProfOk p)) := by
  go_enter Try.func73, Try.ntmps73
  by_cases hbig : 1000 < p.length
  · go_wp2_with fail
    go_ret
    exact ⟨false, rfl, by simp; exact fun h => by have := h.1; omega, Ext.refl _⟩
  · go_wp2_with fail
    go_loopw [3] (fun i wr => ∃ k : Nat, k ≤ p.length ∧ i = .int .i64 k ∧ Ext w wr ∧ Hid (∀ j, j < k → OkAt p j)) (fun i _ => p.length - (intOf i).toNat)
    case atStart => exact ⟨0, by omega, rfl, Ext.refl _, Lib.hid (fun j hj => by omega)⟩
    case round =>
      obtain ⟨k, hk, rfl, hx, HX⟩ := hrel
      by_cases hlt : k < p.length
      · obtain ⟨pb, pf, hpo, hpb, hs0, hs1⟩ := (hp.ext hx) k hlt
        subst hpo
        cases h1 : decide (tFst p k < 0) with
        | true =>
          go_wp2_with fail
          refine wp_region_after (by kernel_rfl) (by kernel_rfl) ?_
          intro hne3
          have hcs := (hp.ext hx).after hlt
          have HNO : Hid (¬ OkAt p (k)) := Lib.hid (fun h => by have := h.1; simp at h1; omega)
          repeat (go_big_quiet_step (fail))
          refine wpQuiet_nil ?_
          intro w4 hx4
          go_wp2_with fail
          go_ret
          exact ⟨false, rfl, by simp; exact fun h => HNO.out (h.2 (k) hlt), hx.trans hx4⟩
        | false =>
          cases h2 : decide (tSnd p k ≤ tFst p k) with
          | true =>
            go_wp2_with fail
            refine wp_region_after (by kernel_rfl) (by kernel_rfl) ?_
            intro hne3
            have hcs := (hp.ext hx).after hlt
            have HNO : Hid (¬ OkAt p (k)) := Lib.hid (fun h => by have := h.2.1; simp at h2; omega)
            repeat (go_big_quiet_step (fail))
            refine wpQuiet_nil ?_
            intro w4 hx4
            go_wp2_with fail
            go_ret
            exact ⟨false, rfl, by simp; exact fun h => HNO.out (h.2 (k) hlt), hx.trans hx4⟩
          | false =>
            cases h3 : decide (20000 < tSnd p k) with
            | true =>
              go_wp2_with fail
              refine wp_region_after (by kernel_rfl) (by kernel_rfl) ?_
              intro hne3
              have hcs := (hp.ext hx).after hlt
              have HNO : Hid (¬ OkAt p (k)) := Lib.hid (fun h => by have := h.2.2.1; simp at h3; omega)
              repeat (go_big_quiet_step (fail))
              refine wpQuiet_nil ?_
              intro w4 hx4
              go_wp2_with fail
              go_ret
              exact ⟨false, rfl, by simp; exact fun h => HNO.out (h.2 (k) hlt), hx.trans hx4⟩
            | false =>
              by_cases hk0 : k = 0
              · subst hk0
                go_wp2_with fail
                refine wp_region_after (by kernel_rfl) (by kernel_rfl) ?_
                intro hne3
                have hcs := (hp.ext hx).after hlt
                rw [Nat.zero_mul, Nat.add_zero] at hcs
                have HOK : Hid (OkAt p (0)) := Lib.hid ⟨by simp at h1; omega, by simp at h2; omega, by simp at h3; omega, fun h => by omega⟩
                repeat (go_big_quiet_step (fail))
                refine wpQuiet_nil ?_
                intro w4 hx4
                go_wp2_with fail
                refine ⟨⟨(0) + 1, by omega, rfl, hx.trans hx4, Lib.hid (fun j hj => ?_)⟩, by simp only [intOf]; omega⟩
                rcases Nat.lt_or_ge j (0) with h | h
                · exact HX.out j h
                · obtain rfl : j = (0) := by omega
                  exact HOK.out
              · obtain ⟨q, rfl⟩ : ∃ q, k = q + 1 := ⟨k - 1, by omega⟩
                have hq0 : decide (0 < (q : Int) + 1) = true := by simp only [decide_eq_true_eq]; omega
                cases h4 : decide (tFst p (q + 1) ≤ tFst p q) with
                | true =>
                  go_wp2_with fail
                  refine wp_region_after (by kernel_rfl) (by kernel_rfl) ?_
                  intro hne3
                  have hcs := (hp.ext hx).after hlt
                  have hps := (hp.ext hx).after (k := q) (by omega)
                  have HNO : Hid (¬ OkAt p (q + 1)) := Lib.hid (fun h => by have := h.2.2.2 (by omega); rw [Nat.add_sub_cancel] at this; simp at h4; omega)
                  repeat (go_big_quiet_step (fail))
                  refine wpQuiet_nil ?_
                  intro w4 hx4
                  go_wp2_with fail
                  go_ret
                  exact ⟨false, rfl, by simp; exact fun h => HNO.out (h.2 (q + 1) hlt), hx.trans hx4⟩
                | false =>
                  cases h5 : decide (tSnd p (q + 1) ≤ tSnd p q) with
                  | true =>
                    go_wp2_with fail
                    refine wp_region_after (by kernel_rfl) (by kernel_rfl) ?_
                    intro hne3
                    have hcs := (hp.ext hx).after hlt
                    have hps := (hp.ext hx).after (k := q) (by omega)
                    have HNO : Hid (¬ OkAt p (q + 1)) := Lib.hid (fun h => by have := h.2.2.2 (by omega); rw [Nat.add_sub_cancel] at this; simp at h5; omega)
                    repeat (go_big_quiet_step (fail))
                    refine wpQuiet_nil ?_
                    intro w4 hx4
                    go_wp2_with fail
                    go_ret
                    exact ⟨false, rfl, by simp; exact fun h => HNO.out (h.2 (q + 1) hlt), hx.trans hx4⟩
                  | false =>
                    go_wp2_with fail
                    refine wp_region_after (by kernel_rfl) (by kernel_rfl) ?_
                    intro hne3
                    have hcs := (hp.ext hx).after hlt
                    have hps := (hp.ext hx).after (k := q) (by omega)
                    have HOK : Hid (OkAt p (q + 1)) := Lib.hid ⟨by simp at h1; omega, by simp at h2; omega, by simp at h3; omega, fun h => by rw [Nat.add_sub_cancel]; simp at h4 h5; omega⟩
                    repeat (go_big_quiet_step (fail))
                    refine wpQuiet_nil ?_
                    intro w4 hx4
                    go_wp2_with fail
                    refine ⟨⟨(q + 1) + 1, by omega, rfl, hx.trans hx4, Lib.hid (fun j hj => ?_)⟩, by simp only [intOf]; omega⟩
                    rcases Nat.lt_or_ge j (q + 1) with h | h
                    · exact HX.out j h
                    · obtain rfl : j = (q + 1) := by omega
                      exact HOK.out
      · go_wp2_with fail
        go_ret
        exact ⟨true, rfl, by simp; exact ⟨by omega, fun j hj => HX.out j (by omega)⟩, hx⟩

theorem look_calls (w : World) (po : Option Addr) (cap : Nat) (p : Stops) (t : Int) (hp : TripsIn w po p) (hl : p.length ≤ 10000000) {m : Nat} (hm : p.length = m) :
    Calls Try.prog 72 #[.slice po m cap, .int .i64 t] w fun e w' => e = .returned (.int .i64 (lookL p t)) ∧ Ext w w' := by
  subst hm
  go_enter Try.func72, Try.ntmps72
  go_wp2_with fail
  go_loopw [9] (fun i wr => ∃ k : Nat, k ≤ p.length ∧ i = .int .i64 k ∧ Ext w wr ∧ Hid (∀ j, j < k → tFst p j < t)) (fun i _ => p.length - (intOf i).toNat)
  case atStart => exact ⟨0, by omega, rfl, Ext.refl _, Lib.hid (fun j hj => by omega)⟩
  case round =>
    obtain ⟨k, hk, rfl, hx, HX⟩ := hrel
    by_cases hlt : k < p.length
    · obtain ⟨pb, pf, hpo, hpb, hs0, hs1⟩ := (hp.ext hx) k hlt
      subst hpo
      by_cases h1 : t ≤ tFst p k
      · have HL := Lib.hid (lookL_at hlt HX.out h1)
        go_wp2_with fail
        go_ret
        exact ⟨ret_int HL.out.symm, hx.alloc _⟩
      · have HN : Hid (¬ t ≤ tFst p k) := Lib.hid h1
        go_wp2_with fail
        refine ⟨⟨k + 1, by omega, rfl, hx.alloc _, Lib.hid (fun j hj => ?_)⟩, by simp only [intOf]; omega⟩
        rcases Nat.lt_or_ge j k with h | h
        · exact HX.out j h
        · obtain rfl : j = k := by omega
          have := HN.out; omega
    · go_wp2_with fail
      go_ret
      exact ⟨ret_int (lookL_none (fun j hj => HX.out j (by omega))).symm, hx⟩

def IdxAt (p : Stops) (t r : Int) : Prop := (r = -1 ∧ lookL p t = -1) ∨ ∃ k : Nat, r = (k : Int) ∧ k < p.length ∧ lookL p t = tSnd p k
theorem refLook_calls (w : World) (po : Option Addr) (cap : Nat) (p : Stops) (t : Int) (hp : TripsIn w po p) (hl : p.length ≤ 10000000) {m : Nat} (hm : p.length = m) :
    Calls Try.prog 74 #[.slice po m cap, .int .i64 t] w fun e w' => (∃ r, e = .returned (.int .i64 r) ∧ IdxAt p t r) ∧ Ext w w' := by
  subst hm
  go_enter Try.func74, Try.ntmps74
  go_wp2_with fail
  go_loopw [5] (fun i wr => ∃ k : Nat, k ≤ p.length ∧ i = .int .i64 k ∧ Ext w wr ∧ Hid (∀ j, j < k → tFst p j < t)) (fun i _ => p.length - (intOf i).toNat)
  case atStart => exact ⟨0, by omega, rfl, Ext.refl _, Lib.hid (fun j hj => by omega)⟩
  case round =>
    obtain ⟨k, hk, rfl, hx, HX⟩ := hrel
    by_cases hlt : k < p.length
    · obtain ⟨pb, pf, hpo, hpb, hs0, hs1⟩ := (hp.ext hx) k hlt
      subst hpo
      by_cases h1 : t ≤ tFst p k
      · have HL := Lib.hid (lookL_at hlt HX.out h1)
        go_wp2_with fail
        go_ret
        exact ⟨⟨_, rfl, .inr ⟨k, rfl, hlt, HL.out⟩⟩, hx⟩
      · have HN : Hid (¬ t ≤ tFst p k) := Lib.hid h1
        go_wp2_with fail
        refine ⟨⟨k + 1, by omega, rfl, hx, Lib.hid (fun j hj => ?_)⟩, by simp only [intOf]; omega⟩
        rcases Nat.lt_or_ge j k with h | h
        · exact HX.out j h
        · obtain rfl : j = k := by omega
          have := HN.out; omega
    · go_wp2_with fail
      go_ret
      exact ⟨⟨_, rfl, .inl ⟨rfl, lookL_none (fun j hj => HX.out j (by omega))⟩⟩, hx⟩

/-- What Look answers. -/
def LookOf (p : Stops) (t a e : Int) : Prop :=
  (¬ (ProfOk p ∧ 0 ≤ t ∧ t ≤ 20000) ∧ a = 0 ∧ e = 2) ∨ ((ProfOk p ∧ 0 ≤ t ∧ t ≤ 20000) ∧ ((lookL p t < 0 ∧ a = 0 ∧ e = 10) ∨ (0 ≤ lookL p t ∧ a = lookL p t ∧ e = 0)))
theorem LookOf.uniq {p : Stops} {t a e a' e' : Int} (h : LookOf p t a e) (h' : LookOf p t a' e') : a = a' ∧ e = e' := by
  rcases h with ⟨h1, rfl, rfl⟩ | ⟨h1, ⟨h2, rfl, rfl⟩ | ⟨h2, rfl, rfl⟩⟩ <;> rcases h' with ⟨g1, rfl, rfl⟩ | ⟨g1, ⟨g2, rfl, rfl⟩ | ⟨g2, rfl, rfl⟩⟩
  all_goals first
    | exact ⟨rfl, rfl⟩
    | exact (h1 g1).elim
    | exact (g1 h1).elim
    | (exfalso; omega)
def LookRes (w : World) (p : Stops) (t : Int) (e : Ending) (w' : World) : Prop := ∃ a er, e = .returned (.tuple #[.int .i64 a, .int .i64 er]) ∧ LookOf p t a er ∧ Ext w w'
set_option maxRecDepth 100000 in
theorem bigLook_calls (w : World) (po : Option Addr) (cap : Nat) (p : Stops) (t : Int) (hp : TripsIn w po p) (hl : p.length ≤ 10000000) :
    Calls Try.prog 38 #[.slice po p.length cap, .int .i64 t] w (LookRes w p t) := by
  go_enter Try.func38, Try.ntmps38
  go_wp2_with fail
  refine (profile_calls w po cap p hp hl).mono ?_
  rintro e w1 ⟨b, rfl, hb, hx1⟩
  have HPB := Lib.hid hb
  clear hb
  cases b with
  | false =>
    have HB : Hid (¬ (ProfOk p ∧ 0 ≤ t ∧ t ≤ 20000)) := Lib.hid (fun h => by have := HPB.out.2 h.1; cases this)
    go_wp2_with fail
    go_ret2
    exact ⟨0, 2, rfl, .inl ⟨HB.out, rfl, rfl⟩, hx1⟩
  | true =>
    by_cases h1 : t < 0
    · have HB : Hid (¬ (ProfOk p ∧ 0 ≤ t ∧ t ≤ 20000)) := Lib.hid (fun h => by omega)
      go_wp2_with fail
      go_ret2
      exact ⟨0, 2, rfl, .inl ⟨HB.out, rfl, rfl⟩, hx1⟩
    · by_cases h2 : 20000 < t
      · have HB : Hid (¬ (ProfOk p ∧ 0 ≤ t ∧ t ≤ 20000)) := Lib.hid (fun h => by omega)
        go_wp2_with fail
        go_ret2
        exact ⟨0, 2, rfl, .inl ⟨HB.out, rfl, rfl⟩, hx1⟩
      · have HB : Hid (ProfOk p ∧ 0 ≤ t ∧ t ≤ 20000) := Lib.hid ⟨HPB.out.1 rfl, by omega, by omega⟩
        go_wp2_with (go_at_call 72; refine (look_calls _ po cap p t (hp.ext hx1) hl rfl).mono ?_; rintro e w2 ⟨rfl, hx2⟩)
        · go_ret2
          exact ⟨0, 10, rfl, .inr ⟨HB.out, .inl ⟨by assumption, rfl, rfl⟩⟩, hx1.trans hx2⟩
        · go_ret2
          exact ⟨_, 0, rfl, .inr ⟨HB.out, .inr ⟨by assumption, rfl, rfl⟩⟩, hx1.trans hx2⟩
set_option maxRecDepth 100000 in
theorem refBigLook_calls (w : World) (po : Option Addr) (cap : Nat) (p : Stops) (t : Int) (hp : TripsIn w po p) (hl : p.length ≤ 10000000) :
    Calls Try.prog 39 #[.slice po p.length cap, .int .i64 t] w (LookRes w p t) := by
  go_enter Try.func39, Try.ntmps39
  go_wp2_with fail
  refine (points_calls w po cap p hp hl).mono ?_
  rintro e w1 ⟨b, rfl, hb, hx1⟩
  have HPB := Lib.hid hb
  clear hb
  cases b with
  | false =>
    have HB : Hid (¬ (ProfOk p ∧ 0 ≤ t ∧ t ≤ 20000)) := Lib.hid (fun h => by have := HPB.out.2 h.1; cases this)
    go_wp2_with fail
    go_ret2
    exact ⟨0, 2, rfl, .inl ⟨HB.out, rfl, rfl⟩, hx1⟩
  | true =>
    by_cases h1 : t < 0
    · have HB : Hid (¬ (ProfOk p ∧ 0 ≤ t ∧ t ≤ 20000)) := Lib.hid (fun h => by omega)
      go_wp2_with fail
      go_ret2
      exact ⟨0, 2, rfl, .inl ⟨HB.out, rfl, rfl⟩, hx1⟩
    · by_cases h2 : 20000 < t
      · have HB : Hid (¬ (ProfOk p ∧ 0 ≤ t ∧ t ≤ 20000)) := Lib.hid (fun h => by omega)
        go_wp2_with fail
        go_ret2
        exact ⟨0, 2, rfl, .inl ⟨HB.out, rfl, rfl⟩, hx1⟩
      · have HB : Hid (ProfOk p ∧ 0 ≤ t ∧ t ≤ 20000) := Lib.hid ⟨HPB.out.1 rfl, by omega, by omega⟩
        go_wp2_with fail
        refine (refLook_calls _ po cap p t (hp.ext hx1) hl rfl).mono ?_
        rintro e w2 ⟨⟨r, rfl, hr⟩, hx2⟩
        rcases hr with ⟨rfl, hr⟩ | ⟨k, rfl, hk, hr⟩
        · have HR := Lib.hid hr
          clear hr
          go_wp2_with fail
          go_ret2
          exact ⟨0, 10, rfl, .inr ⟨HB.out, .inl ⟨by rw [HR.out]; omega, rfl, rfl⟩⟩, hx1.trans hx2⟩
        · have HR := Lib.hid hr
          have h0 : Hid (0 ≤ tSnd p k) := Lib.hid (by have := HB.out.1.2 k hk; unfold OkAt at this; omega)
          obtain ⟨pb, pf, hpo, hpb, hs0, hs1⟩ := (hp.ext (hx1.trans hx2)) k hk
          subst hpo
          clear hr
          go_wp2_with fail
          go_ret2
          exact ⟨_, 0, rfl, .inr ⟨HB.out, .inr ⟨by rw [HR.out]; exact h0.out, HR.out.symm, rfl⟩⟩, hx1.trans hx2⟩
end Go.Proofs.Ytmmjjfjbhogfgaa
