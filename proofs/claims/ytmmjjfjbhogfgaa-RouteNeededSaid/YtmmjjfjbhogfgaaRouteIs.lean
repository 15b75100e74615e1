/- Is of the specification; the law RouteIs. -/
import Derived.Test.YtmmjjfjbhogfgaaIs
import Derived.Test.YtmmjjfjbhogfgaaAlive
import Derived.Test.YtmmjjfjbhogfgaaOpen
namespace Go.Proofs.Ytmmjjfjbhogfgaa
open Go.RowKit
attribute [local go_sem] Leg.val run_store_fn

set_option maxRecDepth 100000 in
set_option maxHeartbeats 4000000 in
theorem refIs_calls (w : World) (n : Int) (ao : Option Addr) (cap : Nat) (L : List Leg) (c src dst at_ : Int) (jo : Option Addr) (jcap : Nat) (J : List Int) (hL : LegsIn w ao L) (hlen : L.length ≤ 10000000) (hJ : IntsIn w jo J) (hJl : J.length ≤ 10000000) :
    Calls Try.prog 27 #[.int .i64 n, .slice ao L.length cap, .int .i64 c, .int .i64 src, .int .i64 dst, .int .i64 at_, .slice jo J.length jcap] w (IsRes w n L c src dst at_ J) := by
  go_enter Try.func27, Try.ntmps27
  go_wp2_with fail
  obtain ⟨hx4, hts⟩ := one_int' w 3 at_
  generalize w.alloc (Obj.cells #[Value.int IntKind.i64 at_] 3) = w4 at *
  refine (good_calls w4 n ao cap L c src dst _ 1 [at_] (hL.ext hx4) hlen hts (by simp)).mono ?_
  rintro e w5 ⟨rfl, hx5⟩
  have hxw5 := hx4.trans hx5
  cases hne : (goodE n L c src dst [at_] != 0) with
  | true =>
    have hg : goodE n L c src dst [at_] ≠ 0 := by simpa using hne
    have HG := Lib.hid hg
    clear hg
    go_wp2_with fail
    go_ret2
    exact ⟨false, _, rfl, .inl ⟨HG.out, rfl, rfl⟩, hxw5⟩
  | false =>
    have hg : goodE n L c src dst [at_] = 0 := by simpa using hne
    have HG := Lib.hid hg
    have hgood := good_iff.1 hg
    have hlen2 := hgood.len
    have hc : 0 ≤ c ∧ c ≤ 101 := by have := hgood.change; omega
    have HF := Lib.hid hgood.fine
    clear hg hgood
    by_cases hj0 : J = []
    · subst hj0
      have HJ := Lib.hid (rfl : ([] : List Int) = [])
      go_wp2_with fail
      go_ret2
      exact ⟨_, 0, rfl, .inr (.inl ⟨HG.out, rfl, rfl, rfl⟩), hxw5⟩
    · have HJ := Lib.hid hj0
      have hJp : 0 < J.length := List.length_pos_iff.2 hj0
      clear hj0
      go_wp2_with fail
      go_loopw [17] (fun i wr => ∃ k : Nat, k ≤ J.length ∧ i = .int .i64 k ∧ Ext w5 wr ∧ Hid (∀ j, j < k → JStep c L J j)) (fun i _ => J.length - (intOf i).toNat)
      case atStart => exact ⟨0, by omega, rfl, Ext.refl _, Lib.hid (fun j hj => by omega)⟩
      case round =>
        obtain ⟨k, hk, rfl, hx, HX⟩ := hrel
        have hxw := hxw5.trans hx
        by_cases hlt : k < J.length
        · obtain ⟨jb, jf, hjo, hjb, hjc⟩ := hJ.ext hxw k hlt
          subst hjo
          cases hd : decide (ith J k < 0) with
          | true =>
            go_wp2_with fail
            refine wp_region_after (by kernel_rfl) (by kernel_rfl) ?_
            intro hne
            have hjs := (hJ.ext hxw).after hlt
            have hcs := trivial
            repeat (go_big_quiet_step (fail))
            refine wpQuiet_nil ?_
            intro w3 hx3
            have HK : Hid (¬ JOk c L src dst at_ J) := Lib.hid (jok_not hlt (fun h => by have := h.1; simp at hd; omega))
            have HC := Lib.hid hcs
            clear hcs
            go_wp2_with fail
            go_ret2
            exact ⟨false, 0, rfl, .inr (.inr ⟨HG.out, HJ.out, rfl, by simpa using HK.out⟩), hxw.trans hx3⟩
          | false =>
            cases hd1 : decide ((L.length : Int) ≤ ith J k) with
            | true =>
              go_wp2_with fail
              refine wp_region_after (by kernel_rfl) (by kernel_rfl) ?_
              intro hne
              have hjs := (hJ.ext hxw).after hlt
              have hcs := trivial
              repeat (go_big_quiet_step (fail))
              refine wpQuiet_nil ?_
              intro w3 hx3
              have HK : Hid (¬ JOk c L src dst at_ J) := Lib.hid (jok_not hlt (fun h => by have := h.2.1; simp at hd1; omega))
              have HC := Lib.hid hcs
              clear hcs
              go_wp2_with fail
              go_ret2
              exact ⟨false, 0, rfl, .inr (.inr ⟨HG.out, HJ.out, rfl, by simpa using HK.out⟩), hxw.trans hx3⟩
            | false =>
              obtain ⟨q, hq⟩ : ∃ q : Nat, ith J k = (q : Int) := ⟨(ith J k).toNat, by simp at hd; omega⟩
              have hqm : q < L.length := by simp at hd1; omega
              obtain ⟨lb, lf, hlo, hlb, -⟩ := hL.ext hxw q hqm
              subst hlo
              have hqz : decide ((q : Int) < 0) = false := by simp only [decide_eq_false_iff_not]; omega
              have hqz2 : decide ((L.length : Int) ≤ (q : Int)) = false := by simp only [decide_eq_false_iff_not]; omega
              have hqz3 : decide (L.length ≤ q) = false := by simp only [decide_eq_false_iff_not]; omega
              have hq0 : (ith J k).toNat = q := by rw [hq]; simp
              by_cases hk0 : k = 0
              · subst hk0
                go_wp2_with fail
                refine wp_region_after (by kernel_rfl) (by kernel_rfl) ?_
                intro hne
                have hjs := (hJ.ext hxw).after hlt
                rw [hq, Nat.add_zero] at hjs
                have hcs := trivial
                repeat (go_big_quiet_step (fail))
                refine wpQuiet_nil ?_
                intro w3 hx3
                have HK : Hid (JStep c L J 0) := Lib.hid ⟨by omega, by omega, fun h => by omega⟩
                have HC := Lib.hid hcs
                clear hcs
                go_wp2_with fail
                refine ⟨⟨0 + 1, by omega, rfl, hx.trans hx3, Lib.hid (fun j hj => ?_)⟩, by simp only [intOf]; omega⟩
                rcases Nat.lt_or_ge j 0 with h | h
                · exact HX.out j h
                · obtain rfl : j = 0 := by omega
                  exact HK.out
              · obtain ⟨p, rfl⟩ : ∃ p, k = p + 1 := ⟨k - 1, by omega⟩
                have hkz : ((p : Int) + 1 == 0) = false := by simp only [beq_eq_false_iff_ne]; omega
                have hkp : decide (0 < (p : Int) + 1) = true := by simp only [decide_eq_true_eq]; omega
                have hprev := HX.out p (by omega)
                obtain ⟨r, hr⟩ : ∃ r : Nat, ith J p = (r : Int) := ⟨(ith J p).toNat, by have := hprev.1; omega⟩
                have hrm : r < L.length := by have := hprev.2.1; omega
                have hr0 : (ith J p).toNat = r := by rw [hr]; simp
                have hfr := HF.out r hrm
                have harr : 0 ≤ (leg L r).Arr ∧ (leg L r).Arr ≤ 10000 := by unfold Fine at hfr; omega
                clear hprev
                cases hfl : folB c (leg L r) (leg L q) with
                | true =>
                  go_wp2_with fail
                  refine wp_region_after (by kernel_rfl) (by kernel_rfl) ?_
                  intro hne
                  have hqs := (hL.ext hxw).after hqm
                  have hjs := (hJ.ext hxw).after hlt
                  rw [hq] at hjs
                  have hps := (hJ.ext hxw).after (k := p) (by omega)
                  rw [hr] at hps
                  have hrs := (hL.ext hxw).after hrm
                  have hcs := hfl
                  repeat (go_big_quiet_step ((go_at_call 56; exact Calls.after_eq (congrArg Value.bool hfl) (joins_calls _ (leg L r) (leg L q) c harr hc))))
                  refine wpQuiet_nil ?_
                  intro w3 hx3
                  have HK : Hid (JStep c L J (p + 1)) := Lib.hid ⟨by omega, by omega, fun _ => by rw [Nat.add_sub_cancel, hr0, hq0]; exact hcs⟩
                  have HC := Lib.hid hcs
                  clear hcs
                  go_wp2_with fail
                  refine ⟨⟨(p + 1) + 1, by omega, rfl, hx.trans hx3, Lib.hid (fun j hj => ?_)⟩, by simp only [intOf]; omega⟩
                  rcases Nat.lt_or_ge j (p + 1) with h | h
                  · exact HX.out j h
                  · obtain rfl : j = (p + 1) := by omega
                    exact HK.out
                | false =>
                  go_wp2_with fail
                  refine wp_region_after (by kernel_rfl) (by kernel_rfl) ?_
                  intro hne
                  have hqs := (hL.ext hxw).after hqm
                  have hjs := (hJ.ext hxw).after hlt
                  rw [hq] at hjs
                  have hps := (hJ.ext hxw).after (k := p) (by omega)
                  rw [hr] at hps
                  have hrs := (hL.ext hxw).after hrm
                  have hcs := hfl
                  repeat (go_big_quiet_step ((go_at_call 56; exact Calls.after_eq (congrArg Value.bool hfl) (joins_calls _ (leg L r) (leg L q) c harr hc))))
                  refine wpQuiet_nil ?_
                  intro w3 hx3
                  have HK : Hid (¬ JOk c L src dst at_ J) := Lib.hid (jok_not hlt (fun h => by have := h.2.2 (by omega); rw [Nat.add_sub_cancel, hr0, hq0] at this; unfold folL at this; rw [hcs] at this; simp at this))
                  have HC := Lib.hid hcs
                  clear hcs
                  go_wp2_with fail
                  go_ret2
                  exact ⟨false, 0, rfl, .inr (.inr ⟨HG.out, HJ.out, rfl, by simpa using HK.out⟩), hxw.trans hx3⟩
        · obtain rfl : k = J.length := by omega
          obtain ⟨p, hp⟩ : ∃ p, J.length = p + 1 := ⟨J.length - 1, by omega⟩
          have hstep := HX.out
          have hlast := hstep p (by omega)
          have hfst := hstep 0 (by omega)
          obtain ⟨q, hq⟩ : ∃ q : Nat, ith J p = (q : Int) := ⟨(ith J p).toNat, by have := hlast.1; omega⟩
          have hqm : q < L.length := by have := hlast.2.1; omega
          have hq0 : (ith J p).toNat = q := by rw [hq]; simp
          obtain ⟨r, hr⟩ : ∃ r : Nat, ith J 0 = (r : Int) := ⟨(ith J 0).toNat, by have := hfst.1; omega⟩
          have hrm : r < L.length := by have := hfst.2.1; omega
          have hr0 : (ith J 0).toNat = r := by rw [hr]; simp
          obtain ⟨jb, jf, hjo, hjb, hjc⟩ := hJ.ext hxw p (by omega)
          subst hjo
          rw [hq] at hjc
          obtain ⟨jb2, jf2, hjo2, hjb2, hjc2⟩ := hJ.ext hxw 0 (by omega)
          simp only [Option.some.injEq, Addr.mk.injEq, and_true] at hjo2
          obtain ⟨rfl, rfl⟩ := hjo2
          rw [hr, Nat.add_zero] at hjc2
          obtain ⟨lb, lf, hlo, hlb, h0, h1, h2, h3, h4⟩ := hL.ext hxw q hqm
          subst hlo
          obtain ⟨lb2, lf2, hlo2, hlb2, g0, g1, g2, g3, g4⟩ := hL.ext hxw r hrm
          simp only [Option.some.injEq, Addr.mk.injEq, and_true] at hlo2
          obtain ⟨rfl, rfl⟩ := hlo2
          have HS : Hid (∀ j, j < J.length → JStep c L J j) := Lib.hid hstep
          have HQ := Lib.hid hq0
          have HR := Lib.hid hr0
          have HPP := Lib.hid hp
          have hpi : (J.length : Int) = (p : Int) + 1 := by omega
          clear hstep hlast hfst hq hq0 hr hr0 HX
          have key : ∀ b : Bool, (b = true ↔ begB src at_ (leg L r) = true ∧ (leg L q).To = dst) → IsOf n L c src dst at_ J b 0 := by
            intro b hb
            refine .inr (.inr ⟨HG.out, HJ.out, rfl, hb.trans ?_⟩)
            have e1 : J.length - 1 = p := by have := HPP.out; omega
            constructor
            · rintro ⟨h1, h2⟩
              exact ⟨HS.out, by rw [HR.out]; exact h1, by rw [e1, HQ.out]; exact h2⟩
            · rintro ⟨_, h1, h2⟩
              rw [HR.out] at h1
              rw [e1, HQ.out] at h2
              exact ⟨h1, h2⟩
          have HK := Lib.hid key
          clear key
          cases hd : ((leg L r).From == src) with
          | false =>
            have HD := Lib.hid hd
            go_wp2_with fail
            go_ret2
            refine ⟨_, 0, rfl, HK.out _ ?_, hxw⟩
            have := HD.out
            simp [begB] at this ⊢
            intro h; exact (this h).elim
          | true =>
            have HD := Lib.hid hd
            cases hd2 : decide (at_ ≤ (leg L r).Dep) with
            | false =>
              have HD2 := Lib.hid hd2
              go_wp2_with fail
              go_ret2
              refine ⟨_, 0, rfl, HK.out _ ?_, hxw⟩
              have := HD2.out
              simp [begB] at this ⊢
              omega
            | true =>
              have HD2 := Lib.hid hd2
              go_wp2_with fail
              go_ret2
              refine ⟨_, 0, rfl, HK.out _ ?_, hxw⟩
              have h1 := HD.out
              have h2 := HD2.out
              simp at h1 h2
              simp [begB, h1, h2]
end Go.Proofs.Ytmmjjfjbhogfgaa
