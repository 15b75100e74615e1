/- Is: of the program and of the specification. -/
import Derived.Test.YtmmjjfjbhogfgaaGood
import Derived.Test.YtmmjjfjbhogfgaaShort
namespace Go.Proofs.Ytmmjjfjbhogfgaa
open Go.RowKit
attribute [local go_sem] Leg.val run_store_fn

theorem Calls.after_eq {P : Program} {f : FuncId} {args : Array Value} {w : World} {s : After w} {v u : Value} (hv : v = u) (h : Calls P f args s.at_ fun e w' => e = .returned v ∧ Ext s.at_ w') :
    Calls P f args s.at_ fun e w'' => e = .returned u ∧ ∃ s' : After w, w'' = s'.at_ := by subst hv; exact Calls.after h

/-- The number k of the list is one of a leg that can be taken behind the one before. -/
def JStep (c : Int) (L : List Leg) (J : List Int) (k : Nat) : Prop :=
  0 ≤ ith J k ∧ ith J k < L.length ∧ (0 < k → folL c L (ith J (k - 1)).toNat (ith J k).toNat = true)
def JOk (c : Int) (L : List Leg) (src dst at_ : Int) (J : List Int) : Prop :=
  (∀ k, k < J.length → JStep c L J k) ∧ begB src at_ (leg L (ith J 0).toNat) = true ∧ (leg L (ith J (J.length - 1)).toNat).To = dst
def IsOf (n : Int) (L : List Leg) (c src dst at_ : Int) (J : List Int) (b : Bool) (e : Int) : Prop :=
  (goodE n L c src dst [at_] ≠ 0 ∧ b = false ∧ e = goodE n L c src dst [at_]) ∨
  (goodE n L c src dst [at_] = 0 ∧ J = [] ∧ b = (src == dst) ∧ e = 0) ∨
  (goodE n L c src dst [at_] = 0 ∧ J ≠ [] ∧ e = 0 ∧ (b = true ↔ JOk c L src dst at_ J))
theorem IsOf.uniq {n : Int} {L : List Leg} {c src dst at_ : Int} {J : List Int} {b b' : Bool} {e e' : Int} (h : IsOf n L c src dst at_ J b e) (h' : IsOf n L c src dst at_ J b' e') : b = b' ∧ e = e' := by
  rcases h with ⟨h0, rfl, rfl⟩ | ⟨h0, h1, rfl, rfl⟩ | ⟨h0, h1, rfl, h2⟩ <;> rcases h' with ⟨g0, rfl, rfl⟩ | ⟨g0, g1, rfl, rfl⟩ | ⟨g0, g1, rfl, g2⟩
  · exact ⟨rfl, rfl⟩
  · exact (h0 g0).elim
  · exact (h0 g0).elim
  · exact (g0 h0).elim
  · exact ⟨rfl, rfl⟩
  · exact (g1 h1).elim
  · exact (g0 h0).elim
  · exact (h1 g1).elim
  · refine ⟨?_, rfl⟩
    rw [Bool.eq_iff_iff, h2, g2]
def IsRes (w : World) (n : Int) (L : List Leg) (c src dst at_ : Int) (J : List Int) (e : Ending) (w' : World) : Prop :=
  ∃ b er, e = .returned (.tuple #[.bool b, .int .i64 er]) ∧ IsOf n L c src dst at_ J b er ∧ Ext w w'

theorem one_int' (w : World) (t : TypeId) (x : Int) : Ext w (w.alloc (.cells #[.int .i64 x] t)) ∧ IntsIn (w.alloc (.cells #[.int .i64 x] t)) (some ⟨w.heap.size, 0, none⟩) [x] := ⟨(Ext.refl w).alloc _, one_int w t x⟩
theorem jok_not {c : Int} {L : List Leg} {src dst at_ : Int} {J : List Int} {k : Nat} (hk : k < J.length) (h : ¬ JStep c L J k) : ¬ JOk c L src dst at_ J := fun hj => h (hj.1 k hk)

set_option maxRecDepth 100000 in
set_option maxHeartbeats 4000000 in
theorem is_calls (w : World) (n : Int) (ao : Option Addr) (cap : Nat) (L : List Leg) (c src dst at_ : Int) (jo : Option Addr) (jcap : Nat) (J : List Int) (hL : LegsIn w ao L) (hlen : L.length ≤ 10000000) (hJ : IntsIn w jo J) (hJl : J.length ≤ 10000000) (hJ64 : ∀ k, k < J.length → -9223372036854775808 ≤ ith J k ∧ ith J k ≤ 9223372036854775807) :
    Calls Try.prog 26 #[.int .i64 n, .slice ao L.length cap, .int .i64 c, .int .i64 src, .int .i64 dst, .int .i64 at_, .slice jo J.length jcap] w (IsRes w n L c src dst at_ J) := by
  go_enter Try.func26, Try.ntmps26
  go_wp2_with fail
  obtain ⟨hx4, hts⟩ := one_int' w 3 at_
  generalize w.alloc (Obj.cells #[Value.int IntKind.i64 at_] 3) = w4 at *
  refine (of_calls w4 n ao cap L c src dst _ 1 [at_] (hL.ext hx4) hlen hts (by simp)).mono ?_
  rintro e w5 ⟨hx5, ⟨hg, rfl⟩ | ⟨hg, tb, rfl, htb, hT⟩⟩
  · have hne : (goodE n L c src dst [at_] != 0) = true := by simpa using hg
    have HG := Lib.hid hg
    clear hg
    go_wp2_with fail
    go_ret2
    exact ⟨false, _, rfl, .inl ⟨HG.out, rfl, rfl⟩, hx4.trans hx5⟩
  · have HG := Lib.hid hg
    have hgood := good_iff.1 hg
    have hlen2 := hgood.len
    have hc : 0 ≤ c ∧ c ≤ 101 := by have := hgood.change; omega
    have HF := Lib.hid hgood.fine
    clear hg hgood
    have hxw5 := hx4.trans hx5
    by_cases hj0 : J = []
    · subst hj0
      have HJ := Lib.hid (rfl : ([] : List Int) = [])
      go_wp2_with fail
      go_ret2
      exact ⟨_, 0, rfl, .inr (.inl ⟨HG.out, rfl, rfl, rfl⟩), hxw5⟩
    · have HJ := Lib.hid hj0
      have hJp : 0 < J.length := List.length_pos_iff.2 hj0
      clear hj0
      go_wp2_with fail
      go_loopw [42] (fun i wr => ∃ k : Nat, k ≤ J.length ∧ i = .int .i64 k ∧ Ext w5 wr ∧ Hid (∀ j, j < k → JStep c L J j ∧ (j = 0 → begB src at_ (leg L (ith J 0).toNat) = true))) (fun i _ => J.length - (intOf i).toNat)
      case atStart => exact ⟨0, by omega, rfl, Ext.refl _, Lib.hid (fun j hj => by omega)⟩
      case round =>
        obtain ⟨k, hk, rfl, hx, HX⟩ := hrel
        have hxw := hxw5.trans hx
        by_cases hlt : k < J.length
        · obtain ⟨jb, jf, hjo, hjb, hjc⟩ := hJ.ext hxw k hlt
          subst hjo
          have h64 := hJ64 k hlt
          cases hd : decide (ith J k < 0) with
          | true =>
            go_wp2_with fail
            refine wp_region_after (by kernel_rfl) (by kernel_rfl) ?_
            intro hne
            have hcs := trivial
            repeat (go_big_quiet_step (fail))
            refine wpQuiet_nil ?_
            intro w3 hx3
            have HK : Hid (¬ JOk c L src dst at_ J) := Lib.hid (jok_not hlt (fun h => by have := h.1; simp at hd; omega))
            have HC := Lib.hid hcs
            clear hcs
            go_wp2_with fail
            go_ret2
            exact ⟨false, 0, rfl, .inr (.inr ⟨HG.out, HJ.out, rfl, by simpa using HK.out⟩), hxw.trans hx3⟩
          | false =>
            cases hd1 : decide ((L.length : Int) ≤ ith J k) with
            | true =>
              go_wp2_with fail
              refine wp_region_after (by kernel_rfl) (by kernel_rfl) ?_
              intro hne
              have hcs := trivial
              repeat (go_big_quiet_step (fail))
              refine wpQuiet_nil ?_
              intro w3 hx3
              have HK : Hid (¬ JOk c L src dst at_ J) := Lib.hid (jok_not hlt (fun h => by have := h.2.1; simp at hd1; omega))
              have HC := Lib.hid hcs
              clear hcs
              go_wp2_with fail
              go_ret2
              exact ⟨false, 0, rfl, .inr (.inr ⟨HG.out, HJ.out, rfl, by simpa using HK.out⟩), hxw.trans hx3⟩
            | false =>
              obtain ⟨q, hq⟩ : ∃ q : Nat, ith J k = (q : Int) := ⟨(ith J k).toNat, by simp at hd; omega⟩
              have hqm : q < L.length := by simp at hd1; omega
              obtain ⟨lb, lf, hlo, hlb, -⟩ := hL.ext hxw q hqm
              subst hlo
              have hqz : decide ((q : Int) < 0) = false := by simp only [decide_eq_false_iff_not]; omega
              have hqz2 : decide ((L.length : Int) ≤ (q : Int)) = false := by simp only [decide_eq_false_iff_not]; omega
              have hqz3 : decide (L.length ≤ q) = false := by simp only [decide_eq_false_iff_not]; omega
              rw [hq] at hjc
              have hfq := HF.out q hqm
              have hq0 : (ith J k).toNat = q := by rw [hq]; simp
              by_cases hk0 : k = 0
              · subst hk0
                rw [Nat.add_zero] at hjc
                cases hbg : begB src at_ (leg L q) with
                | true =>
                  go_wp2_with fail
                  refine wp_region_after (by kernel_rfl) (by kernel_rfl) ?_
                  intro hne
                  have hqs := (hL.ext hxw).after hqm
                  have hcs := hbg
                  repeat (go_big_quiet_step ((go_at_call 48; exact Calls.after_eq (congrArg Value.bool hbg) (begins_calls _ (leg L q) src at_))))
                  refine wpQuiet_nil ?_
                  intro w3 hx3
                  have HK : Hid (JStep c L J 0 ∧ (0 = 0 → begB src at_ (leg L (ith J 0).toNat) = true)) := Lib.hid ⟨⟨by omega, by omega, fun h => by omega⟩, fun _ => by rw [hq0]; exact hcs⟩
                  have HC := Lib.hid hcs
                  clear hcs
                  go_wp2_with fail
                  refine ⟨⟨0 + 1, by omega, rfl, hx.trans hx3, Lib.hid (fun j hj => ?_)⟩, by simp only [intOf]; omega⟩
                  rcases Nat.lt_or_ge j 0 with h | h
                  · exact HX.out j h
                  · obtain rfl : j = 0 := by omega
                    exact HK.out
                | false =>
                  go_wp2_with fail
                  refine wp_region_after (by kernel_rfl) (by kernel_rfl) ?_
                  intro hne
                  have hqs := (hL.ext hxw).after hqm
                  have hcs := hbg
                  repeat (go_big_quiet_step ((go_at_call 48; exact Calls.after_eq (congrArg Value.bool hbg) (begins_calls _ (leg L q) src at_))))
                  refine wpQuiet_nil ?_
                  intro w3 hx3
                  have HK : Hid (¬ JOk c L src dst at_ J) := Lib.hid (fun h => by have := h.2.1; rw [hq0, hcs] at this; simp at this)
                  have HC := Lib.hid hcs
                  clear hcs
                  go_wp2_with fail
                  go_ret2
                  exact ⟨false, 0, rfl, .inr (.inr ⟨HG.out, HJ.out, rfl, by simpa using HK.out⟩), hxw.trans hx3⟩
              · obtain ⟨p, rfl⟩ : ∃ p, k = p + 1 := ⟨k - 1, by omega⟩
                have hkz : ((p : Int) + 1 == 0) = false := by simp only [beq_eq_false_iff_ne]; omega
                have hkp : decide (0 < (p : Int) + 1) = true := by simp only [decide_eq_true_eq]; omega
                have hprev := (HX.out p (by omega)).1
                obtain ⟨r, hr⟩ : ∃ r : Nat, ith J p = (r : Int) := ⟨(ith J p).toNat, by have := hprev.1; omega⟩
                have hrm : r < L.length := by have := hprev.2.1; omega
                have hr0 : (ith J p).toNat = r := by rw [hr]; simp
                have hfr := HF.out r hrm
                have harr : 0 ≤ (leg L r).Arr ∧ (leg L r).Arr ≤ 10000 := by unfold Fine at hfr; omega
                have hTc := hT.ext hx
                clear hprev
                cases hfl : folB c (leg L r) (leg L q) with
                | true =>
                  go_wp2_with fail
                  refine wp_region_after (by kernel_rfl) (by kernel_rfl) ?_
                  intro hne
                  have hqs := (hL.ext hxw).after hqm
                  have hps := (hJ.ext hxw).after (k := p) (by omega)
                  rw [hr] at hps
                  have hrs := (hL.ext hxw).after hrm
                  have hcs := hfl
                  repeat (go_big_quiet_step ((go_at_call 55; exact Calls.after (follows_calls _ tb 0 (leg L r) (leg L q) c (Nat.lt_of_lt_of_le hTc.lt (After.ext _).size) (hTc.ext (After.ext _)).change harr hc))))
                  refine wpQuiet_nil ?_
                  intro w3 hx3
                  have HK : Hid (JStep c L J (p + 1) ∧ ((p + 1) = 0 → begB src at_ (leg L (ith J 0).toNat) = true)) := Lib.hid ⟨⟨by omega, by omega, fun _ => by rw [Nat.add_sub_cancel, hr0, hq0]; exact hcs⟩, fun h => by omega⟩
                  have HC := Lib.hid hcs
                  clear hcs
                  go_wp2_with fail
                  refine ⟨⟨(p + 1) + 1, by omega, rfl, hx.trans hx3, Lib.hid (fun j hj => ?_)⟩, by simp only [intOf]; omega⟩
                  rcases Nat.lt_or_ge j (p + 1) with h | h
                  · exact HX.out j h
                  · obtain rfl : j = (p + 1) := by omega
                    exact HK.out
                | false =>
                  go_wp2_with fail
                  refine wp_region_after (by kernel_rfl) (by kernel_rfl) ?_
                  intro hne
                  have hqs := (hL.ext hxw).after hqm
                  have hps := (hJ.ext hxw).after (k := p) (by omega)
                  rw [hr] at hps
                  have hrs := (hL.ext hxw).after hrm
                  have hcs := hfl
                  repeat (go_big_quiet_step ((go_at_call 55; exact Calls.after (follows_calls _ tb 0 (leg L r) (leg L q) c (Nat.lt_of_lt_of_le hTc.lt (After.ext _).size) (hTc.ext (After.ext _)).change harr hc))))
                  refine wpQuiet_nil ?_
                  intro w3 hx3
                  have HK : Hid (¬ JOk c L src dst at_ J) := Lib.hid (jok_not hlt (fun h => by have := h.2.2 (by omega); rw [Nat.add_sub_cancel, hr0, hq0] at this; unfold folL at this; rw [hcs] at this; simp at this))
                  have HC := Lib.hid hcs
                  clear hcs
                  go_wp2_with fail
                  go_ret2
                  exact ⟨false, 0, rfl, .inr (.inr ⟨HG.out, HJ.out, rfl, by simpa using HK.out⟩), hxw.trans hx3⟩
        · obtain rfl : k = J.length := by omega
          obtain ⟨p, hp⟩ : ∃ p, J.length = p + 1 := ⟨J.length - 1, by omega⟩
          have hstep := HX.out
          have hlast := (hstep p (by omega)).1
          obtain ⟨q, hq⟩ : ∃ q : Nat, ith J p = (q : Int) := ⟨(ith J p).toNat, by have := hlast.1; omega⟩
          have hqm : q < L.length := by have := hlast.2.1; omega
          have hq0 : (ith J p).toNat = q := by rw [hq]; simp
          obtain ⟨jb, jf, hjo, hjb, hjc⟩ := hJ.ext hxw p (by omega)
          subst hjo
          rw [hq] at hjc
          obtain ⟨lb, lf, hlo, hlb, h0, h1, h2, h3, h4⟩ := hL.ext hxw q hqm
          subst hlo
          have HS := Lib.hid (And.intro (hstep 0 (by omega)).2 (fun j hj => (hstep j hj).1))
          have HQ := Lib.hid hq0
          have HPP := Lib.hid hp
          have hpi : (J.length : Int) = (p : Int) + 1 := by omega
          clear hstep hlast hq hq0 HX
          go_wp2_with fail
          go_ret2
          refine ⟨_, 0, rfl, .inr (.inr ⟨HG.out, HJ.out, rfl, ?_⟩), hxw⟩
          have e1 : J.length - 1 = p := by have := HPP.out; omega
          simp only [beq_iff_eq]
          constructor
          · intro h
            refine ⟨fun k hk => HS.out.2 k hk, HS.out.1 (by trivial), ?_⟩
            rw [e1, HQ.out]
            exact h
          · intro h
            have := h.2.2
            rw [e1, HQ.out] at this
            exact this
end Go.Proofs.Ytmmjjfjbhogfgaa
