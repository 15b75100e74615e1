/- The specification's own check of a question (Good), and Joins. -/
import Derived.Test.YtmmjjfjbhogfgaaEarly
namespace Go.Proofs.Ytmmjjfjbhogfgaa
open Go.RowKit
attribute [local go_sem] Leg.val run_store_fn

theorem joins_calls (w : World) (a b : Leg) (c : Int) (h0 : 0 ≤ a.Arr ∧ a.Arr ≤ 10000) (h1 : 0 ≤ c ∧ c ≤ 101) :
    Calls Try.prog 56 #[a.val, b.val, .int .i64 c] w fun e w' => e = .returned (.bool (folB c a b)) ∧ Ext w w' := by
  by_cases hT : a.To = b.From
  · have hT' : (a.To != b.From) = false := by simp [hT]
    have HT := Lib.hid hT
    clear hT
    by_cases hL : a.Line = b.Line
    · have hL' : (a.Line == b.Line) = true := by simp [hL]
      have HL := Lib.hid hL
      clear hL
      go_enter Try.func56, Try.ntmps56
      go_wp2_with fail
      go_ret
      exact ⟨by simp [folB, HL.out, HT.out], (by repeat (first | exact Ext.refl _ | assumption | refine Ext.alloc ?_ _ | refine Ext.drewN ?_ _ | refine Ext.drew ?_))⟩
    · have hL' : (a.Line == b.Line) = false := by simp [hL]
      have HL := Lib.hid hL
      clear hL
      go_enter Try.func56, Try.ntmps56
      go_wp2_with fail
      go_ret
      exact ⟨by simp [folB, HL.out, HT.out], (by repeat (first | exact Ext.refl _ | assumption | refine Ext.alloc ?_ _ | refine Ext.drewN ?_ _ | refine Ext.drew ?_))⟩
  · have hT' : (a.To != b.From) = true := by simp [hT]
    have HT := Lib.hid hT
    clear hT
    go_enter Try.func56, Try.ntmps56
    go_wp2_with fail
    go_ret
    exact ⟨by simp [folB, HT.out], (by repeat (first | exact Ext.refl _ | assumption | refine Ext.alloc ?_ _ | refine Ext.drewN ?_ _ | refine Ext.drew ?_))⟩

theorem goodE_leg {n : Int} {L : List Leg} {c src dst : Int} {ts : List Int} {k : Nat} (h1 : ¬ (n < 1 ∨ 8 < n)) (h2 : ¬ 60 < L.length) (hk : k < L.length) (hf : fineB n (leg L k) = false) : goodE n L c src dst ts = 2 := by
  unfold goodE
  rw [if_neg h1, if_neg h2, if_pos]
  have : anyB L.length (fun k => ! fineB n (leg L k)) = true := anyB_true.2 ⟨k, hk, by simp [hf]⟩
  simp [badHead, this]
theorem goodE_head {n : Int} {L : List Leg} {c src dst : Int} {ts : List Int} (h1 : ¬ (n < 1 ∨ 8 < n)) (h2 : ¬ 60 < L.length) (hb : ¬ (0 ≤ c ∧ c ≤ 100 ∧ 0 ≤ src ∧ src < n ∧ 0 ≤ dst ∧ dst < n)) : goodE n L c src dst ts = 2 := by
  unfold goodE
  rw [if_neg h1, if_neg h2, if_pos]
  have : (decide (c < 0) || decide (100 < c) || ! placeB n src || ! placeB n dst) = true := by
    simp only [Bool.or_eq_true, decide_eq_true_eq, placeB, Bool.not_eq_true', decide_eq_false_iff_not]
    omega
  simp only [badHead, Bool.or_assoc] at this ⊢
  simp [this]
theorem goodE_time {n : Int} {L : List Leg} {c src dst : Int} {ts : List Int} (h1 : ¬ (n < 1 ∨ 8 < n)) (h2 : ¬ 60 < L.length) (hf : ∀ k, k < L.length → fineB n (leg L k) = true) (hb : 0 ≤ c ∧ c ≤ 100 ∧ 0 ≤ src ∧ src < n ∧ 0 ≤ dst ∧ dst < n) :
    goodE n L c src dst ts = if anyB ts.length (fun k => badTime (ith ts k)) = true then 2 else 0 := by
  unfold goodE
  rw [if_neg h1, if_neg h2, if_neg]
  have h3 : anyB L.length (fun k => ! fineB n (leg L k)) = false := anyB_false.2 (fun k hk => by simp [hf k hk])
  simp only [badHead, h3, Bool.or_eq_true, decide_eq_true_eq, placeB, Bool.not_eq_true', decide_eq_false_iff_not]
  simp
  omega

set_option maxRecDepth 100000 in
set_option maxHeartbeats 4000000 in
theorem good_calls (w : World) (n : Int) (ao : Option Addr) (cap : Nat) (L : List Leg) (c src dst : Int) (to_ : Option Addr) (tcap : Nat) (ts : List Int)
    (hL : LegsIn w ao L) (hlen : L.length ≤ 10000000) (ht : IntsIn w to_ ts) (htl : ts.length ≤ 10000000) :
    Calls Try.prog 28 #[.int .i64 n, .slice ao L.length cap, .int .i64 c, .int .i64 src, .int .i64 dst, .slice to_ ts.length tcap] w fun e w' =>
      e = .returned (.int .i64 (goodE n L c src dst ts)) ∧ Ext w w' := by
  by_cases hn : n < 1 ∨ 8 < n
  · have HN := Lib.hid hn
    go_enter Try.func28, Try.ntmps28
    rcases hn with hn | hn
    · go_wp2_with fail
      go_ret
      exact ⟨ret_int (by unfold goodE; rw [if_pos HN.out]), Ext.refl _⟩
    · go_wp2_with fail
      go_ret
      exact ⟨ret_int (by unfold goodE; rw [if_pos HN.out]), Ext.refl _⟩
  · have HN := Lib.hid hn
    have hn0 : 1 ≤ n := by omega
    have hn8 : n ≤ 8 := by omega
    clear hn
    go_enter Try.func28, Try.ntmps28
    by_cases hl : 60 < L.length
    · go_wp2_with fail
      go_ret
      exact ⟨ret_int (by unfold goodE; rw [if_neg HN.out, if_pos hl]), Ext.refl _⟩
    · go_wp2_with fail
      go_loopw [13] (fun i wr => ∃ k : Nat, k ≤ L.length ∧ i = .int .i64 k ∧ Ext w wr ∧ Hid (∀ j, j < k → fineB n (leg L j) = true)) (fun i _ => L.length - (intOf i).toNat)
      case atStart => exact ⟨0, by omega, rfl, Ext.refl _, Lib.hid (fun j hj => by omega)⟩
      case round =>
        obtain ⟨k, hk, rfl, hx, HX⟩ := hrel
        by_cases hlt : k < L.length
        · obtain ⟨b, off, hao, hb, h0, h1, h2, h3, h4⟩ := hL.ext hx k hlt
          subst hao
          cases hfine : fineB n (leg L k) with
          | true =>
            have HF := Lib.hid hfine
            simp only [fineB, decide_eq_true_eq] at hfine
            obtain ⟨f0, f1, f2, f3, f4, f5, f6, f7, f8, f9⟩ := hfine
            have g4 : ((leg L k).From == (leg L k).To) = false := by simp [f4]
            clear f4
            go_wp2_with fail
            refine ⟨⟨k + 1, by omega, rfl, hx.alloc _, Lib.hid (fun j hj => ?_)⟩, by simp only [intOf]; omega⟩
            rcases Nat.lt_or_ge j k with h | h
            · exact HX.out j h
            · obtain rfl : j = k := by omega
              exact HF.out
          | false =>
            have HF := Lib.hid hfine
            clear hfine
            go_wp2_with fail
            all_goals first
              | (go_ret
                 exact ⟨ret_int (goodE_leg HN.out (by omega) hlt HF.out).symm, hx.alloc _⟩)
              | (exfalso
                 have := HF.out
                 simp [fineB] at *
                 omega)
        · obtain rfl : k = L.length := by omega
          by_cases hb : 0 ≤ c ∧ c ≤ 100 ∧ 0 ≤ src ∧ src < n ∧ 0 ≤ dst ∧ dst < n
          · have HB := Lib.hid hb
            obtain ⟨b0, b1, b2, b3, b4, b5⟩ := hb
            go_wp2_with fail
            go_loopw [15] (fun i ws => ∃ k : Nat, k ≤ ts.length ∧ i = .int .i64 k ∧ Ext w ws ∧ Hid (∀ j, j < k → badTime (ith ts j) = false)) (fun i _ => ts.length - (intOf i).toNat)
            case atStart => exact ⟨0, by omega, rfl, hx, Lib.hid (fun j hj => by omega)⟩
            case round =>
              clear hx
              obtain ⟨k, hk, rfl, hx, HT⟩ := hrel
              by_cases hlt2 : k < ts.length
              · obtain ⟨b, off, hto, hb, hcell⟩ := ht.ext hx k hlt2
                subst hto
                cases hbad : badTime (ith ts k) with
                | false =>
                  have HBd := Lib.hid hbad
                  simp only [badTime, decide_eq_false_iff_not, not_or, Int.not_lt] at hbad
                  obtain ⟨t0, t1⟩ := hbad
                  go_wp2_with fail
                  refine ⟨⟨k + 1, by omega, rfl, hx, Lib.hid (fun j hj => ?_)⟩, by simp only [intOf]; omega⟩
                  rcases Nat.lt_or_ge j k with h | h
                  · exact HT.out j h
                  · obtain rfl : j = k := by omega
                    exact HBd.out
                | true =>
                  have HBd := Lib.hid hbad
                  clear hbad
                  go_wp2_with fail
                  all_goals first
                    | (go_ret
                       refine ⟨ret_int ?_, hx⟩
                       rw [goodE_time HN.out (by omega) HX.out HB.out, if_pos (anyB_true.2 ⟨k, hlt2, HBd.out⟩)])
                    | (exfalso
                       have := HBd.out
                       simp [badTime] at *
                       omega)
              · go_wp2_with fail
                go_ret
                refine ⟨ret_int ?_, hx⟩
                rw [goodE_time HN.out (by omega) HX.out HB.out, if_neg]
                simp only [Bool.not_eq_true, anyB_false]
                exact fun j hj => HT.out j (by omega)
          · have HB := Lib.hid hb
            clear hb
            go_wp2_with fail
            all_goals first
              | (go_ret
                 exact ⟨ret_int (goodE_head HN.out (by omega) HB.out).symm, hx⟩)
              | (exfalso
                 apply HB.out
                 omega)
end Go.Proofs.Ytmmjjfjbhogfgaa
