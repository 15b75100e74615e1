/- RouteFirst: the walk. -/
import Derived.Test.YtmmjjfjbhogfgaaProfB
import Derived.Test.YtmmjjfjbhogfgaaProfE
import Derived.Test.YtmmjjfjbhogfgaaLawIs
import Derived.Test.YtmmjjfjbhogfgaaStopD
namespace Go.Proofs.Ytmmjjfjbhogfgaa
open Go.ChangeShapes Go.WideShapes Go.ChangeAt Go.RowKit
attribute [local go_sem] Leg.val run_store_fn

theorem first_three {n : Int} {L : List Leg} {c src dst at_ a e f : Int} {R : Stops} {xs : List Nat} (h : ProfOf n L c src dst R e) (h' : EarlyOf n L c src dst at_ a xs f) (he : e = 0) (hn : src ≠ dst) : f = 0 ∨ f = 2 ∨ f = 10 := by
  have hg0 := good_iff.2 (prof_ok h he hn).1
  rcases h' with ⟨h1, _, _, rfl⟩ | ⟨_, h1, _⟩ | ⟨_, _, _, _, h3, _⟩ | ⟨_, _, h2, _⟩
  · rcases goodE_times (ts := [at_]) hg0 with h2 | h2
    · exact (h1 h2).elim
    · exact .inr (.inl h2)
  · exact (hn h1).elim
  · exact .inr (.inr h3)
  · exact .inl h2
set_option maxRecDepth 100000 in
set_option maxHeartbeats 8000000 in
theorem routeFirst_calls (w : World) (n : Int) (ao : Option Addr) (cap : Nat) (L : List Leg) (c src dst at_ later : Int) (hL : LegsIn w ao L) :
    Calls Try.prog 16 #[.int .i64 n, .slice ao L.length cap, .int .i64 c, .int .i64 src, .int .i64 dst, .int .i64 at_, .int .i64 later] w (TrueRes w) := by
  have hal : ∀ w2, Ext w w2 → Calls Try.prog 19 #[] w2 fun e w' => e = .returned (.bool true) ∧ Ext w w' := fun w2 hx => (alive_calls w2).mono (fun e w' ⟨he, hx'⟩ => ⟨he, hx.trans hx'⟩)
  go_enter Try.func16, Try.ntmps16
  go_wp2_with fail
  refine (few_calls w ao L.length cap).mono ?_
  rintro e w1 ⟨rfl, hx1⟩
  cases hd : decide (L.length ≤ 80) with
  | false =>
    go_wp2_with fail
    refine (hal _ (hx1)).mono ?_
    rintro e w2 ⟨rfl, hx2⟩
    go_wp2_with fail
    go_ret
    exact ⟨rfl, hx2⟩
  | true =>
    have hl : L.length ≤ 80 := by simpa using hd
    by_cases hsd : src = dst
    · go_wp2_with fail
      refine (hal _ (hx1)).mono ?_
      rintro e w2 ⟨rfl, hx2⟩
      go_wp2_with fail
      go_ret
      exact ⟨rfl, hx2⟩
    · have hsd' : (src == dst) = false := by simpa using hsd
      have hnd : src ≠ dst := hsd
      have HND := Lib.hid hnd
      clear hsd hnd
      go_wp2_with fail
      refine (bigProfile_calls w1 n ao cap L c src dst (hL.ext hx1) (by omega)).mono ?_
      rintro e w2 ⟨v, R, er, rfl, ho, hP, hRl, hx2⟩
      have hx12 := hx1.trans hx2
      have HP := Lib.hid hP
      clear hP
      obtain ⟨xo, xcap, rfl, hti⟩ := ho.tripsIn
      go_wp2_with fail
      refine (earliest_calls w2 n ao cap L c src dst at_ (hL.ext hx12) (by omega)).mono ?_
      rintro e w3 ⟨a, v3, xs, fr, rfl, ho3, hE, hx3⟩
      have hx123 := hx12.trans hx3
      have HE := Lib.hid hE
      clear hE ho3
      go_wp2_with fail
      refine (earliest_calls w3 n ao cap L c src dst later (hL.ext hx123) (by omega)).mono ?_
      rintro e w4 ⟨b, v4, ys, gr, rfl, ho4, hG, hx4⟩
      have hx13 := hx123.trans hx4
      have hti := hti.ext (hx3.trans hx4)
      have HG := Lib.hid hG
      clear hG ho4 ho
      by_cases he : er = 0
      · subst he
        have hnd := HND.out
        have hok := first_up HP.out rfl HND.out hRl
        have HOK := Lib.hid hok
        have h3 := first_three HP.out HE.out rfl HND.out
        clear hok
        rcases h3 with rfl | rfl | rfl
        · go_wp2_with fail
          refine (bigLook_calls w4 xo xcap R at_ hti (by omega)).mono ?_
          rintro e w5 ⟨x, g, rfl, hLk, hx5⟩
          obtain ⟨rfl, rfl⟩ := first_look HP.out rfl HND.out hRl HE.out (.inl rfl) hLk
          clear hLk
          by_cases hle : at_ ≤ later
          · by_cases hg0 : gr = 0
            · have hlat := first_later HP.out rfl hnd HE.out HG.out hle hg0
              subst hg0
              have hlat2 := (hlat (by decide)).2
              clear hlat
              go_wp2_with fail
              go_loopw [25] (fun i ws => ∃ k : Nat, k ≤ R.length ∧ i = .int .i64 k ∧ Ext w5 ws) (fun i _ => R.length - (intOf i).toNat)
              case atStart => exact ⟨0, by omega, rfl, Ext.refl _⟩
              case round =>
                rename World => ws
                obtain ⟨k, hk, rfl, hx⟩ := hrel
                by_cases hlt : k < R.length
                · obtain ⟨pb, pf, hpo, hpb, hs0, hs1⟩ := ((hti.ext (hx5)).ext hx) k hlt
                  subst hpo
                  have hA := HOK.out.2 k hlt
                  unfold OkAt at hA
                  have h2 : decide (tSnd R k ≤ tFst R k) = false := by simp only [decide_eq_false_iff_not]; omega
                  by_cases hk0 : k = 0
                  · subst hk0
                    rw [Nat.zero_mul, Nat.add_zero] at hs0 hs1
                    clear hA
                    go_wp2_with fail
                    refine wp_region_after (by kernel_rfl) (by kernel_rfl) ?_
                    intro hne
                    have hps := ((hti.ext (hx5)).ext hx).after (k := 0) hlt
                    rw [Nat.zero_mul, Nat.add_zero] at hps
                    repeat (go_big_quiet_step (fail))
                    refine wpQuiet_nil ?_
                    intro w4 hx4
                    go_wp2_with fail
                    exact ⟨⟨0 + 1, by omega, rfl, hx.trans hx4⟩, by simp only [intOf]; omega⟩
                  · obtain ⟨q, rfl⟩ : ∃ q, k = q + 1 := ⟨k - 1, by omega⟩
                    have hq0 : decide (0 < (q : Int) + 1) = true := by simp only [decide_eq_true_eq]; omega
                    have hup := hA.2.2.2 (by omega)
                    rw [Nat.add_sub_cancel] at hup
                    have h4 : decide (tFst R (q + 1) ≤ tFst R q) = false := by simp only [decide_eq_false_iff_not]; omega
                    have h5 : decide (tSnd R (q + 1) ≤ tSnd R q) = false := by simp only [decide_eq_false_iff_not]; omega
                    clear hA hup
                    go_wp2_with fail
                    refine wp_region_after (by kernel_rfl) (by kernel_rfl) ?_
                    intro hne
                    have hps := ((hti.ext (hx5)).ext hx).after (k := q + 1) hlt
                    have hpq := ((hti.ext (hx5)).ext hx).after (k := q) (by omega)
                    repeat (go_big_quiet_step (fail))
                    refine wpQuiet_nil ?_
                    intro w4 hx4
                    go_wp2_with fail
                    exact ⟨⟨q + 1 + 1, by omega, by go_num, hx.trans hx4⟩, by simp only [intOf]; omega⟩
                · go_wp2_with fail
                  refine (hal _ ((hx13.trans (hx5)).trans hx)).mono ?_
                  rintro e w2 ⟨rfl, hx2⟩
                  go_wp2_with fail
                  go_ret
                  exact ⟨rfl, hx2⟩
            · have hgb : (gr == 0) = false := by simpa using hg0
              clear hg0
              go_wp2_with fail
              go_loopw [25] (fun i ws => ∃ k : Nat, k ≤ R.length ∧ i = .int .i64 k ∧ Ext w5 ws) (fun i _ => R.length - (intOf i).toNat)
              case atStart => exact ⟨0, by omega, rfl, Ext.refl _⟩
              case round =>
                rename World => ws
                obtain ⟨k, hk, rfl, hx⟩ := hrel
                by_cases hlt : k < R.length
                · obtain ⟨pb, pf, hpo, hpb, hs0, hs1⟩ := ((hti.ext (hx5)).ext hx) k hlt
                  subst hpo
                  have hA := HOK.out.2 k hlt
                  unfold OkAt at hA
                  have h2 : decide (tSnd R k ≤ tFst R k) = false := by simp only [decide_eq_false_iff_not]; omega
                  by_cases hk0 : k = 0
                  · subst hk0
                    rw [Nat.zero_mul, Nat.add_zero] at hs0 hs1
                    clear hA
                    go_wp2_with fail
                    refine wp_region_after (by kernel_rfl) (by kernel_rfl) ?_
                    intro hne
                    have hps := ((hti.ext (hx5)).ext hx).after (k := 0) hlt
                    rw [Nat.zero_mul, Nat.add_zero] at hps
                    repeat (go_big_quiet_step (fail))
                    refine wpQuiet_nil ?_
                    intro w4 hx4
                    go_wp2_with fail
                    exact ⟨⟨0 + 1, by omega, rfl, hx.trans hx4⟩, by simp only [intOf]; omega⟩
                  · obtain ⟨q, rfl⟩ : ∃ q, k = q + 1 := ⟨k - 1, by omega⟩
                    have hq0 : decide (0 < (q : Int) + 1) = true := by simp only [decide_eq_true_eq]; omega
                    have hup := hA.2.2.2 (by omega)
                    rw [Nat.add_sub_cancel] at hup
                    have h4 : decide (tFst R (q + 1) ≤ tFst R q) = false := by simp only [decide_eq_false_iff_not]; omega
                    have h5 : decide (tSnd R (q + 1) ≤ tSnd R q) = false := by simp only [decide_eq_false_iff_not]; omega
                    clear hA hup
                    go_wp2_with fail
                    refine wp_region_after (by kernel_rfl) (by kernel_rfl) ?_
                    intro hne
                    have hps := ((hti.ext (hx5)).ext hx).after (k := q + 1) hlt
                    have hpq := ((hti.ext (hx5)).ext hx).after (k := q) (by omega)
                    repeat (go_big_quiet_step (fail))
                    refine wpQuiet_nil ?_
                    intro w4 hx4
                    go_wp2_with fail
                    exact ⟨⟨q + 1 + 1, by omega, by go_num, hx.trans hx4⟩, by simp only [intOf]; omega⟩
                · go_wp2_with fail
                  refine (hal _ ((hx13.trans (hx5)).trans hx)).mono ?_
                  rintro e w2 ⟨rfl, hx2⟩
                  go_wp2_with fail
                  go_ret
                  exact ⟨rfl, hx2⟩
          · go_wp2_with fail
            go_loopw [25] (fun i ws => ∃ k : Nat, k ≤ R.length ∧ i = .int .i64 k ∧ Ext w5 ws) (fun i _ => R.length - (intOf i).toNat)
            case atStart => exact ⟨0, by omega, rfl, Ext.refl _⟩
            case round =>
              rename World => ws
              obtain ⟨k, hk, rfl, hx⟩ := hrel
              by_cases hlt : k < R.length
              · obtain ⟨pb, pf, hpo, hpb, hs0, hs1⟩ := ((hti.ext (hx5)).ext hx) k hlt
                subst hpo
                have hA := HOK.out.2 k hlt
                unfold OkAt at hA
                have h2 : decide (tSnd R k ≤ tFst R k) = false := by simp only [decide_eq_false_iff_not]; omega
                by_cases hk0 : k = 0
                · subst hk0
                  rw [Nat.zero_mul, Nat.add_zero] at hs0 hs1
                  clear hA
                  go_wp2_with fail
                  refine wp_region_after (by kernel_rfl) (by kernel_rfl) ?_
                  intro hne
                  have hps := ((hti.ext (hx5)).ext hx).after (k := 0) hlt
                  rw [Nat.zero_mul, Nat.add_zero] at hps
                  repeat (go_big_quiet_step (fail))
                  refine wpQuiet_nil ?_
                  intro w4 hx4
                  go_wp2_with fail
                  exact ⟨⟨0 + 1, by omega, rfl, hx.trans hx4⟩, by simp only [intOf]; omega⟩
                · obtain ⟨q, rfl⟩ : ∃ q, k = q + 1 := ⟨k - 1, by omega⟩
                  have hq0 : decide (0 < (q : Int) + 1) = true := by simp only [decide_eq_true_eq]; omega
                  have hup := hA.2.2.2 (by omega)
                  rw [Nat.add_sub_cancel] at hup
                  have h4 : decide (tFst R (q + 1) ≤ tFst R q) = false := by simp only [decide_eq_false_iff_not]; omega
                  have h5 : decide (tSnd R (q + 1) ≤ tSnd R q) = false := by simp only [decide_eq_false_iff_not]; omega
                  clear hA hup
                  go_wp2_with fail
                  refine wp_region_after (by kernel_rfl) (by kernel_rfl) ?_
                  intro hne
                  have hps := ((hti.ext (hx5)).ext hx).after (k := q + 1) hlt
                  have hpq := ((hti.ext (hx5)).ext hx).after (k := q) (by omega)
                  repeat (go_big_quiet_step (fail))
                  refine wpQuiet_nil ?_
                  intro w4 hx4
                  go_wp2_with fail
                  exact ⟨⟨q + 1 + 1, by omega, by go_num, hx.trans hx4⟩, by simp only [intOf]; omega⟩
              · go_wp2_with fail
                refine (hal _ ((hx13.trans (hx5)).trans hx)).mono ?_
                rintro e w2 ⟨rfl, hx2⟩
                go_wp2_with fail
                go_ret
                exact ⟨rfl, hx2⟩
        · by_cases hle : at_ ≤ later
          · by_cases hg0 : gr = 0
            · have hlat := first_later HP.out rfl hnd HE.out HG.out hle hg0
              subst hg0
              clear hlat
              go_wp2_with fail
              go_loopw [25] (fun i ws => ∃ k : Nat, k ≤ R.length ∧ i = .int .i64 k ∧ Ext w4 ws) (fun i _ => R.length - (intOf i).toNat)
              case atStart => exact ⟨0, by omega, rfl, Ext.refl _⟩
              case round =>
                rename World => ws
                obtain ⟨k, hk, rfl, hx⟩ := hrel
                by_cases hlt : k < R.length
                · obtain ⟨pb, pf, hpo, hpb, hs0, hs1⟩ := ((hti.ext (Ext.refl _)).ext hx) k hlt
                  subst hpo
                  have hA := HOK.out.2 k hlt
                  unfold OkAt at hA
                  have h2 : decide (tSnd R k ≤ tFst R k) = false := by simp only [decide_eq_false_iff_not]; omega
                  by_cases hk0 : k = 0
                  · subst hk0
                    rw [Nat.zero_mul, Nat.add_zero] at hs0 hs1
                    clear hA
                    go_wp2_with fail
                    refine wp_region_after (by kernel_rfl) (by kernel_rfl) ?_
                    intro hne
                    have hps := ((hti.ext (Ext.refl _)).ext hx).after (k := 0) hlt
                    rw [Nat.zero_mul, Nat.add_zero] at hps
                    repeat (go_big_quiet_step (fail))
                    refine wpQuiet_nil ?_
                    intro w4 hx4
                    go_wp2_with fail
                    exact ⟨⟨0 + 1, by omega, rfl, hx.trans hx4⟩, by simp only [intOf]; omega⟩
                  · obtain ⟨q, rfl⟩ : ∃ q, k = q + 1 := ⟨k - 1, by omega⟩
                    have hq0 : decide (0 < (q : Int) + 1) = true := by simp only [decide_eq_true_eq]; omega
                    have hup := hA.2.2.2 (by omega)
                    rw [Nat.add_sub_cancel] at hup
                    have h4 : decide (tFst R (q + 1) ≤ tFst R q) = false := by simp only [decide_eq_false_iff_not]; omega
                    have h5 : decide (tSnd R (q + 1) ≤ tSnd R q) = false := by simp only [decide_eq_false_iff_not]; omega
                    clear hA hup
                    go_wp2_with fail
                    refine wp_region_after (by kernel_rfl) (by kernel_rfl) ?_
                    intro hne
                    have hps := ((hti.ext (Ext.refl _)).ext hx).after (k := q + 1) hlt
                    have hpq := ((hti.ext (Ext.refl _)).ext hx).after (k := q) (by omega)
                    repeat (go_big_quiet_step (fail))
                    refine wpQuiet_nil ?_
                    intro w4 hx4
                    go_wp2_with fail
                    exact ⟨⟨q + 1 + 1, by omega, by go_num, hx.trans hx4⟩, by simp only [intOf]; omega⟩
                · go_wp2_with fail
                  refine (hal _ ((hx13.trans (Ext.refl _)).trans hx)).mono ?_
                  rintro e w2 ⟨rfl, hx2⟩
                  go_wp2_with fail
                  go_ret
                  exact ⟨rfl, hx2⟩
            · have hgb : (gr == 0) = false := by simpa using hg0
              clear hg0
              go_wp2_with fail
              go_loopw [25] (fun i ws => ∃ k : Nat, k ≤ R.length ∧ i = .int .i64 k ∧ Ext w4 ws) (fun i _ => R.length - (intOf i).toNat)
              case atStart => exact ⟨0, by omega, rfl, Ext.refl _⟩
              case round =>
                rename World => ws
                obtain ⟨k, hk, rfl, hx⟩ := hrel
                by_cases hlt : k < R.length
                · obtain ⟨pb, pf, hpo, hpb, hs0, hs1⟩ := ((hti.ext (Ext.refl _)).ext hx) k hlt
                  subst hpo
                  have hA := HOK.out.2 k hlt
                  unfold OkAt at hA
                  have h2 : decide (tSnd R k ≤ tFst R k) = false := by simp only [decide_eq_false_iff_not]; omega
                  by_cases hk0 : k = 0
                  · subst hk0
                    rw [Nat.zero_mul, Nat.add_zero] at hs0 hs1
                    clear hA
                    go_wp2_with fail
                    refine wp_region_after (by kernel_rfl) (by kernel_rfl) ?_
                    intro hne
                    have hps := ((hti.ext (Ext.refl _)).ext hx).after (k := 0) hlt
                    rw [Nat.zero_mul, Nat.add_zero] at hps
                    repeat (go_big_quiet_step (fail))
                    refine wpQuiet_nil ?_
                    intro w4 hx4
                    go_wp2_with fail
                    exact ⟨⟨0 + 1, by omega, rfl, hx.trans hx4⟩, by simp only [intOf]; omega⟩
                  · obtain ⟨q, rfl⟩ : ∃ q, k = q + 1 := ⟨k - 1, by omega⟩
                    have hq0 : decide (0 < (q : Int) + 1) = true := by simp only [decide_eq_true_eq]; omega
                    have hup := hA.2.2.2 (by omega)
                    rw [Nat.add_sub_cancel] at hup
                    have h4 : decide (tFst R (q + 1) ≤ tFst R q) = false := by simp only [decide_eq_false_iff_not]; omega
                    have h5 : decide (tSnd R (q + 1) ≤ tSnd R q) = false := by simp only [decide_eq_false_iff_not]; omega
                    clear hA hup
                    go_wp2_with fail
                    refine wp_region_after (by kernel_rfl) (by kernel_rfl) ?_
                    intro hne
                    have hps := ((hti.ext (Ext.refl _)).ext hx).after (k := q + 1) hlt
                    have hpq := ((hti.ext (Ext.refl _)).ext hx).after (k := q) (by omega)
                    repeat (go_big_quiet_step (fail))
                    refine wpQuiet_nil ?_
                    intro w4 hx4
                    go_wp2_with fail
                    exact ⟨⟨q + 1 + 1, by omega, by go_num, hx.trans hx4⟩, by simp only [intOf]; omega⟩
                · go_wp2_with fail
                  refine (hal _ ((hx13.trans (Ext.refl _)).trans hx)).mono ?_
                  rintro e w2 ⟨rfl, hx2⟩
                  go_wp2_with fail
                  go_ret
                  exact ⟨rfl, hx2⟩
          · go_wp2_with fail
            go_loopw [25] (fun i ws => ∃ k : Nat, k ≤ R.length ∧ i = .int .i64 k ∧ Ext w4 ws) (fun i _ => R.length - (intOf i).toNat)
            case atStart => exact ⟨0, by omega, rfl, Ext.refl _⟩
            case round =>
              rename World => ws
              obtain ⟨k, hk, rfl, hx⟩ := hrel
              by_cases hlt : k < R.length
              · obtain ⟨pb, pf, hpo, hpb, hs0, hs1⟩ := ((hti.ext (Ext.refl _)).ext hx) k hlt
                subst hpo
                have hA := HOK.out.2 k hlt
                unfold OkAt at hA
                have h2 : decide (tSnd R k ≤ tFst R k) = false := by simp only [decide_eq_false_iff_not]; omega
                by_cases hk0 : k = 0
                · subst hk0
                  rw [Nat.zero_mul, Nat.add_zero] at hs0 hs1
                  clear hA
                  go_wp2_with fail
                  refine wp_region_after (by kernel_rfl) (by kernel_rfl) ?_
                  intro hne
                  have hps := ((hti.ext (Ext.refl _)).ext hx).after (k := 0) hlt
                  rw [Nat.zero_mul, Nat.add_zero] at hps
                  repeat (go_big_quiet_step (fail))
                  refine wpQuiet_nil ?_
                  intro w4 hx4
                  go_wp2_with fail
                  exact ⟨⟨0 + 1, by omega, rfl, hx.trans hx4⟩, by simp only [intOf]; omega⟩
                · obtain ⟨q, rfl⟩ : ∃ q, k = q + 1 := ⟨k - 1, by omega⟩
                  have hq0 : decide (0 < (q : Int) + 1) = true := by simp only [decide_eq_true_eq]; omega
                  have hup := hA.2.2.2 (by omega)
                  rw [Nat.add_sub_cancel] at hup
                  have h4 : decide (tFst R (q + 1) ≤ tFst R q) = false := by simp only [decide_eq_false_iff_not]; omega
                  have h5 : decide (tSnd R (q + 1) ≤ tSnd R q) = false := by simp only [decide_eq_false_iff_not]; omega
                  clear hA hup
                  go_wp2_with fail
                  refine wp_region_after (by kernel_rfl) (by kernel_rfl) ?_
                  intro hne
                  have hps := ((hti.ext (Ext.refl _)).ext hx).after (k := q + 1) hlt
                  have hpq := ((hti.ext (Ext.refl _)).ext hx).after (k := q) (by omega)
                  repeat (go_big_quiet_step (fail))
                  refine wpQuiet_nil ?_
                  intro w4 hx4
                  go_wp2_with fail
                  exact ⟨⟨q + 1 + 1, by omega, by go_num, hx.trans hx4⟩, by simp only [intOf]; omega⟩
              · go_wp2_with fail
                refine (hal _ ((hx13.trans (Ext.refl _)).trans hx)).mono ?_
                rintro e w2 ⟨rfl, hx2⟩
                go_wp2_with fail
                go_ret
                exact ⟨rfl, hx2⟩
        · go_wp2_with fail
          refine (bigLook_calls w4 xo xcap R at_ hti (by omega)).mono ?_
          rintro e w5 ⟨x, g, rfl, hLk, hx5⟩
          obtain ⟨rfl, rfl⟩ := first_look HP.out rfl HND.out hRl HE.out (.inr rfl) hLk
          clear hLk
          by_cases hle : at_ ≤ later
          · by_cases hg0 : gr = 0
            · have hlat := first_later HP.out rfl hnd HE.out HG.out hle hg0
              subst hg0
              exfalso
              have := (hlat (by decide)).1
              omega
            · have hgb : (gr == 0) = false := by simpa using hg0
              clear hg0
              go_wp2_with fail
              go_loopw [25] (fun i ws => ∃ k : Nat, k ≤ R.length ∧ i = .int .i64 k ∧ Ext w5 ws) (fun i _ => R.length - (intOf i).toNat)
              case atStart => exact ⟨0, by omega, rfl, Ext.refl _⟩
              case round =>
                rename World => ws
                obtain ⟨k, hk, rfl, hx⟩ := hrel
                by_cases hlt : k < R.length
                · obtain ⟨pb, pf, hpo, hpb, hs0, hs1⟩ := ((hti.ext (hx5)).ext hx) k hlt
                  subst hpo
                  have hA := HOK.out.2 k hlt
                  unfold OkAt at hA
                  have h2 : decide (tSnd R k ≤ tFst R k) = false := by simp only [decide_eq_false_iff_not]; omega
                  by_cases hk0 : k = 0
                  · subst hk0
                    rw [Nat.zero_mul, Nat.add_zero] at hs0 hs1
                    clear hA
                    go_wp2_with fail
                    refine wp_region_after (by kernel_rfl) (by kernel_rfl) ?_
                    intro hne
                    have hps := ((hti.ext (hx5)).ext hx).after (k := 0) hlt
                    rw [Nat.zero_mul, Nat.add_zero] at hps
                    repeat (go_big_quiet_step (fail))
                    refine wpQuiet_nil ?_
                    intro w4 hx4
                    go_wp2_with fail
                    exact ⟨⟨0 + 1, by omega, rfl, hx.trans hx4⟩, by simp only [intOf]; omega⟩
                  · obtain ⟨q, rfl⟩ : ∃ q, k = q + 1 := ⟨k - 1, by omega⟩
                    have hq0 : decide (0 < (q : Int) + 1) = true := by simp only [decide_eq_true_eq]; omega
                    have hup := hA.2.2.2 (by omega)
                    rw [Nat.add_sub_cancel] at hup
                    have h4 : decide (tFst R (q + 1) ≤ tFst R q) = false := by simp only [decide_eq_false_iff_not]; omega
                    have h5 : decide (tSnd R (q + 1) ≤ tSnd R q) = false := by simp only [decide_eq_false_iff_not]; omega
                    clear hA hup
                    go_wp2_with fail
                    refine wp_region_after (by kernel_rfl) (by kernel_rfl) ?_
                    intro hne
                    have hps := ((hti.ext (hx5)).ext hx).after (k := q + 1) hlt
                    have hpq := ((hti.ext (hx5)).ext hx).after (k := q) (by omega)
                    repeat (go_big_quiet_step (fail))
                    refine wpQuiet_nil ?_
                    intro w4 hx4
                    go_wp2_with fail
                    exact ⟨⟨q + 1 + 1, by omega, by go_num, hx.trans hx4⟩, by simp only [intOf]; omega⟩
                · go_wp2_with fail
                  refine (hal _ ((hx13.trans (hx5)).trans hx)).mono ?_
                  rintro e w2 ⟨rfl, hx2⟩
                  go_wp2_with fail
                  go_ret
                  exact ⟨rfl, hx2⟩
          · go_wp2_with fail
            go_loopw [25] (fun i ws => ∃ k : Nat, k ≤ R.length ∧ i = .int .i64 k ∧ Ext w5 ws) (fun i _ => R.length - (intOf i).toNat)
            case atStart => exact ⟨0, by omega, rfl, Ext.refl _⟩
            case round =>
              rename World => ws
              obtain ⟨k, hk, rfl, hx⟩ := hrel
              by_cases hlt : k < R.length
              · obtain ⟨pb, pf, hpo, hpb, hs0, hs1⟩ := ((hti.ext (hx5)).ext hx) k hlt
                subst hpo
                have hA := HOK.out.2 k hlt
                unfold OkAt at hA
                have h2 : decide (tSnd R k ≤ tFst R k) = false := by simp only [decide_eq_false_iff_not]; omega
                by_cases hk0 : k = 0
                · subst hk0
                  rw [Nat.zero_mul, Nat.add_zero] at hs0 hs1
                  clear hA
                  go_wp2_with fail
                  refine wp_region_after (by kernel_rfl) (by kernel_rfl) ?_
                  intro hne
                  have hps := ((hti.ext (hx5)).ext hx).after (k := 0) hlt
                  rw [Nat.zero_mul, Nat.add_zero] at hps
                  repeat (go_big_quiet_step (fail))
                  refine wpQuiet_nil ?_
                  intro w4 hx4
                  go_wp2_with fail
                  exact ⟨⟨0 + 1, by omega, rfl, hx.trans hx4⟩, by simp only [intOf]; omega⟩
                · obtain ⟨q, rfl⟩ : ∃ q, k = q + 1 := ⟨k - 1, by omega⟩
                  have hq0 : decide (0 < (q : Int) + 1) = true := by simp only [decide_eq_true_eq]; omega
                  have hup := hA.2.2.2 (by omega)
                  rw [Nat.add_sub_cancel] at hup
                  have h4 : decide (tFst R (q + 1) ≤ tFst R q) = false := by simp only [decide_eq_false_iff_not]; omega
                  have h5 : decide (tSnd R (q + 1) ≤ tSnd R q) = false := by simp only [decide_eq_false_iff_not]; omega
                  clear hA hup
                  go_wp2_with fail
                  refine wp_region_after (by kernel_rfl) (by kernel_rfl) ?_
                  intro hne
                  have hps := ((hti.ext (hx5)).ext hx).after (k := q + 1) hlt
                  have hpq := ((hti.ext (hx5)).ext hx).after (k := q) (by omega)
                  repeat (go_big_quiet_step (fail))
                  refine wpQuiet_nil ?_
                  intro w4 hx4
                  go_wp2_with fail
                  exact ⟨⟨q + 1 + 1, by omega, by go_num, hx.trans hx4⟩, by simp only [intOf]; omega⟩
              · go_wp2_with fail
                refine (hal _ ((hx13.trans (hx5)).trans hx)).mono ?_
                rintro e w2 ⟨rfl, hx2⟩
                go_wp2_with fail
                go_ret
                exact ⟨rfl, hx2⟩
      · obtain ⟨h0, h10, rfl⟩ := first_err HP.out HE.out he
        have he' : (er == 0) = false := by simpa using he
        have he2 : (er != 0) = true := by simpa using he
        have h0' : (fr != 0) = true := by simpa using h0
        have h10' : (fr != 10) = true := by simpa using h10
        clear he h0 h10
        go_wp2_with fail
        refine (hal _ (hx13)).mono ?_
        rintro e w2 ⟨rfl, hx2⟩
        go_wp2_with fail
        go_ret
        exact ⟨rfl, hx2⟩
end Go.Proofs.Ytmmjjfjbhogfgaa
