/- RouteJourneys: the walk. -/
import Derived.Test.YtmmjjfjbhogfgaaLawA
import Derived.Test.YtmmjjfjbhogfgaaLawIs
namespace Go.Proofs.Ytmmjjfjbhogfgaa
open Go.ChangeShapes Go.WideShapes Go.ChangeAt Go.RowKit
attribute [local go_sem] Leg.val run_store_fn

theorem I64.nat {k : Nat} (h : k < 10000000) : I64 (k : Int) := by unfold I64; omega
theorem nats64 {xs : List Nat} {m : Nat} (hm : m ≤ 1000) (h : ∀ k, k < xs.length → xs.getD k 0 < m) : ∀ k, k < (nats xs).length → I64 (ith (nats xs) k) := by
  intro k hk
  rw [nats_length] at hk
  have := h k hk
  rw [ith_nats]
  exact I64.nat (by omega)

theorem is_len (w : World) (n : Int) (ao : Option Addr) (cap : Nat) (L : List Leg) (c src dst at_ : Int) (jo : Option Addr) (jcap : Nat) (J : List Int) (hL : LegsIn w ao L) (hlen : L.length ≤ 10000000) (hJ : IntsIn w jo J) (hJl : J.length ≤ 10000000) (hJ64 : ∀ k, k < J.length → I64 (ith J k)) {m : Nat} (hm : J.length = m) :
    Calls Try.prog 26 #[.int .i64 n, .slice ao L.length cap, .int .i64 c, .int .i64 src, .int .i64 dst, .int .i64 at_, .slice jo m jcap] w (IsRes w n L c src dst at_ J) := by
  subst hm
  exact is_calls w n ao cap L c src dst at_ jo jcap J hL hlen hJ hJl hJ64

set_option maxRecDepth 100000 in
set_option maxHeartbeats 8000000 in
theorem routeJourneys_calls (w : World) (n : Int) (ao : Option Addr) (cap : Nat) (L : List Leg) (c src dst at_ : Int) (jo : Option Addr) (jcap : Nat) (J : List Int) (hL : LegsIn w ao L) (hJ : IntsIn w jo J) (hJ64 : ∀ k, k < J.length → I64 (ith J k)) :
    Calls Try.prog 10 #[.int .i64 n, .slice ao L.length cap, .int .i64 c, .int .i64 src, .int .i64 dst, .int .i64 at_, .slice jo J.length jcap] w (TrueRes w) := by
  have H64 := Lib.hid hJ64
  clear hJ64
  go_enter Try.func10, Try.ntmps10
  go_wp2_with fail
  refine (few_calls w ao L.length cap).mono ?_
  rintro e w1 ⟨rfl, hx1⟩
  have hal : ∀ w2, Ext w w2 → Calls Try.prog 19 #[] w2 fun e w' => e = .returned (.bool true) ∧ Ext w w' := fun w2 hx => (alive_calls w2).mono (fun e w' ⟨he, hx'⟩ => ⟨he, hx.trans hx'⟩)
  cases hd : decide (L.length ≤ 80) with
  | false =>
    go_wp2_with fail
    refine (hal _ hx1).mono ?_
    rintro e w2 ⟨rfl, hx2⟩
    go_wp2_with fail
    go_ret
    exact ⟨rfl, hx2⟩
  | true =>
    have hl : L.length ≤ 80 := by simpa using hd
    by_cases hd2 : 100 < J.length
    · go_wp2_with fail
      refine (hal _ hx1).mono ?_
      rintro e w2 ⟨rfl, hx2⟩
      go_wp2_with fail
      go_ret
      exact ⟨rfl, hx2⟩
    · go_wp2_with fail
      refine (earliest_calls w1 n ao cap L c src dst at_ (hL.ext hx1) (by omega)).mono ?_
      rintro e w2 ⟨a, v, xs, er, rfl, ho, hE, hx2⟩
      have hx12 := hx1.trans hx2
      go_wp2_with fail
      refine (is_calls w2 n ao cap L c src dst at_ jo jcap J (hL.ext hx12) (by omega) (hJ.ext hx12) (by omega) H64.out).mono ?_
      rintro e w3 ⟨b, fr, rfl, hI, hx3⟩
      have hx13 := hx12.trans hx3
      obtain ⟨vo, vcap, rfl, hvi, hvb⟩ := ho.intsShape
      rw [nats_length]
      have HE := Lib.hid hE
      have HI := Lib.hid hI
      clear hE hI
      by_cases hf : fr = 0
      · by_cases he : er = 0
        · subst he
          subst hf
          go_wp2_with fail
          have hxlen := law_len HE.out
          have hlin := law_in HE.out
          have hli1 := law_is HE.out rfl
          have hatop := law_top HE.out rfl
          have HLI1 := Lib.hid hli1
          clear hli1
          refine (is_len w3 n ao cap L c src dst at_ vo vcap (nats xs) (hL.ext hx13) (by omega) (hvi.ext hx3) (by rw [nats_length]; omega) (nats64 (by omega) hlin) (nats_length xs)).mono ?_
          rintro e w4 ⟨b2, gr, rfl, hI2, hx4⟩
          obtain ⟨rfl, rfl⟩ := hI2.uniq HLI1.out
          clear hI2
          have hx14 := hx13.trans hx4
          by_cases hxs : xs = []
          · subst hxs
            cases b with
            | false =>
              go_wp2_with fail
              refine (latest_calls w4 n _ cap L c src dst a (hL.ext hx14) (by omega)).mono ?_
              rintro e w5 ⟨bb, vk, ks, f5, rfl, ho5, hLa, hx5⟩
              have HL := Lib.hid hLa
              clear hLa
              have hx15 := hx14.trans hx5
              obtain ⟨ko, kcap, rfl, hvk, hvkb⟩ := ho5.intsShape
              rw [nats_length]
              obtain ⟨rfl, hab, hb1, hb0⟩ := law_late HE.out rfl HL.out
              have hkl := law_late_len HL.out
              go_wp2_with fail
              obtain ⟨hli, hle, hlk⟩ := law_late_is HL.out rfl hb1
              have HLE := Lib.hid hle
              have HLI := Lib.hid hli
              clear hle hli
              refine (is_len w5 n _ cap L c src dst bb ko kcap (nats ks) (hL.ext hx15) (by omega) hvk (by rw [nats_length]; omega) (nats64 (by omega) hlk) (nats_length ks)).mono ?_
              rintro e w6 ⟨b3, gr, rfl, hI3, hx6⟩
              obtain ⟨rfl, rfl⟩ := hI3.uniq HLI.out
              clear hI3
              have hx16 := hx15.trans hx6
              by_cases hks : ks = []
              · subst hks
                go_wp2_with fail
                refine (earliest_calls w6 n _ cap L c src dst bb (hL.ext hx16) (by omega)).mono ?_
                rintro e w7 ⟨d, v3, zs, hr, rfl, ho3, hE3, hx7⟩
                obtain ⟨rfl, hda⟩ := law_again HE.out rfl HL.out hE3
                clear hE3
                have hda' : (d == a) = true := by simp [hda]
                clear hda
                go_wp2_with fail
                refine (hal _ (hx16.trans hx7)).mono ?_
                rintro e w8 ⟨rfl, hx8⟩
                go_wp2_with fail
                go_ret
                exact ⟨rfl, hx8⟩
              · have hkp : 0 < ks.length := List.length_pos_iff.2 hks
                obtain ⟨h1, h2⟩ := HLE.out hks
                have h3 := hlk 0 hkp
                have h4 := hlk (ks.length - 1) (by omega)
                obtain ⟨kb, kf, hko, hkb, hkc⟩ := (hvk.ext hx6) 0 (by rw [nats_length]; exact hkp)
                subst hko
                obtain ⟨kb', kf', hko, _, hkd⟩ := (hvk.ext hx6) (ks.length - 1) (by rw [nats_length]; omega)
                simp only [Option.some.injEq, Addr.mk.injEq, and_true] at hko
                obtain ⟨rfl, rfl⟩ := hko
                rw [ith_nats] at hkc hkd
                rw [Nat.add_zero] at hkc
                generalize hk0 : ks.getD 0 0 = k0 at *
                generalize hk1 : ks.getD (ks.length - 1) 0 = k1 at *
                clear hk0 hk1
                obtain ⟨kq, hkq⟩ : ∃ kq, ks.length = kq + 1 := ⟨ks.length - 1, by omega⟩
                rw [hkq] at hkd ⊢
                rw [Nat.add_sub_cancel] at hkd
                obtain ⟨lb, lf, hao, hlb, g0, g1, g2, g3, g4⟩ := hL.ext hx16 k0 h3
                first
                | subst hao
                | (simp only [Option.some.injEq, Addr.mk.injEq, and_true] at hao; obtain ⟨rfl, rfl⟩ := hao)
                obtain ⟨lb', lf', hao, hlb', g0', g1', g2', g3', g4'⟩ := hL.ext hx16 k1 h4
                simp only [Option.some.injEq, Addr.mk.injEq, and_true] at hao
                obtain ⟨rfl, rfl⟩ := hao
                have hne : ((leg L k0).Dep != bb) = false := by simp [h1]
                have hkqb : kq < 100 := by omega
                clear h1 hkq hks
                go_wp2_with fail
                refine (earliest_calls w6 n _ cap L c src dst bb (hL.ext hx16) (by omega)).mono ?_
                rintro e w7 ⟨d, v3, zs, hr, rfl, ho3, hE3, hx7⟩
                obtain ⟨rfl, hda⟩ := law_again HE.out rfl HL.out hE3
                clear hE3
                have hda' : (d == a) = true := by simp [hda]
                clear hda
                go_wp2_with fail
                refine (hal _ (hx16.trans hx7)).mono ?_
                rintro e w8 ⟨rfl, hx8⟩
                go_wp2_with fail
                go_ret
                exact ⟨rfl, hx8⟩
            | true =>
              by_cases hJ0 : J = []
              · have hJl : (J.length : Int) = 0 := by simp [hJ0]
                have hJl2 : decide (0 < J.length) = false := by simp [hJ0]
                clear hJ0
                go_wp2_with fail
                refine (latest_calls w4 n _ cap L c src dst a (hL.ext hx14) (by omega)).mono ?_
                rintro e w5 ⟨bb, vk, ks, f5, rfl, ho5, hLa, hx5⟩
                have HL := Lib.hid hLa
                clear hLa
                have hx15 := hx14.trans hx5
                obtain ⟨ko, kcap, rfl, hvk, hvkb⟩ := ho5.intsShape
                rw [nats_length]
                obtain ⟨rfl, hab, hb1, hb0⟩ := law_late HE.out rfl HL.out
                have hkl := law_late_len HL.out
                go_wp2_with fail
                obtain ⟨hli, hle, hlk⟩ := law_late_is HL.out rfl hb1
                have HLE := Lib.hid hle
                have HLI := Lib.hid hli
                clear hle hli
                refine (is_len w5 n _ cap L c src dst bb ko kcap (nats ks) (hL.ext hx15) (by omega) hvk (by rw [nats_length]; omega) (nats64 (by omega) hlk) (nats_length ks)).mono ?_
                rintro e w6 ⟨b3, gr, rfl, hI3, hx6⟩
                obtain ⟨rfl, rfl⟩ := hI3.uniq HLI.out
                clear hI3
                have hx16 := hx15.trans hx6
                by_cases hks : ks = []
                · subst hks
                  go_wp2_with fail
                  refine (earliest_calls w6 n _ cap L c src dst bb (hL.ext hx16) (by omega)).mono ?_
                  rintro e w7 ⟨d, v3, zs, hr, rfl, ho3, hE3, hx7⟩
                  obtain ⟨rfl, hda⟩ := law_again HE.out rfl HL.out hE3
                  clear hE3
                  have hda' : (d == a) = true := by simp [hda]
                  clear hda
                  go_wp2_with fail
                  refine (hal _ (hx16.trans hx7)).mono ?_
                  rintro e w8 ⟨rfl, hx8⟩
                  go_wp2_with fail
                  go_ret
                  exact ⟨rfl, hx8⟩
                · have hkp : 0 < ks.length := List.length_pos_iff.2 hks
                  obtain ⟨h1, h2⟩ := HLE.out hks
                  have h3 := hlk 0 hkp
                  have h4 := hlk (ks.length - 1) (by omega)
                  obtain ⟨kb, kf, hko, hkb, hkc⟩ := (hvk.ext hx6) 0 (by rw [nats_length]; exact hkp)
                  subst hko
                  obtain ⟨kb', kf', hko, _, hkd⟩ := (hvk.ext hx6) (ks.length - 1) (by rw [nats_length]; omega)
                  simp only [Option.some.injEq, Addr.mk.injEq, and_true] at hko
                  obtain ⟨rfl, rfl⟩ := hko
                  rw [ith_nats] at hkc hkd
                  rw [Nat.add_zero] at hkc
                  generalize hk0 : ks.getD 0 0 = k0 at *
                  generalize hk1 : ks.getD (ks.length - 1) 0 = k1 at *
                  clear hk0 hk1
                  obtain ⟨kq, hkq⟩ : ∃ kq, ks.length = kq + 1 := ⟨ks.length - 1, by omega⟩
                  rw [hkq] at hkd ⊢
                  rw [Nat.add_sub_cancel] at hkd
                  obtain ⟨lb, lf, hao, hlb, g0, g1, g2, g3, g4⟩ := hL.ext hx16 k0 h3
                  first
                  | subst hao
                  | (simp only [Option.some.injEq, Addr.mk.injEq, and_true] at hao; obtain ⟨rfl, rfl⟩ := hao)
                  obtain ⟨lb', lf', hao, hlb', g0', g1', g2', g3', g4'⟩ := hL.ext hx16 k1 h4
                  simp only [Option.some.injEq, Addr.mk.injEq, and_true] at hao
                  obtain ⟨rfl, rfl⟩ := hao
                  have hne : ((leg L k0).Dep != bb) = false := by simp [h1]
                  have hkqb : kq < 100 := by omega
                  clear h1 hkq hks
                  go_wp2_with fail
                  refine (earliest_calls w6 n _ cap L c src dst bb (hL.ext hx16) (by omega)).mono ?_
                  rintro e w7 ⟨d, v3, zs, hr, rfl, ho3, hE3, hx7⟩
                  obtain ⟨rfl, hda⟩ := law_again HE.out rfl HL.out hE3
                  clear hE3
                  have hda' : (d == a) = true := by simp [hda]
                  clear hda
                  go_wp2_with fail
                  refine (hal _ (hx16.trans hx7)).mono ?_
                  rintro e w8 ⟨rfl, hx8⟩
                  go_wp2_with fail
                  go_ret
                  exact ⟨rfl, hx8⟩
              · have hJp : 0 < J.length := List.length_pos_iff.2 hJ0
                obtain ⟨h1, h2, h3⟩ := law_first HE.out HI.out rfl rfl hJ0
                obtain ⟨jb, jf, hjo, hjb, hjc⟩ := (hJ.ext hx14) (J.length - 1) (by omega)
                obtain ⟨q, hq⟩ : ∃ q : Nat, ith J (J.length - 1) = (q : Int) := ⟨(ith J (J.length - 1)).toNat, by omega⟩
                rw [hq, Int.toNat_natCast] at h1 h3
                rw [hq] at hjc
                subst hjo
                obtain ⟨lb2, lf2, hao2, hlb2, i0, i1, i2, i3, i4⟩ := hL.ext hx14 q h1
                obtain ⟨jq, hjq⟩ : ∃ jq, J.length = jq + 1 := ⟨J.length - 1, by omega⟩
                have hjq' : (J.length : Int) = (jq : Int) + 1 := by omega
                rw [hjq, Nat.add_sub_cancel] at hjc
                have hjqb : jq < 100 := by omega
                clear hjq hq h2 hJ0
                first
                | subst hao2
                | (simp only [Option.some.injEq, Addr.mk.injEq, and_true] at hao2; obtain ⟨rfl, rfl⟩ := hao2)
                go_wp2_with fail
                refine (latest_calls w4 n _ cap L c src dst a (hL.ext hx14) (by omega)).mono ?_
                rintro e w5 ⟨bb, vk, ks, f5, rfl, ho5, hLa, hx5⟩
                have HL := Lib.hid hLa
                clear hLa
                have hx15 := hx14.trans hx5
                obtain ⟨ko, kcap, rfl, hvk, hvkb⟩ := ho5.intsShape
                rw [nats_length]
                obtain ⟨rfl, hab, hb1, hb0⟩ := law_late HE.out rfl HL.out
                have hkl := law_late_len HL.out
                go_wp2_with fail
                obtain ⟨hli, hle, hlk⟩ := law_late_is HL.out rfl hb1
                have HLE := Lib.hid hle
                have HLI := Lib.hid hli
                clear hle hli
                refine (is_len w5 n _ cap L c src dst bb ko kcap (nats ks) (hL.ext hx15) (by omega) hvk (by rw [nats_length]; omega) (nats64 (by omega) hlk) (nats_length ks)).mono ?_
                rintro e w6 ⟨b3, gr, rfl, hI3, hx6⟩
                obtain ⟨rfl, rfl⟩ := hI3.uniq HLI.out
                clear hI3
                have hx16 := hx15.trans hx6
                by_cases hks : ks = []
                · subst hks
                  go_wp2_with fail
                  refine (earliest_calls w6 n _ cap L c src dst bb (hL.ext hx16) (by omega)).mono ?_
                  rintro e w7 ⟨d, v3, zs, hr, rfl, ho3, hE3, hx7⟩
                  obtain ⟨rfl, hda⟩ := law_again HE.out rfl HL.out hE3
                  clear hE3
                  have hda' : (d == a) = true := by simp [hda]
                  clear hda
                  go_wp2_with fail
                  refine (hal _ (hx16.trans hx7)).mono ?_
                  rintro e w8 ⟨rfl, hx8⟩
                  go_wp2_with fail
                  go_ret
                  exact ⟨rfl, hx8⟩
                · have hkp : 0 < ks.length := List.length_pos_iff.2 hks
                  obtain ⟨h1, h2⟩ := HLE.out hks
                  have h3 := hlk 0 hkp
                  have h4 := hlk (ks.length - 1) (by omega)
                  obtain ⟨kb, kf, hko, hkb, hkc⟩ := (hvk.ext hx6) 0 (by rw [nats_length]; exact hkp)
                  subst hko
                  obtain ⟨kb', kf', hko, _, hkd⟩ := (hvk.ext hx6) (ks.length - 1) (by rw [nats_length]; omega)
                  simp only [Option.some.injEq, Addr.mk.injEq, and_true] at hko
                  obtain ⟨rfl, rfl⟩ := hko
                  rw [ith_nats] at hkc hkd
                  rw [Nat.add_zero] at hkc
                  generalize hk0 : ks.getD 0 0 = k0 at *
                  generalize hk1 : ks.getD (ks.length - 1) 0 = k1 at *
                  clear hk0 hk1
                  obtain ⟨kq, hkq⟩ : ∃ kq, ks.length = kq + 1 := ⟨ks.length - 1, by omega⟩
                  rw [hkq] at hkd ⊢
                  rw [Nat.add_sub_cancel] at hkd
                  obtain ⟨lb, lf, hao, hlb, g0, g1, g2, g3, g4⟩ := hL.ext hx16 k0 h3
                  first
                  | subst hao
                  | (simp only [Option.some.injEq, Addr.mk.injEq, and_true] at hao; obtain ⟨rfl, rfl⟩ := hao)
                  obtain ⟨lb', lf', hao, hlb', g0', g1', g2', g3', g4'⟩ := hL.ext hx16 k1 h4
                  simp only [Option.some.injEq, Addr.mk.injEq, and_true] at hao
                  obtain ⟨rfl, rfl⟩ := hao
                  have hne : ((leg L k0).Dep != bb) = false := by simp [h1]
                  have hkqb : kq < 100 := by omega
                  clear h1 hkq hks
                  go_wp2_with fail
                  refine (earliest_calls w6 n _ cap L c src dst bb (hL.ext hx16) (by omega)).mono ?_
                  rintro e w7 ⟨d, v3, zs, hr, rfl, ho3, hE3, hx7⟩
                  obtain ⟨rfl, hda⟩ := law_again HE.out rfl HL.out hE3
                  clear hE3
                  have hda' : (d == a) = true := by simp [hda]
                  clear hda
                  go_wp2_with fail
                  refine (hal _ (hx16.trans hx7)).mono ?_
                  rintro e w8 ⟨rfl, hx8⟩
                  go_wp2_with fail
                  go_ret
                  exact ⟨rfl, hx8⟩
          · have hxp : 0 < xs.length := List.length_pos_iff.2 hxs
            have hend := law_end HE.out rfl hxs
            have h3 := hlin (xs.length - 1) (by omega)
            obtain ⟨kb, kf, hko, hkb, hkc⟩ := ((hvi.ext hx3).ext hx4) (xs.length - 1) (by rw [nats_length]; omega)
            subst hko
            rw [ith_nats] at hkc
            generalize hx0 : xs.getD (xs.length - 1) 0 = x0 at *
            obtain ⟨xq, hxq⟩ : ∃ xq, xs.length = xq + 1 := ⟨xs.length - 1, by omega⟩
            rw [hxq, Nat.add_sub_cancel] at hkc
            rw [hxq]
            obtain ⟨lb, lf, hao, hlb, g0, g1, g2, g3, g4⟩ := hL.ext hx14 x0 h3
            subst hao
            have hne : ((leg L x0).Arr != a) = false := by simp [hend]
            have hxqb : xq < 100 := by omega
            clear hend hxq hx0 hxs
            cases b with
            | false =>
              go_wp2_with fail
              refine (latest_calls w4 n _ cap L c src dst a (hL.ext hx14) (by omega)).mono ?_
              rintro e w5 ⟨bb, vk, ks, f5, rfl, ho5, hLa, hx5⟩
              have HL := Lib.hid hLa
              clear hLa
              have hx15 := hx14.trans hx5
              obtain ⟨ko, kcap, rfl, hvk, hvkb⟩ := ho5.intsShape
              rw [nats_length]
              obtain ⟨rfl, hab, hb1, hb0⟩ := law_late HE.out rfl HL.out
              have hkl := law_late_len HL.out
              go_wp2_with fail
              obtain ⟨hli, hle, hlk⟩ := law_late_is HL.out rfl hb1
              have HLE := Lib.hid hle
              have HLI := Lib.hid hli
              clear hle hli
              refine (is_len w5 n _ cap L c src dst bb ko kcap (nats ks) (hL.ext hx15) (by omega) hvk (by rw [nats_length]; omega) (nats64 (by omega) hlk) (nats_length ks)).mono ?_
              rintro e w6 ⟨b3, gr, rfl, hI3, hx6⟩
              obtain ⟨rfl, rfl⟩ := hI3.uniq HLI.out
              clear hI3
              have hx16 := hx15.trans hx6
              by_cases hks : ks = []
              · subst hks
                go_wp2_with fail
                refine (earliest_calls w6 n _ cap L c src dst bb (hL.ext hx16) (by omega)).mono ?_
                rintro e w7 ⟨d, v3, zs, hr, rfl, ho3, hE3, hx7⟩
                obtain ⟨rfl, hda⟩ := law_again HE.out rfl HL.out hE3
                clear hE3
                have hda' : (d == a) = true := by simp [hda]
                clear hda
                go_wp2_with fail
                refine (hal _ (hx16.trans hx7)).mono ?_
                rintro e w8 ⟨rfl, hx8⟩
                go_wp2_with fail
                go_ret
                exact ⟨rfl, hx8⟩
              · have hkp : 0 < ks.length := List.length_pos_iff.2 hks
                obtain ⟨h1, h2⟩ := HLE.out hks
                have h3 := hlk 0 hkp
                have h4 := hlk (ks.length - 1) (by omega)
                obtain ⟨kb, kf, hko, hkb, hkc⟩ := (hvk.ext hx6) 0 (by rw [nats_length]; exact hkp)
                subst hko
                obtain ⟨kb', kf', hko, _, hkd⟩ := (hvk.ext hx6) (ks.length - 1) (by rw [nats_length]; omega)
                simp only [Option.some.injEq, Addr.mk.injEq, and_true] at hko
                obtain ⟨rfl, rfl⟩ := hko
                rw [ith_nats] at hkc hkd
                rw [Nat.add_zero] at hkc
                generalize hk0 : ks.getD 0 0 = k0 at *
                generalize hk1 : ks.getD (ks.length - 1) 0 = k1 at *
                clear hk0 hk1
                obtain ⟨kq, hkq⟩ : ∃ kq, ks.length = kq + 1 := ⟨ks.length - 1, by omega⟩
                rw [hkq] at hkd ⊢
                rw [Nat.add_sub_cancel] at hkd
                obtain ⟨lb, lf, hao, hlb, g0, g1, g2, g3, g4⟩ := hL.ext hx16 k0 h3
                first
                | subst hao
                | (simp only [Option.some.injEq, Addr.mk.injEq, and_true] at hao; obtain ⟨rfl, rfl⟩ := hao)
                obtain ⟨lb', lf', hao, hlb', g0', g1', g2', g3', g4'⟩ := hL.ext hx16 k1 h4
                simp only [Option.some.injEq, Addr.mk.injEq, and_true] at hao
                obtain ⟨rfl, rfl⟩ := hao
                have hne : ((leg L k0).Dep != bb) = false := by simp [h1]
                have hkqb : kq < 100 := by omega
                clear h1 hkq hks
                go_wp2_with fail
                refine (earliest_calls w6 n _ cap L c src dst bb (hL.ext hx16) (by omega)).mono ?_
                rintro e w7 ⟨d, v3, zs, hr, rfl, ho3, hE3, hx7⟩
                obtain ⟨rfl, hda⟩ := law_again HE.out rfl HL.out hE3
                clear hE3
                have hda' : (d == a) = true := by simp [hda]
                clear hda
                go_wp2_with fail
                refine (hal _ (hx16.trans hx7)).mono ?_
                rintro e w8 ⟨rfl, hx8⟩
                go_wp2_with fail
                go_ret
                exact ⟨rfl, hx8⟩
            | true =>
              by_cases hJ0 : J = []
              · have hJl : (J.length : Int) = 0 := by simp [hJ0]
                have hJl2 : decide (0 < J.length) = false := by simp [hJ0]
                clear hJ0
                go_wp2_with fail
                refine (latest_calls w4 n _ cap L c src dst a (hL.ext hx14) (by omega)).mono ?_
                rintro e w5 ⟨bb, vk, ks, f5, rfl, ho5, hLa, hx5⟩
                have HL := Lib.hid hLa
                clear hLa
                have hx15 := hx14.trans hx5
                obtain ⟨ko, kcap, rfl, hvk, hvkb⟩ := ho5.intsShape
                rw [nats_length]
                obtain ⟨rfl, hab, hb1, hb0⟩ := law_late HE.out rfl HL.out
                have hkl := law_late_len HL.out
                go_wp2_with fail
                obtain ⟨hli, hle, hlk⟩ := law_late_is HL.out rfl hb1
                have HLE := Lib.hid hle
                have HLI := Lib.hid hli
                clear hle hli
                refine (is_len w5 n _ cap L c src dst bb ko kcap (nats ks) (hL.ext hx15) (by omega) hvk (by rw [nats_length]; omega) (nats64 (by omega) hlk) (nats_length ks)).mono ?_
                rintro e w6 ⟨b3, gr, rfl, hI3, hx6⟩
                obtain ⟨rfl, rfl⟩ := hI3.uniq HLI.out
                clear hI3
                have hx16 := hx15.trans hx6
                by_cases hks : ks = []
                · subst hks
                  go_wp2_with fail
                  refine (earliest_calls w6 n _ cap L c src dst bb (hL.ext hx16) (by omega)).mono ?_
                  rintro e w7 ⟨d, v3, zs, hr, rfl, ho3, hE3, hx7⟩
                  obtain ⟨rfl, hda⟩ := law_again HE.out rfl HL.out hE3
                  clear hE3
                  have hda' : (d == a) = true := by simp [hda]
                  clear hda
                  go_wp2_with fail
                  refine (hal _ (hx16.trans hx7)).mono ?_
                  rintro e w8 ⟨rfl, hx8⟩
                  go_wp2_with fail
                  go_ret
                  exact ⟨rfl, hx8⟩
                · have hkp : 0 < ks.length := List.length_pos_iff.2 hks
                  obtain ⟨h1, h2⟩ := HLE.out hks
                  have h3 := hlk 0 hkp
                  have h4 := hlk (ks.length - 1) (by omega)
                  obtain ⟨kb, kf, hko, hkb, hkc⟩ := (hvk.ext hx6) 0 (by rw [nats_length]; exact hkp)
                  subst hko
                  obtain ⟨kb', kf', hko, _, hkd⟩ := (hvk.ext hx6) (ks.length - 1) (by rw [nats_length]; omega)
                  simp only [Option.some.injEq, Addr.mk.injEq, and_true] at hko
                  obtain ⟨rfl, rfl⟩ := hko
                  rw [ith_nats] at hkc hkd
                  rw [Nat.add_zero] at hkc
                  generalize hk0 : ks.getD 0 0 = k0 at *
                  generalize hk1 : ks.getD (ks.length - 1) 0 = k1 at *
                  clear hk0 hk1
                  obtain ⟨kq, hkq⟩ : ∃ kq, ks.length = kq + 1 := ⟨ks.length - 1, by omega⟩
                  rw [hkq] at hkd ⊢
                  rw [Nat.add_sub_cancel] at hkd
                  obtain ⟨lb, lf, hao, hlb, g0, g1, g2, g3, g4⟩ := hL.ext hx16 k0 h3
                  first
                  | subst hao
                  | (simp only [Option.some.injEq, Addr.mk.injEq, and_true] at hao; obtain ⟨rfl, rfl⟩ := hao)
                  obtain ⟨lb', lf', hao, hlb', g0', g1', g2', g3', g4'⟩ := hL.ext hx16 k1 h4
                  simp only [Option.some.injEq, Addr.mk.injEq, and_true] at hao
                  obtain ⟨rfl, rfl⟩ := hao
                  have hne : ((leg L k0).Dep != bb) = false := by simp [h1]
                  have hkqb : kq < 100 := by omega
                  clear h1 hkq hks
                  go_wp2_with fail
                  refine (earliest_calls w6 n _ cap L c src dst bb (hL.ext hx16) (by omega)).mono ?_
                  rintro e w7 ⟨d, v3, zs, hr, rfl, ho3, hE3, hx7⟩
                  obtain ⟨rfl, hda⟩ := law_again HE.out rfl HL.out hE3
                  clear hE3
                  have hda' : (d == a) = true := by simp [hda]
                  clear hda
                  go_wp2_with fail
                  refine (hal _ (hx16.trans hx7)).mono ?_
                  rintro e w8 ⟨rfl, hx8⟩
                  go_wp2_with fail
                  go_ret
                  exact ⟨rfl, hx8⟩
              · have hJp : 0 < J.length := List.length_pos_iff.2 hJ0
                obtain ⟨h1, h2, h3⟩ := law_first HE.out HI.out rfl rfl hJ0
                obtain ⟨jb, jf, hjo, hjb, hjc⟩ := (hJ.ext hx14) (J.length - 1) (by omega)
                obtain ⟨q, hq⟩ : ∃ q : Nat, ith J (J.length - 1) = (q : Int) := ⟨(ith J (J.length - 1)).toNat, by omega⟩
                rw [hq, Int.toNat_natCast] at h1 h3
                rw [hq] at hjc
                subst hjo
                obtain ⟨lb2, lf2, hao2, hlb2, i0, i1, i2, i3, i4⟩ := hL.ext hx14 q h1
                obtain ⟨jq, hjq⟩ : ∃ jq, J.length = jq + 1 := ⟨J.length - 1, by omega⟩
                have hjq' : (J.length : Int) = (jq : Int) + 1 := by omega
                rw [hjq, Nat.add_sub_cancel] at hjc
                have hjqb : jq < 100 := by omega
                clear hjq hq h2 hJ0
                first
                | subst hao2
                | (simp only [Option.some.injEq, Addr.mk.injEq, and_true] at hao2; obtain ⟨rfl, rfl⟩ := hao2)
                go_wp2_with fail
                refine (latest_calls w4 n _ cap L c src dst a (hL.ext hx14) (by omega)).mono ?_
                rintro e w5 ⟨bb, vk, ks, f5, rfl, ho5, hLa, hx5⟩
                have HL := Lib.hid hLa
                clear hLa
                have hx15 := hx14.trans hx5
                obtain ⟨ko, kcap, rfl, hvk, hvkb⟩ := ho5.intsShape
                rw [nats_length]
                obtain ⟨rfl, hab, hb1, hb0⟩ := law_late HE.out rfl HL.out
                have hkl := law_late_len HL.out
                go_wp2_with fail
                obtain ⟨hli, hle, hlk⟩ := law_late_is HL.out rfl hb1
                have HLE := Lib.hid hle
                have HLI := Lib.hid hli
                clear hle hli
                refine (is_len w5 n _ cap L c src dst bb ko kcap (nats ks) (hL.ext hx15) (by omega) hvk (by rw [nats_length]; omega) (nats64 (by omega) hlk) (nats_length ks)).mono ?_
                rintro e w6 ⟨b3, gr, rfl, hI3, hx6⟩
                obtain ⟨rfl, rfl⟩ := hI3.uniq HLI.out
                clear hI3
                have hx16 := hx15.trans hx6
                by_cases hks : ks = []
                · subst hks
                  go_wp2_with fail
                  refine (earliest_calls w6 n _ cap L c src dst bb (hL.ext hx16) (by omega)).mono ?_
                  rintro e w7 ⟨d, v3, zs, hr, rfl, ho3, hE3, hx7⟩
                  obtain ⟨rfl, hda⟩ := law_again HE.out rfl HL.out hE3
                  clear hE3
                  have hda' : (d == a) = true := by simp [hda]
                  clear hda
                  go_wp2_with fail
                  refine (hal _ (hx16.trans hx7)).mono ?_
                  rintro e w8 ⟨rfl, hx8⟩
                  go_wp2_with fail
                  go_ret
                  exact ⟨rfl, hx8⟩
                · have hkp : 0 < ks.length := List.length_pos_iff.2 hks
                  obtain ⟨h1, h2⟩ := HLE.out hks
                  have h3 := hlk 0 hkp
                  have h4 := hlk (ks.length - 1) (by omega)
                  obtain ⟨kb, kf, hko, hkb, hkc⟩ := (hvk.ext hx6) 0 (by rw [nats_length]; exact hkp)
                  subst hko
                  obtain ⟨kb', kf', hko, _, hkd⟩ := (hvk.ext hx6) (ks.length - 1) (by rw [nats_length]; omega)
                  simp only [Option.some.injEq, Addr.mk.injEq, and_true] at hko
                  obtain ⟨rfl, rfl⟩ := hko
                  rw [ith_nats] at hkc hkd
                  rw [Nat.add_zero] at hkc
                  generalize hk0 : ks.getD 0 0 = k0 at *
                  generalize hk1 : ks.getD (ks.length - 1) 0 = k1 at *
                  clear hk0 hk1
                  obtain ⟨kq, hkq⟩ : ∃ kq, ks.length = kq + 1 := ⟨ks.length - 1, by omega⟩
                  rw [hkq] at hkd ⊢
                  rw [Nat.add_sub_cancel] at hkd
                  obtain ⟨lb, lf, hao, hlb, g0, g1, g2, g3, g4⟩ := hL.ext hx16 k0 h3
                  first
                  | subst hao
                  | (simp only [Option.some.injEq, Addr.mk.injEq, and_true] at hao; obtain ⟨rfl, rfl⟩ := hao)
                  obtain ⟨lb', lf', hao, hlb', g0', g1', g2', g3', g4'⟩ := hL.ext hx16 k1 h4
                  simp only [Option.some.injEq, Addr.mk.injEq, and_true] at hao
                  obtain ⟨rfl, rfl⟩ := hao
                  have hne : ((leg L k0).Dep != bb) = false := by simp [h1]
                  have hkqb : kq < 100 := by omega
                  clear h1 hkq hks
                  go_wp2_with fail
                  refine (earliest_calls w6 n _ cap L c src dst bb (hL.ext hx16) (by omega)).mono ?_
                  rintro e w7 ⟨d, v3, zs, hr, rfl, ho3, hE3, hx7⟩
                  obtain ⟨rfl, hda⟩ := law_again HE.out rfl HL.out hE3
                  clear hE3
                  have hda' : (d == a) = true := by simp [hda]
                  clear hda
                  go_wp2_with fail
                  refine (hal _ (hx16.trans hx7)).mono ?_
                  rintro e w8 ⟨rfl, hx8⟩
                  go_wp2_with fail
                  go_ret
                  exact ⟨rfl, hx8⟩
        · obtain ⟨rfl, rfl⟩ := law_none HE.out HI.out hf he
          subst hf
          go_wp2_with fail
          refine (hal _ hx13).mono ?_
          rintro e w2 ⟨rfl, hx2⟩
          go_wp2_with fail
          go_ret
          exact ⟨rfl, hx2⟩
      · obtain ⟨rfl, rfl⟩ := law_err HE.out HI.out hf
        have hf1 : (er != 0) = true := by simpa using hf
        have HF := Lib.hid hf
        clear hf
        go_wp2_with fail
        refine (hal _ hx13).mono ?_
        rintro e w2 ⟨rfl, hx2⟩
        go_wp2_with fail
        go_ret
        exact ⟨rfl, hx2⟩
end Go.Proofs.Ytmmjjfjbhogfgaa
