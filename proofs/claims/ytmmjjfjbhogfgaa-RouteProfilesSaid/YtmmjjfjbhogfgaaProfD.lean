/- Profile of the specification. -/
import Derived.Test.YtmmjjfjbhogfgaaProfC
import Derived.Test.YtmmjjfjbhogfgaaRefF
namespace Go.Proofs.Ytmmjjfjbhogfgaa
open Go.RowKit
attribute [local go_sem] Leg.val run_store_fn

def RefProfRes (w : World) (n : Int) (L : List Leg) (c src dst : Int) (e : Ending) (w' : World) : Prop :=
  ∃ ao cap R er, e = .returned (.tuple #[.slice ao R.length cap, .int .i64 er]) ∧ TripsIn w' ao R ∧ ProfOf n L c src dst R er ∧ Ext w w'

set_option maxRecDepth 100000 in
set_option maxHeartbeats 8000000 in
theorem refProfile_calls (w : World) (n : Int) (ao : Option Addr) (cap : Nat) (L : List Leg) (c src dst : Int) (hL : LegsIn w ao L) (hlen : L.length ≤ 10000000) :
    Calls Try.prog 35 #[.int .i64 n, .slice ao L.length cap, .int .i64 c, .int .i64 src, .int .i64 dst] w (RefProfRes w n L c src dst) := by
  obtain ⟨i0, hi, hz0, hz1, hz2⟩ := info_parts info_stop
  go_enter Try.func35, Try.ntmps35
  go_wp2_with fail
  refine (good_calls w n ao cap L c src dst none 0 [] hL hlen (fun k hk => by simp at hk) (by simp)).mono ?_
  rintro e wC ⟨rfl, hxC⟩
  cases hne : (goodE n L c src dst [] != 0) with
  | true =>
    have hg : goodE n L c src dst [] ≠ 0 := by simpa using hne
    have HG := Lib.hid hg
    clear hg
    go_wp2_with fail
    go_ret2
    exact ⟨none, 0, [], _, rfl, fun k hk => by simp at hk, .inl ⟨HG.out, rfl, rfl⟩, hxC⟩
  | false =>
    have hg : goodE n L c src dst [] = 0 := by simpa using hne
    have HG := Lib.hid hg
    have hgood := good_iff.1 hg
    have hlen2 := hgood.len
    have hc : 0 ≤ c ∧ c ≤ 101 := by have := hgood.change; omega
    have HF := Lib.hid hgood.fine
    clear hgood
    cases hsd : (src == dst) with
    | true =>
      have hsd' : src = dst := by simpa using hsd
      have HS := Lib.hid hsd'
      clear hsd'
      rw [hg] at hne ⊢
      clear hg
      go_wp2_with fail
      go_ret2
      exact ⟨none, 0, [], _, rfl, fun k hk => by simp at hk, .inr (.inl ⟨HG.out, HS.out, rfl, rfl⟩), hxC⟩
    | false =>
      have hsd' : src ≠ dst := by simpa using hsd
      have HS := Lib.hid hsd'
      clear hsd' hg
      have hLC := hL.ext hxC
      obtain ⟨W, hW⟩ : ∃ W, W = wC.heap.size := ⟨_, rfl⟩
      go_wp2_with fail
      go_loopw [14, 13] (fun below out wr => ∃ (b : Int) (outv : Value) (P O : Stops), below = .int .i64 b ∧ outv = out ∧ 0 ≤ b ∧ b ≤ 10001 ∧ Ext wC wr ∧ Own wr W 2 outv (trips O) ∧ O.length + b ≤ 10001 ∧ Hid (Down c L src dst b P ∧ DownRec P O)) (fun below _ _ => (intOf below).toNat)
      case atStart =>
        refine ⟨10001, _, [], [], rfl, rfl, by omega, by omega, Ext.refl _, Own.nil _ _ _, by simp, Lib.hid ⟨Down.start _ _ _ _ _ (fun i hi h => ?_), DownRec.nil⟩⟩
        have := HF.out i hi
        unfold Fine at this
        omega
      case round =>
        obtain ⟨b, outv, P, O, rfl, rfl, hb0, hb1, hx, ho, hOl, HB⟩ := hrel
        go_wp2_with fail
        go_loopw [16, 15] (fun ii dv ws => ∃ (i : Nat) (d : Int), i ≤ L.length ∧ ii = .int .i64 i ∧ dv = .int .i64 d ∧ Ext wC ws ∧ Own ws W 2 outv (trips O) ∧ Hid (DepAt L src (DepBelow L b) i d)) (fun ii _ _ => L.length - (intOf ii).toNat)
        case atStart => exact ⟨0, -1, by omega, rfl, rfl, hx, ho, Lib.hid (.inl ⟨rfl, fun i hi => by omega⟩)⟩
        case round =>
          clear hx ho
          obtain ⟨i, d, hi2, rfl, rfl, hx, ho, HD⟩ := hrel
          by_cases hlt : i < L.length
          · obtain ⟨lb, lf, hao, hlb, h0, h1, h2, h3, h4⟩ := hLC.ext hx i hlt
            subst hao
            have hdep : 0 ≤ (leg L i).Dep := by have := HF.out i hlt; unfold Fine at this; omega
            cases hd : ((leg L i).From == src) with
            | false =>
              have HK := Lib.hid (HD.out.skip (fun h => by simp [h.2] at hd))
              go_wp2_with fail
              exact ⟨⟨i + 1, d, by omega, rfl, rfl, hx, ho, Lib.hid HK.out⟩, by simp only [intOf]; omega⟩
            | true =>
              cases hd2 : decide ((leg L i).Dep < b) with
              | false =>
                have HK := Lib.hid (HD.out.skip (fun h => by have := h.1; unfold DepBelow at this; simp at hd2; omega))
                go_wp2_with fail
                exact ⟨⟨i + 1, d, by omega, rfl, rfl, hx, ho, Lib.hid HK.out⟩, by simp only [intOf]; omega⟩
              | true =>
                have HK : Hid (DepAt L src (DepBelow L b) (i + 1) (max d (leg L i).Dep)) := Lib.hid (by
                  by_cases h : d < (leg L i).Dep
                  · rw [Int.max_eq_right (by omega)]
                    exact HD.out.take (by simpa [DepBelow] using hd2) (by simpa using hd) hdep h
                  · rw [Int.max_eq_left (by omega)]
                    exact HD.out.keep hdep (by omega))
                go_wp2_with fail
                exact ⟨⟨i + 1, _, by omega, rfl, rfl, hx, ho, Lib.hid HK.out⟩, by simp only [intOf]; omega⟩
          · obtain rfl : i = L.length := by omega
            have hbnd := HD.out.bound
            by_cases hd0 : d = -1
            · subst hd0
              have HFr : Hid (ProfIs c L src dst O.reverse) := Lib.hid ((HB.out.1.pts (fun i hi hfr => by
                rcases HD.out with ⟨_, hD⟩ | ⟨hD, _⟩
                · by_cases e : (leg L i).Dep < b
                  · exact (hD i hi ⟨e, hfr⟩).elim
                  · omega
                · omega) HF.out).prof hc.1 HF.out HB.out.2.front)
              obtain ⟨oo, ocap, rfl, hto⟩ := ho.tripsIn
              have hOl2 : O.length ≤ 10001 := by omega
              clear ho
              obtain ⟨W2, hW2⟩ : ∃ W2, W2 = wr.heap.size := ⟨_, rfl⟩
              go_wp2_with fail
              go_loopw [21, 20] (fun i out ws => ∃ (k : Nat) (outv : Value), k ≤ O.length ∧ i = .int .i64 ((k : Int) - 1) ∧ outv = out ∧ Ext wr ws ∧ Own ws W2 2 outv (trips (O.drop k).reverse)) (fun i _ _ => ((intOf i) + 1).toNat)
              case atStart => exact ⟨O.length, _, by omega, rfl, rfl, Ext.refl _, by rw [List.drop_length]; exact Own.nil _ _ _⟩
              case round =>
                rename World => ws
                obtain ⟨k, outv, hk2, rfl, rfl, hxs, hos⟩ := hrel
                by_cases hk1 : k = 0
                · subst hk1
                  rw [List.drop_zero] at hos
                  have hki : ((0 : Nat) : Int) - 1 = -1 := by omega
                  rw [hki]
                  clear hki
                  obtain ⟨vo, vcap, rfl, htv⟩ := hos.tripsIn
                  go_wp2_with fail
                  go_ret2
                  exact ⟨vo, vcap, O.reverse, 0, rfl, htv, .inr (.inr ⟨HG.out, HS.out, rfl, HFr.out⟩), (hxC.trans hx).trans hxs⟩
                · obtain ⟨q, rfl⟩ : ∃ q, k = q + 1 := ⟨k - 1, by omega⟩
                  have hlt : q < O.length := by omega
                  obtain ⟨ob, of_, hoo, hob, hs0, hs1⟩ := (hto.ext hxs) q hlt
                  subst hoo
                  have HJ : Hid ((O.drop q).reverse = (O.drop (q + 1)).reverse ++ [(tFst O q, tSnd O q)]) := Lib.hid (by
                    rw [List.drop_eq_getElem_cons hlt, List.reverse_cons]
                    simp [tFst, tSnd, List.getD_eq_getElem?_getD, hlt])
                  have hqi : ((q + 1 : Nat) : Int) - 1 = (q : Int) := by omega
                  rw [hqi]
                  clear hqi
                  have hss := hxs.size
                  have hdl : (O.drop (q + 1)).reverse.length ≤ 10001 := by rw [List.length_reverse, List.length_drop]; omega
                  go_wp2_with (at_builtin; refine wpList_append_Own _ rfl _ _ 49 rfl 54 i0 (.agg #[.int .i64 0, .int .i64 0]) 2 16 Try.underlying49 hi hz0 hz1 hz2 rfl (by omega) W2 _ _ rfl (Own.ext hos ((Ext.refl _).alloc _)) (by simp; omega) _ 1 1 [.int .i64 (tFst O q), .int .i64 (tSnd O q)] rfl rfl (two_cell _ _ _ _ _ rfl) (by simp [Value.oneCell']) (by rw [trips_length]; simp only [List.length_cons, List.length_nil]; unfold maxLen; omega) (by rw [trips_length]; simp only [List.length_cons, List.length_nil]; omega) ?_; intro v' w5 ho5 hg5 hb5)
                  rw [trips_snoc] at ho5
                  have hx5 : Ext wr w5 := (hxs.alloc _).onto hg5 (fun z hz => by have := (hos.lt z hz).1; omega)
                  exact ⟨⟨q, _, by omega, rfl, rfl, hx5, by rw [HJ.out]; exact ho5⟩, by simp only [intOf]; omega⟩
            · have hd1 : 0 ≤ d := by omega
              have hdb : d < b ∧ d ≤ 10000 ∧ (∃ i, i < L.length ∧ d = (leg L i).Dep) ∧ ∀ i, i < L.length → (leg L i).From = src → (leg L i).Dep < b → (leg L i).Dep ≤ d := by
                rcases HD.out with ⟨h, _⟩ | ⟨_, ⟨i, hi, h1, _, h3⟩, hm⟩
                · omega
                · unfold DepBelow at h1
                  have := HF.out i hi
                  unfold Fine at this
                  exact ⟨by omega, by omega, ⟨i, hi, h3⟩, fun j hj hfr hjb => hm j hj hjb hfr⟩
              obtain ⟨hdb1, hdb2, hdb3, hdb4⟩ := hdb
              have HEX := Lib.hid hdb3
              have HMX := Lib.hid hdb4
              clear hbnd hd0 hdb3 hdb4 HD
              have hdlt : decide (d < 0) = false := by simp; omega
              go_wp2_with fail
              refine (leaving_calls _ _ cap L src d (hLC.ext hx) (by omega)).mono ?_
              rintro e w6 ⟨g, off, fcap, F, rfl, hoF, hFl, hF, hx6⟩
              have HFB := Lib.hid hF
              clear hF
              have hx06 := hx.trans hx6
              go_wp2_with fail
              refine (can_calls w6 _ cap L c n g off fcap F (hLC.ext hx06) (by omega) hc HF.out hoF.boolsIn hFl).mono ?_
              rintro e w7 ⟨po, pcap, bs, rfl, hP, hbl, hbs, hx7⟩
              have HBS := Lib.hid hbs
              clear hbs
              have hx := hx06.trans hx7
              have ho := ho.ext (hx6.trans hx7)
              go_wp2_with fail
              go_loopw [19, 18] (fun i arr ws => ∃ (j : Nat) (a : Int), j ≤ L.length ∧ i = .int .i64 j ∧ arr = .int .i64 a ∧ Ext w7 ws ∧ Hid (ArrAt L dst (fun i => bth bs i = true) j a)) (fun i _ _ => L.length - (intOf i).toNat)
              case atStart => exact ⟨0, -1, by omega, rfl, rfl, Ext.refl _, Lib.hid (.inl ⟨rfl, fun i hi => by omega⟩)⟩
              case round =>
                obtain ⟨j, a, hj, rfl, rfl, hxs, HA⟩ := hrel
                by_cases hlt2 : j < L.length
                · have hxrs := hx.trans hxs
                  obtain ⟨b2, lo2, hao2, hbr, h0r, h1r, h2r, h3r, h4r⟩ := hLC.ext hxrs j hlt2
                  subst hao2
                  obtain ⟨rb, rf, rfl, hrb, hck⟩ := (hP.ext hxs) j (by omega)
                  have harr : 0 ≤ (leg L j).Arr := by
                    have := HF.out j hlt2
                    unfold Fine at this
                    omega
                  cases hd0 : bth bs j with
                  | false =>
                    rw [hd0] at hck
                    have HK := Lib.hid (HA.out.skip (by rw [hd0]; simp))
                    try clear hto
                    go_wp2_with fail
                    exact ⟨⟨j + 1, a, by omega, rfl, rfl, hxs, Lib.hid HK.out⟩, by simp only [intOf]; omega⟩
                  | true =>
                    rw [hd0] at hck
                    by_cases hto : (leg L j).To = dst
                    · have hto' : ((leg L j).To == dst) = true := by simp [hto]
                      by_cases ha : a = -1
                      · subst ha
                        have HK := Lib.hid (HA.out.take hd0 hto harr (.inl (by omega)))
                        try clear hto
                        go_wp2_with fail
                        exact ⟨⟨j + 1, (leg L j).Arr, by omega, rfl, rfl, hxs, Lib.hid HK.out⟩, by simp only [intOf]; omega⟩
                      · have h0 : 0 ≤ a := by
                          rcases HA.out.bound with h | h
                          · exact (ha h).elim
                          · exact h
                        have hd3 : decide (a < 0) = false := by simp; omega
                        cases hd2 : decide ((leg L j).Arr < a) with
                        | true =>
                          have HK := Lib.hid (HA.out.take hd0 hto harr (.inr (by simpa using hd2)))
                          try clear hto
                          go_wp2_with fail
                          exact ⟨⟨j + 1, (leg L j).Arr, by omega, rfl, rfl, hxs, Lib.hid HK.out⟩, by simp only [intOf]; omega⟩
                        | false =>
                          have HK := Lib.hid (HA.out.keep h0 (by simp at hd2; omega))
                          try clear hto
                          go_wp2_with fail
                          exact ⟨⟨j + 1, a, by omega, rfl, rfl, hxs, Lib.hid HK.out⟩, by simp only [intOf]; omega⟩
                    · have hto' : ((leg L j).To == dst) = false := by simp [hto]
                      have HK := Lib.hid (HA.out.skip (by simp [hto]))
                      try clear hto
                      go_wp2_with fail
                      exact ⟨⟨j + 1, a, by omega, rfl, rfl, hxs, Lib.hid HK.out⟩, by simp only [intOf]; omega⟩
                · obtain rfl : j = L.length := by omega
                  have hQ : Come c L dst (fun i => begB src d (leg L i)) a := HA.out.congr (fun i hi => (HBS.out i hi).trans ⟨fun h => come_mono h (fun k hk hb => by rw [← HFB.out k hk]; exact hb), fun h => come_mono h (fun k hk hb => by rw [HFB.out k hk]; exact hb)⟩)
                  have HQ := Lib.hid hQ
                  have hab := hQ.bound
                  clear hQ
                  have hxrs := hx.trans hxs
                  have ho3 := ho.ext hxs
                  have hWs := hxrs.size
                  obtain ⟨oo, ocap, rfl, hne⟩ := ho3.tripShape
                  by_cases ha : a = -1
                  · subst ha
                    go_wp2_with fail
                    exact ⟨⟨d, _, P, O, rfl, rfl, by omega, by omega, hxrs, ho3, by omega, Lib.hid ⟨HB.out.1.skip (by omega) HMX.out HQ.out, HB.out.2⟩⟩, by simp only [intOf]; omega⟩
                  · have h0 : 0 ≤ a := by omega
                    have hd3 : decide (0 ≤ a) = true := by simp; omega
                    have HDN : Hid (Down c L src dst d (P ++ [(d, a)])) := Lib.hid (HB.out.1.add (by omega) HMX.out HEX.out h0 HQ.out)
                    have HBELOW : Hid (∀ p ∈ P, d ≤ p.1 ∧ (d = p.1 → p.2 ≤ a)) := Lib.hid (fun p hp => by have := (HB.out.1.from_ p hp).2.1; exact ⟨by omega, fun h => by omega⟩)
                    by_cases hT0 : O = []
                    · have hl0 : O.length = 0 := by simp [hT0]
                      have HT0 := Lib.hid hT0
                      have hOz : ((O.length : Int) == 0) = true := by rw [hl0]; rfl
                      clear hT0 hne
                      go_wp2_with (at_builtin; refine wpList_append_Own _ rfl _ _ 49 rfl 54 i0 (.agg #[.int .i64 0, .int .i64 0]) 2 16 Try.underlying49 hi hz0 hz1 hz2 rfl (by omega) W _ _ rfl (Own.ext ho3 ((Ext.refl _).alloc _)) (by simp; omega) _ 1 1 [.int .i64 d, .int .i64 a] rfl rfl (two_cell _ _ _ _ _ rfl) (by simp [Value.oneCell']) (by simp [trips_length]; unfold maxLen; omega) (by simp [trips_length]; omega) ?_; intro v' w5 ho5 hg5 hb5)
                      rw [trips_snoc] at ho5
                      have hx5 : Ext wC w5 := (hxrs.alloc _).onto hg5 (fun q hq => by have := (ho3.lt q hq).1; omega)
                      exact ⟨⟨d, _, P ++ [(d, a)], O ++ [(d, a)], rfl, rfl, by omega, by omega, hx5, ho5, by simp; omega, Lib.hid ⟨HDN.out, (HB.out.2.add h0 HBELOW.out (.inl HT0.out))⟩⟩, by simp only [intOf]; omega⟩
                    · obtain ⟨og, oof, rfl, hogl, hoc⟩ := hne hT0
                      have hTp : 0 < O.length := List.length_pos_iff.2 hT0
                      have hOz : ((O.length : Int) == 0) = false := by simp only [beq_eq_false_iff_ne]; omega
                      have HT0 := Lib.hid hT0
                      clear hT0
                      cases hd2 : decide (a < lastArr O) with
                      | false =>
                        go_wp2_with fail
                        exact ⟨⟨d, _, P ++ [(d, a)], O, rfl, rfl, by omega, by omega, hxrs, ho3, by omega, Lib.hid ⟨HDN.out, HB.out.2.skip (fun p hp => (HBELOW.out p hp).1) HT0.out (by simpa using hd2)⟩⟩, by simp only [intOf]; omega⟩
                      | true =>
                        go_wp2_with (at_builtin; refine wpList_append_Own _ rfl _ _ 49 rfl 54 i0 (.agg #[.int .i64 0, .int .i64 0]) 2 16 Try.underlying49 hi hz0 hz1 hz2 rfl (by omega) W _ _ rfl (Own.ext ho3 ((Ext.refl _).alloc _)) (by simp; omega) _ 1 1 [.int .i64 d, .int .i64 a] rfl rfl (two_cell _ _ _ _ _ rfl) (by simp [Value.oneCell']) (by simp [trips_length]; unfold maxLen; omega) (by simp [trips_length]; omega) ?_; intro v' w5 ho5 hg5 hb5)
                        rw [trips_snoc] at ho5
                        have hx5 : Ext wC w5 := (hxrs.alloc _).onto hg5 (fun q hq => by have := (ho3.lt q hq).1; omega)
                        exact ⟨⟨d, _, P ++ [(d, a)], O ++ [(d, a)], rfl, rfl, by omega, by omega, hx5, ho5, by simp; omega, Lib.hid ⟨HDN.out, (HB.out.2.add h0 HBELOW.out (.inr (by simpa using hd2)))⟩⟩, by simp only [intOf]; omega⟩
end Go.Proofs.Ytmmjjfjbhogfgaa
