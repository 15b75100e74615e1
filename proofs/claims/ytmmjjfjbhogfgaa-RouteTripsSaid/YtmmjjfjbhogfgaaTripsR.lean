/- Trips of the specification; the law RouteTrips. -/
import Derived.Test.YtmmjjfjbhogfgaaArrB
import Derived.Test.YtmmjjfjbhogfgaaLawIs
import Derived.Test.YtmmjjfjbhogfgaaPairs
import Derived.Laws.StructEq
namespace Go.Proofs.Ytmmjjfjbhogfgaa
open Go.ChangeShapes Go.WideShapes Go.ChangeAt Go.RowKit
attribute [local go_sem] Leg.val run_store_fn

def RefTripsRes (w : World) (n : Int) (L : List Leg) (c src dst at_ : Int) (e : Ending) (w' : World) : Prop :=
  ∃ ao cap T er, e = .returned (.tuple #[.slice ao T.length cap, .int .i64 er]) ∧ TripsIn w' ao T ∧ TripsOf n L c src dst at_ T er ∧ Ext w w'

set_option maxRecDepth 100000 in
set_option maxHeartbeats 8000000 in
theorem refTrips_calls (w : World) (n : Int) (ao : Option Addr) (cap : Nat) (L : List Leg) (c src dst at_ : Int) (hL : LegsIn w ao L) (hlen : L.length ≤ 10000000) :
    Calls Try.prog 25 #[.int .i64 n, .slice ao L.length cap, .int .i64 c, .int .i64 src, .int .i64 dst, .int .i64 at_] w (RefTripsRes w n L c src dst at_) := by
  obtain ⟨i0, hi, hz0, hz1, hz2⟩ := info_parts info_trip
  go_enter Try.func25, Try.ntmps25
  go_wp2_with fail
  obtain ⟨hx4, hts⟩ := one_int' w 3 at_
  generalize w.alloc (Obj.cells #[Value.int IntKind.i64 at_] 3) = w4 at *
  refine (good_calls w4 n ao cap L c src dst _ 1 [at_] (hL.ext hx4) hlen hts (by simp)).mono ?_
  rintro e w5 ⟨rfl, hx5⟩
  have hxw5 := hx4.trans hx5
  cases hne : (goodE n L c src dst [at_] != 0) with
  | true =>
    have hg : goodE n L c src dst [at_] ≠ 0 := by simpa using hne
    have HG := Lib.hid hg
    clear hg
    go_wp2_with fail
    go_ret2
    exact ⟨none, 0, [], _, rfl, fun k hk => by simp at hk, .inl ⟨HG.out, rfl, rfl⟩, hxw5⟩
  | false =>
    have hg : goodE n L c src dst [at_] = 0 := by simpa using hne
    have HG := Lib.hid hg
    have hgood := good_iff.1 hg
    have hlen2 := hgood.len
    have hc : 0 ≤ c ∧ c ≤ 101 := by have := hgood.change; omega
    have HF := Lib.hid hgood.fine
    clear hg hgood
    cases hsd : (src == dst) with
    | true =>
      have hsd' : src = dst := by simpa using hsd
      have HS := Lib.hid hsd'
      clear hsd'
      go_wp2_with fail
      go_ret2
      refine ⟨_, _, [(0, at_)], _, rfl, fun k hk => ?_, .inr (.inl ⟨HG.out, HS.out, rfl, rfl⟩), hxw5.alloc _⟩
      obtain rfl : k = 0 := by simpa using hk
      exact ⟨w5.heap.size, 0, rfl, by simp, by simp [go_sem, tFst], by simp [go_sem, tSnd]⟩
    | false =>
      have hsd' : src ≠ dst := by simpa using hsd
      have HS := Lib.hid hsd'
      clear hsd'
      go_wp2_with fail
      refine (leaving_calls w5 ao cap L src at_ (hL.ext hxw5) (by omega)).mono ?_
      rintro e w6 ⟨g, off, fcap, F, rfl, hoF, hFl, hF, hx6⟩
      have HFB := Lib.hid hF
      clear hF
      go_wp2_with fail
      refine (arrivals_calls w5 w6 ao cap L c n g off fcap F (hL.ext hxw5) (by omega) hc HF.out hx6 hoF hFl).mono ?_
      rintro e wC ⟨po, pcap, bs, rfl, hP, hbl, hbs, hxC5⟩
      have hxC := hxw5.trans hxC5
      have HBS := Lib.hid hbs
      clear hbs
      have hLC := hL.ext hxC
      obtain ⟨W, hW⟩ : ∃ W, W = wC.heap.size := ⟨_, rfl⟩
      go_wp2_with fail
      go_loopw [17, 16] (fun i out wr => ∃ (k : Nat) (T : List (Int × Int)), k ≤ L.length + 1 ∧ i = .int .i64 k ∧ Ext wC wr ∧ Own wr W 2 out (trips T) ∧ T.length ≤ k ∧ Hid (Rec (fun k a => ArrAt L dst (Exact L.length (folL c L) (wtL L) (bth F) k) L.length a) k T)) (fun i _ _ => L.length + 1 - (intOf i).toNat)
      case atStart => exact ⟨0, [], by omega, rfl, Ext.refl _, Own.nil _ _ _, by simp, Lib.hid .zero⟩
      case round =>
        obtain ⟨k, T, hk, rfl, hx, ho2, hTl, HR⟩ := hrel
        have hxWr := hx.size
        by_cases hlt : k < L.length + 1
        · have hkb : k < bs.length := by omega
          go_wp2_with fail
          go_loopw [19, 18] (fun i arr ws => ∃ (j : Nat) (a : Int), j ≤ L.length ∧ i = .int .i64 j ∧ arr = .int .i64 a ∧ Ext wr ws ∧ Hid (ArrAt L dst (fun i => bth (bs.getD k []) i = true) j a)) (fun i _ _ => L.length - (intOf i).toNat)
          case atStart => exact ⟨0, -1, by omega, rfl, rfl, Ext.refl _, Lib.hid (.inl ⟨rfl, fun i hi => by omega⟩)⟩
          case round =>
            obtain ⟨j, a, hj, rfl, rfl, hxs, HA⟩ := hrel
            by_cases hlt2 : j < L.length
            · have hxrs := hx.trans hxs
              obtain ⟨b2, lo2, hao2, hbr, h0r, h1r, h2r, h3r, h4r⟩ := hLC.ext hxrs j hlt2
              subst hao2
              obtain ⟨pb, pf, rb, rf, rc, hpo, hpb, hpc, hrb, hrl, hrin⟩ := (hP.ext hxrs) k hkb
              subst hpo
              obtain ⟨rb', rf', hro, _, hck⟩ := hrin j (by omega)
              simp only [Option.some.injEq, Addr.mk.injEq, and_true] at hro
              obtain ⟨rfl, rfl⟩ := hro
              have harr : 0 ≤ (leg L j).Arr := by
                have := HF.out j hlt2
                unfold Fine at this
                omega
              cases hd0 : bth (bs.getD k []) j with
              | false =>
                rw [hd0] at hck
                have HK := Lib.hid (HA.out.skip (by rw [hd0]; simp))
                try clear hto
                go_wp2_with fail
                exact ⟨⟨j + 1, a, by omega, rfl, rfl, hxs, Lib.hid HK.out⟩, by simp only [intOf]; omega⟩
              | true =>
                rw [hd0] at hck
                by_cases hto : (leg L j).To = dst
                · have hto' : ((leg L j).To == dst) = true := by simp [hto]
                  by_cases ha : a = -1
                  · subst ha
                    have HK := Lib.hid (HA.out.take hd0 hto harr (.inl (by omega)))
                    try clear hto
                    go_wp2_with fail
                    exact ⟨⟨j + 1, (leg L j).Arr, by omega, rfl, rfl, hxs, Lib.hid HK.out⟩, by simp only [intOf]; omega⟩
                  · have h0 : 0 ≤ a := by
                      rcases HA.out.bound with h | h
                      · exact (ha h).elim
                      · exact h
                    have hd3 : decide (a < 0) = false := by simp; omega
                    cases hd2 : decide ((leg L j).Arr < a) with
                    | true =>
                      have HK := Lib.hid (HA.out.take hd0 hto harr (.inr (by simpa using hd2)))
                      try clear hto
                      go_wp2_with fail
                      exact ⟨⟨j + 1, (leg L j).Arr, by omega, rfl, rfl, hxs, Lib.hid HK.out⟩, by simp only [intOf]; omega⟩
                    | false =>
                      have HK := Lib.hid (HA.out.keep h0 (by simp at hd2; omega))
                      try clear hto
                      go_wp2_with fail
                      exact ⟨⟨j + 1, a, by omega, rfl, rfl, hxs, Lib.hid HK.out⟩, by simp only [intOf]; omega⟩
                · have hto' : ((leg L j).To == dst) = false := by simp [hto]
                  have HK := Lib.hid (HA.out.skip (by simp [hto]))
                  try clear hto
                  go_wp2_with fail
                  exact ⟨⟨j + 1, a, by omega, rfl, rfl, hxs, Lib.hid HK.out⟩, by simp only [intOf]; omega⟩
            · obtain rfl : j = L.length := by omega
              have hQ : ArrAt L dst (Exact L.length (folL c L) (wtL L) (bth F) k) L.length a := HA.out.congr (fun i hi => (HBS.out k hlt).2 i hi)
              have HQ := Lib.hid hQ
              have hab := hQ.bound
              clear hQ
              have hxrs := hx.trans hxs
              have ho3 := ho2.ext hxs
              have hWs := hxrs.size
              obtain ⟨oo, ocap, rfl, hne⟩ := ho3.tripShape
              by_cases ha : a = -1
              · subst ha
                go_wp2_with fail
                exact ⟨⟨k + 1, T, by omega, rfl, hxrs, ho3, by omega, Lib.hid (.skip HR.out HQ.out (.inl (by omega)))⟩, by simp only [intOf]; omega⟩
              · have h0 : 0 ≤ a := by omega
                have hd3 : decide (0 ≤ a) = true := by simp; omega
                by_cases hT0 : T = []
                · have hl0 : T.length = 0 := by simp [hT0]
                  have HT0 := Lib.hid hT0
                  clear hT0 hne
                  go_wp2_with (at_builtin; refine wpList_append_Own _ rfl _ _ 32 rfl 36 i0 (.agg #[.int .i64 0, .int .i64 0]) 2 16 Try.underlying32 hi hz0 hz1 hz2 rfl (by omega) W _ _ rfl (Own.ext ho3 ((Ext.refl _).alloc _)) (by simp; omega) _ 1 1 [.int .i64 (k : Int), .int .i64 a] rfl rfl (two_cell _ _ _ _ _ rfl) (by simp [Value.oneCell']) (by simp [trips_length]; unfold maxLen; omega) (by simp [trips_length]; omega) ?_; intro v' w5 ho5 hg5 hb5)
                  rw [trips_snoc] at ho5
                  have hx5 : Ext wC w5 := (hxrs.alloc _).onto hg5 (fun q hq => by have := (ho3.lt q hq).1; omega)
                  exact ⟨⟨k + 1, _, by omega, rfl, hx5, ho5, by simp; omega, Lib.hid (.add HR.out HQ.out h0 (.inl HT0.out))⟩, by simp only [intOf]; omega⟩
                · obtain ⟨og, oof, rfl, hogl, hoc⟩ := hne hT0
                  have hTp : 0 < T.length := List.length_pos_iff.2 hT0
                  cases hd2 : decide (a < lastArr T) with
                  | false =>
                    go_wp2_with fail
                    exact ⟨⟨k + 1, T, by omega, rfl, hxrs, ho3, by omega, Lib.hid (.skip HR.out HQ.out (.inr ⟨hT0, by simpa using hd2⟩))⟩, by simp only [intOf]; omega⟩
                  | true =>
                    go_wp2_with (at_builtin; refine wpList_append_Own _ rfl _ _ 32 rfl 36 i0 (.agg #[.int .i64 0, .int .i64 0]) 2 16 Try.underlying32 hi hz0 hz1 hz2 rfl (by omega) W _ _ rfl (Own.ext ho3 ((Ext.refl _).alloc _)) (by simp; omega) _ 1 1 [.int .i64 (k : Int), .int .i64 a] rfl rfl (two_cell _ _ _ _ _ rfl) (by simp [Value.oneCell']) (by simp [trips_length]; unfold maxLen; omega) (by simp [trips_length]; omega) ?_; intro v' w5 ho5 hg5 hb5)
                    rw [trips_snoc] at ho5
                    have hx5 : Ext wC w5 := (hxrs.alloc _).onto hg5 (fun q hq => by have := (ho3.lt q hq).1; omega)
                    exact ⟨⟨k + 1, _, by omega, rfl, hx5, ho5, by simp; omega, Lib.hid (.add HR.out HQ.out h0 (.inr (by simpa using hd2)))⟩, by simp only [intOf]; omega⟩
        · obtain rfl : k = L.length + 1 := by omega
          have hrec := rec_last hc.1 HF.out HR.out
          have hrec2 : Rec (fun k a => ArrAt L dst (Within c L (fun i => begB src at_ (leg L i)) k) L.length a) L.length T := by
            refine hrec.mono (fun k a h => h.congr (fun i _ => ?_))
            constructor
            · rintro ⟨y, hy, hs⟩; exact ⟨y, hy.mono (fun q hq h => by rw [← HFB.out q hq]; exact h) (fun _ _ h => h), hs⟩
            · rintro ⟨y, hy, hs⟩; exact ⟨y, hy.mono (fun q hq h => by rw [HFB.out q hq]; exact h) (fun _ _ h => h), hs⟩
          have HRR := Lib.hid hrec2
          clear hrec hrec2
          obtain ⟨oo, ocap, rfl, hti⟩ := ho2.tripsIn
          by_cases hT0 : T = []
          · subst hT0
            go_wp2_with fail
            go_ret2
            exact ⟨none, 0, [], 10, rfl, fun k hk => by simp at hk, .inr (.inr ⟨HG.out, HS.out, HRR.out, by simp⟩), hxC.trans hx⟩
          · have hTp : 0 < T.length := List.length_pos_iff.2 hT0
            have HT0 := Lib.hid hT0
            have hTn : ((T.length : Int) == 0) = false := by simp only [beq_eq_false_iff_ne]; omega
            clear hT0
            go_wp2_with fail
            go_ret2
            exact ⟨oo, ocap, T, 0, rfl, hti, .inr (.inr ⟨HG.out, HS.out, HRR.out, by rw [if_neg HT0.out]⟩), hxC.trans hx⟩
end Go.Proofs.Ytmmjjfjbhogfgaa
