/- Earliest and Latest of the specification. -/
import Derived.Test.YtmmjjfjbhogfgaaRefE
namespace Go.Proofs.Ytmmjjfjbhogfgaa
open Go.RowKit
attribute [local go_sem] Leg.val run_store_fn

theorem JK.congr {m : Nat} {fol : Nat → Nat → Bool} {first first' : Nat → Bool} (h : ∀ i, i < m → first i = first' i) {k i : Nat} {x : List Nat} : JK m fol first k i x ↔ JK m fol first' k i x := by
  constructor
  · rintro ⟨h1, h2⟩
    exact ⟨h1.mono (fun i hi hf => by rw [← h i hi]; exact hf) (fun _ _ h => h), h2⟩
  · rintro ⟨h1, h2⟩
    exact ⟨h1.mono (fun i hi hf => by rw [h i hi]; exact hf) (fun _ _ h => h), h2⟩
theorem AllOf.congr {m : Nat} {fol : Nat → Nat → Bool} {first first' : Nat → Bool} {ps : List (List (Option (List Nat)))} (h : AllOf m fol first ps) (hf : ∀ i, i < m → first i = first' i) : AllOf m fol first' ps :=
  ⟨fun k hk => ⟨(h.row k hk).1, fun i hi => ((h.row k hk).2 i hi).congr (fun _ => JK.congr hf)⟩, fun k i x hi hx => h.short k i x hi ((JK.congr hf).2 hx), h.len⟩

theorem best_early {n c : Int} {L : List Leg} {first : Nat → Bool} {ps : List (List (Option (List Nat)))} {dst arr : Int} {o : Option (List Nat)} (hf : ∀ k, k < L.length → Fine n (leg L k)) (hA : AllOf L.length (folL c L) first ps)
    (h : BestSt L (Cand L.length (folL c L) first (fun i => lastB dst 10000 (leg L i)) ps.length 0) o arr) :
    (o = none → ArrAt L dst (ComeTo c L first) L.length (-1)) ∧ ∀ x, o = some x → 0 ≤ arr ∧ arr = (leg L (lastN x)).Arr ∧ lastN x < L.length ∧ x ≠ [] ∧ ArrAt L dst (ComeTo c L first) L.length arr ∧ Least L.length (folL c L) first (fun i => endB dst arr (leg L i)) x := by
  have hcand : ∀ k i y, i < L.length → JK L.length (folL c L) first k i y → (leg L i).To = dst → Cand L.length (folL c L) first (fun i => lastB dst 10000 (leg L i)) ps.length 0 y := by
    intro k i y hi hy ht
    refine ⟨k, i, .inl (hA.short k i y hi hy), hi, hy, ?_⟩
    have := hf i hi
    unfold Fine at this
    simp [lastB, ht]
    omega
  have hjk : ∀ i y, Jn L.length (folL c L) first (fun k => k == i) y → JK L.length (folL c L) first (y.length - 1) i y := by
    intro i y hy
    have hp : 0 < y.length := List.length_pos_iff.2 (jn_iff.1 hy).1
    exact ⟨hy, by omega⟩
  refine ⟨fun ho => ?_, fun x ho => ?_⟩
  · subst ho
    rcases h with ⟨_, h⟩ | ⟨x, h1, _⟩
    · exact .inl ⟨rfl, fun i hi ⟨⟨y, hy⟩, ht⟩ => h y (hcand _ i y hi (hjk i y hy) ht)⟩
    · cases h1
  · subst ho
    rcases h with ⟨h1, _⟩ | ⟨z, h1, h2, h3, h4⟩
    · cases h1
    · cases h1
      obtain ⟨k', i', _, g2, g3, g4⟩ := h2
      have hl := jk_last g3
      have g4' : (leg L i').To = dst ∧ (leg L i').Arr ≤ 10000 := by simpa [lastB] using g4
      have hfi := hf i' g2
      unfold Fine at hfi
      rw [hl] at h3
      have h0 : 0 ≤ arr := by omega
      refine ⟨h0, by rw [hl]; exact h3, by rw [hl]; exact g2, by rintro rfl; have := g3.2; simp at this, .inr ⟨h0, ⟨i', g2, ⟨x, g3.1⟩, g4'.1, h3⟩, ?_⟩, g3.1.of_end (by simp [endB, g4'.1, h3]), ?_⟩
      · rintro i hi ⟨y, hy⟩ ht
        have h5 := h4 y (hcand _ i y hi (hjk i y hy) ht)
        rw [jk_last (hjk i y hy)] at h5
        omega
      · intro y hy
        obtain ⟨k, i, q1, q2, q3, q4⟩ := jn_jk hy
        have q2' : (leg L i).To = dst ∧ (leg L i).Arr = arr := by simpa [endB] using q2
        have h5 := h4 y (hcand k i y q1 q3 q2'.1)
        rw [jk_last q3] at h5
        rcases h5 with h5 | ⟨_, h5⟩
        · omega
        · exact h5

def RefEarlyRes (w : World) (n : Int) (L : List Leg) (c src dst at_ : Int) (e : Ending) (w' : World) : Prop :=
  ∃ a ao cap xs er, e = .returned (.tuple #[.int .i64 a, .slice ao xs.length cap, .int .i64 er]) ∧ IntsIn w' ao (nats xs) ∧ EarlyOf n L c src dst at_ a xs er ∧ Ext w w'
def RefLateRes (w : World) (n : Int) (L : List Leg) (c src dst by_ : Int) (e : Ending) (w' : World) : Prop :=
  ∃ a ao cap xs er, e = .returned (.tuple #[.int .i64 a, .slice ao xs.length cap, .int .i64 er]) ∧ IntsIn w' ao (nats xs) ∧ LateOf n L c src dst by_ a xs er ∧ Ext w w'
theorem IntsIn.none (w : World) : IntsIn w none (nats []) := fun k hk => by simp [nats] at hk

set_option maxRecDepth 100000 in
set_option maxHeartbeats 4000000 in
theorem refEarliest_calls (w : World) (n : Int) (ao : Option Addr) (cap : Nat) (L : List Leg) (c src dst at_ : Int) (hL : LegsIn w ao L) (hlen : L.length ≤ 10000000) :
    Calls Try.prog 20 #[.int .i64 n, .slice ao L.length cap, .int .i64 c, .int .i64 src, .int .i64 dst, .int .i64 at_] w (RefEarlyRes w n L c src dst at_) := by
  have hrun := fun (w : World) (a : Option Addr) (n c : Nat) => Lib.run_eql_slice_nil (P := Try.prog) w 25 3 a n c 0 0 Try.underlying25
  go_enter Try.func20, Try.ntmps20
  go_wp2_with fail
  obtain ⟨hx4, hts⟩ := one_int' w 3 at_
  generalize w.alloc (Obj.cells #[Value.int IntKind.i64 at_] 3) = w4 at *
  refine (good_calls w4 n ao cap L c src dst _ 1 [at_] (hL.ext hx4) hlen hts (by simp)).mono ?_
  rintro e w5 ⟨rfl, hx5⟩
  have hxw5 := hx4.trans hx5
  cases hne : (goodE n L c src dst [at_] != 0) with
  | true =>
    have hg : goodE n L c src dst [at_] ≠ 0 := by simpa using hne
    have HG := Lib.hid hg
    clear hg
    go_wp2_with fail
    go_ret3
    exact ⟨0, none, 0, [], _, rfl, IntsIn.none _, .inl ⟨HG.out, rfl, rfl, rfl⟩, hxw5⟩
  | false =>
    have hg : goodE n L c src dst [at_] = 0 := by simpa using hne
    have HG := Lib.hid hg
    have hgood := good_iff.1 hg
    have hlen2 := hgood.len
    have hc : 0 ≤ c ∧ c ≤ 101 := by have := hgood.change; omega
    have HF := Lib.hid hgood.fine
    clear hg hgood
    cases hsd : (src == dst) with
    | true =>
      have hsd' : src = dst := by simpa using hsd
      have HS := Lib.hid hsd'
      clear hsd'
      go_wp2_with fail
      go_ret3
      exact ⟨at_, none, 0, [], _, rfl, IntsIn.none _, .inr (.inl ⟨HG.out, HS.out, rfl, rfl, rfl⟩), hxw5⟩
    | false =>
      have hsd' : src ≠ dst := by simpa using hsd
      have HS := Lib.hid hsd'
      clear hsd'
      go_wp2_with fail
      refine (leaving_calls w5 ao cap L src at_ (hL.ext hxw5) (by omega)).mono ?_
      rintro e w6 ⟨g, off, fcap, F, rfl, hoF, hFl, hF, hx6⟩
      have hxw6 := hxw5.trans hx6
      have HFB := Lib.hid hF
      clear hF
      go_wp2_with fail
      refine (journeys_calls w6 ao cap L c n _ fcap F (hL.ext hxw6) (by omega) hc HF.out hoF.boolsIn hFl).mono ?_
      rintro e w7 ⟨po, pcap, ps, rfl, hP, hA, hx7⟩
      have hxw7 := hxw6.trans hx7
      have HA := Lib.hid (hA.congr HFB.out)
      clear hA
      go_wp2_with fail
      refine (best_calls w7 ao cap L po pcap ps _ _ dst 10000 (hL.ext hxw7) (by omega) hP HA.out).mono ?_
      rintro e w8 ⟨v, o, rfl, hrow, ⟨arr, hB⟩, hx8⟩
      have hxw8 := hxw7.trans hx8
      obtain ⟨hb1, hb2⟩ := best_early HF.out HA.out hB
      have HB1 := Lib.hid hb1
      have HB2 := Lib.hid hb2
      clear hb1 hb2 hB
      rcases hrow with ⟨rfl, rfl⟩ | ⟨x, xb, xf, xcap, rfl, hxne, rfl, hxb, -, hxi⟩
      · go_wp2_with fail
        go_ret3
        exact ⟨0, none, 0, [], _, rfl, IntsIn.none _, .inr (.inr (.inl ⟨HG.out, HS.out, rfl, rfl, rfl, (by first | exact HB1.out rfl | exact HB1.out trivial)⟩)), hxw8⟩
      · obtain ⟨q0, q1, q2, q3, q4, q5⟩ := HB2.out x rfl
        have hxp : 0 < x.length := List.length_pos_iff.2 q3
        have Q4 := Lib.hid (And.intro q4 q5)
        have hxl := jn_short hc.1 HF.out q5.1
        obtain ⟨xb', xf', hxo, _, hxc⟩ := hxi (x.length - 1) (by rw [nats_length]; omega)
        simp only [Option.some.injEq, Addr.mk.injEq, and_true] at hxo
        obtain ⟨rfl, rfl⟩ := hxo
        rw [ith_nats] at hxc
        have hq : x.getD (x.length - 1) 0 = lastN x := rfl
        rw [hq] at hxc
        have Q1 := Lib.hid q1
        clear q1 q4 q5 hq q3
        generalize hlx : lastN x = lx at *
        obtain ⟨lb, lf, hao, hlb, h0, h1, h2, h3, h4⟩ := hL.ext hxw8 lx q2
        subst hao
        have Hlx := Lib.hid hlx
        clear hlx hxne
        go_wp2_with fail
        go_ret3
        refine ⟨(leg L lx).Arr, _, xcap, x, 0, rfl, hxi, .inr (.inr (.inr ⟨HG.out, HS.out, rfl, ?_⟩)), hxw8⟩
        rw [← Q1.out]
        exact ⟨q0, Q4.out.1, Q4.out.2⟩

def DepBelow (L : List Leg) (b : Int) (i : Nat) : Prop := (leg L i).Dep < b
set_option maxRecDepth 100000 in
set_option maxHeartbeats 8000000 in
theorem refLatest_calls (w : World) (n : Int) (ao : Option Addr) (cap : Nat) (L : List Leg) (c src dst by_ : Int) (hL : LegsIn w ao L) (hlen : L.length ≤ 10000000) :
    Calls Try.prog 30 #[.int .i64 n, .slice ao L.length cap, .int .i64 c, .int .i64 src, .int .i64 dst, .int .i64 by_] w (RefLateRes w n L c src dst by_) := by
  have hrun := fun (w : World) (a : Option Addr) (n c : Nat) => run_neq_slice_nil_any (P := Try.prog) w 25 3 a n c 0 0 Try.underlying25
  obtain ⟨i0, hi, hz0, hz1, hz2⟩ := info_parts info_bool
  go_enter Try.func30, Try.ntmps30
  go_wp2_with fail
  obtain ⟨hx4, hts⟩ := one_int' w 3 by_
  generalize w.alloc (Obj.cells #[Value.int IntKind.i64 by_] 3) = w4 at *
  refine (good_calls w4 n ao cap L c src dst _ 1 [by_] (hL.ext hx4) hlen hts (by simp)).mono ?_
  rintro e w5 ⟨rfl, hx5⟩
  have hxw5 := hx4.trans hx5
  cases hne : (goodE n L c src dst [by_] != 0) with
  | true =>
    have hg : goodE n L c src dst [by_] ≠ 0 := by simpa using hne
    have HG := Lib.hid hg
    clear hg
    go_wp2_with fail
    go_ret3
    exact ⟨0, none, 0, [], _, rfl, IntsIn.none _, .inl ⟨HG.out, rfl, rfl, rfl⟩, hxw5⟩
  | false =>
    have hg : goodE n L c src dst [by_] = 0 := by simpa using hne
    have HG := Lib.hid hg
    have hgood := good_iff.1 hg
    have hlen2 := hgood.len
    have hc : 0 ≤ c ∧ c ≤ 101 := by have := hgood.change; omega
    have HF := Lib.hid hgood.fine
    clear hg hgood
    cases hsd : (src == dst) with
    | true =>
      have hsd' : src = dst := by simpa using hsd
      have HS := Lib.hid hsd'
      clear hsd'
      go_wp2_with fail
      go_ret3
      exact ⟨by_, none, 0, [], _, rfl, IntsIn.none _, .inr (.inl ⟨HG.out, HS.out, rfl, rfl, rfl⟩), hxw5⟩
    | false =>
      have hsd' : src ≠ dst := by simpa using hsd
      have HS := Lib.hid hsd'
      clear hsd'
      go_wp2_with fail
      go_loopw [16] (fun below wr => ∃ b : Int, below = .int .i64 b ∧ 0 ≤ b ∧ b ≤ 10001 ∧ Ext w wr ∧ Hid (∀ i, i < L.length → (leg L i).From = src → b ≤ (leg L i).Dep → ¬ GoesTo c L (fun i => lastB dst by_ (leg L i)) i)) (fun below _ => (intOf below).toNat)
      case atStart =>
        refine ⟨10001, rfl, by omega, by omega, hxw5, Lib.hid (fun i hi _ h => ?_)⟩
        have := HF.out i hi
        unfold Fine at this
        omega
      case round =>
        obtain ⟨b, rfl, hb0, hb1, hx, HB⟩ := hrel
        go_wp2_with fail
        go_loopw [18, 17] (fun ii dv ws => ∃ (i : Nat) (d : Int), i ≤ L.length ∧ ii = .int .i64 i ∧ dv = .int .i64 d ∧ Ext w ws ∧ Hid (DepAt L src (DepBelow L b) i d)) (fun ii _ _ => L.length - (intOf ii).toNat)
        case atStart => exact ⟨0, -1, by omega, rfl, rfl, hx, Lib.hid (.inl ⟨rfl, fun i hi => by omega⟩)⟩
        case round =>
          clear hx
          obtain ⟨i, d, hi2, rfl, rfl, hx, HD⟩ := hrel
          by_cases hlt : i < L.length
          · obtain ⟨lb, lf, hao, hlb, h0, h1, h2, h3, h4⟩ := hL.ext hx i hlt
            subst hao
            have hdep : 0 ≤ (leg L i).Dep := by have := HF.out i hlt; unfold Fine at this; omega
            cases hd : ((leg L i).From == src) with
            | false =>
              have HK := Lib.hid (HD.out.skip (fun h => by simp [h.2] at hd))
              go_wp2_with fail
              exact ⟨⟨i + 1, d, by omega, rfl, rfl, hx, Lib.hid HK.out⟩, by simp only [intOf]; omega⟩
            | true =>
              cases hd2 : decide ((leg L i).Dep < b) with
              | false =>
                have HK := Lib.hid (HD.out.skip (fun h => by have := h.1; unfold DepBelow at this; simp at hd2; omega))
                go_wp2_with fail
                exact ⟨⟨i + 1, d, by omega, rfl, rfl, hx, Lib.hid HK.out⟩, by simp only [intOf]; omega⟩
              | true =>
                have HK : Hid (DepAt L src (DepBelow L b) (i + 1) (if d < (leg L i).Dep then (leg L i).Dep else d)) := Lib.hid (by
                  split
                  · rename_i h
                    exact HD.out.take (by simpa [DepBelow] using hd2) (by simpa using hd) hdep h
                  · rename_i h
                    exact HD.out.keep hdep (by omega))
                go_wp2_with fail
                exact ⟨⟨i + 1, _, by omega, rfl, rfl, hx, Lib.hid HK.out⟩, by simp only [intOf]; omega⟩
          · obtain rfl : i = L.length := by omega
            have hbnd := HD.out.bound
            by_cases hd0 : d = -1
            · subst hd0
              go_wp2_with fail
              go_ret3
              refine ⟨0, none, 0, [], _, rfl, IntsIn.none _, .inr (.inr (.inl ⟨HG.out, HS.out, rfl, rfl, rfl, .inl ⟨rfl, fun i hi => ?_⟩⟩)), hx⟩
              rintro ⟨h1, h2⟩
              rcases HD.out with ⟨_, hD⟩ | ⟨hD, _⟩
              · by_cases e : (leg L i).Dep < b
                · exact hD i hi ⟨e, h2⟩
                · exact HB.out i hi h2 (by omega) h1
              · omega
            · have hd1 : 0 ≤ d := by omega
              have hdb : d < b ∧ d ≤ 10000 := by
                rcases HD.out with ⟨h, _⟩ | ⟨_, ⟨i, hi, h1, _, h3⟩, _⟩
                · omega
                · unfold DepBelow at h1
                  have := HF.out i hi
                  unfold Fine at this
                  omega
              clear hbnd hd0
              go_wp2_with (at_make; refine wpList_make_Own _ rfl _ _ 65 rfl 4 i0 (.bool false) Try.underlying65 hi hz0 hz1 rfl _ _ L.length rfl rfl rfl rfl (by rw [hz2]; omega) (by unfold maxLen; omega) ?_; intro g off cap1 w6 ho1 hx6)
              go_loopw [20] (fun ii ws => ∃ (k : Nat) (xs : List Bool), k ≤ L.length ∧ ii = .int .i64 k ∧ Ext w ws ∧ Own ws w.heap.size 1 (.slice (some ⟨g, off, none⟩) L.length cap1) (bools xs) ∧ Hid (xs.length = L.length ∧ ∀ j, j < k → j < L.length → bth xs j = depB src d (leg L j))) (fun ii _ => L.length - (intOf ii).toNat)
              case atStart => exact ⟨0, List.replicate L.length false, by omega, rfl, hx.trans hx6, by have := ho1.rebase hx.size; simpa [bools] using this, Lib.hid ⟨by simp, fun j hj => by omega⟩⟩
              case round =>
                clear hx
                obtain ⟨k, xs, hk, rfl, hx, ho, HX⟩ := hrel
                by_cases hlt2 : k < L.length
                · obtain ⟨lb, lf, hao, hlb, h0, h1, h2, h3, h4⟩ := hL.ext hx k hlt2
                  subst hao
                  have hX := HX.out.1
                  obtain ⟨hc31, hc32⟩ := ho.boolAt k (by omega)
                  have hg3 := ho.lt g rfl
                  clear hX
                  cases hd : ((leg L k).From == src) with
                  | false =>
                    have HD_ := Lib.hid hd
                    have HD2_ := Lib.hid hd
                    go_wp2_with fail
                    refine ⟨⟨k + 1, xs.set k false, by omega, rfl, hx.setOwn _ _ hg3.1, ho.setBool k (by have := HX.out.1; omega) false, Lib.hid ⟨by simpa using HX.out.1, fun j hj hj2 => ?_⟩⟩, by simp only [intOf]; omega⟩
                    rw [bth_set _ _ _ _ (by have := HX.out.1; omega)]
                    by_cases e : j = k
                    · subst e
                      rw [if_pos rfl]
                      have h1 := HD_.out
                      have h2 := HD2_.out
                      simp at h1 h2
                      simp [depB, h1]
                      try omega
                    · rw [if_neg e]
                      exact HX.out.2 j (by omega) hj2
                  | true =>
                    cases hd2 : ((leg L k).Dep == d) with
                    | false =>
                      have HD_ := Lib.hid hd
                      have HD2_ := Lib.hid hd2
                      go_wp2_with fail
                      refine ⟨⟨k + 1, xs.set k false, by omega, rfl, hx.setOwn _ _ hg3.1, ho.setBool k (by have := HX.out.1; omega) false, Lib.hid ⟨by simpa using HX.out.1, fun j hj hj2 => ?_⟩⟩, by simp only [intOf]; omega⟩
                      rw [bth_set _ _ _ _ (by have := HX.out.1; omega)]
                      by_cases e : j = k
                      · subst e
                        rw [if_pos rfl]
                        have h1 := HD_.out
                        have h2 := HD2_.out
                        simp at h1 h2
                        simp [depB, h1]
                        try omega
                      · rw [if_neg e]
                        exact HX.out.2 j (by omega) hj2
                    | true =>
                      have HD_ := Lib.hid hd
                      have HD2_ := Lib.hid hd2
                      go_wp2_with fail
                      refine ⟨⟨k + 1, xs.set k true, by omega, rfl, hx.setOwn _ _ hg3.1, ho.setBool k (by have := HX.out.1; omega) true, Lib.hid ⟨by simpa using HX.out.1, fun j hj hj2 => ?_⟩⟩, by simp only [intOf]; omega⟩
                      rw [bth_set _ _ _ _ (by have := HX.out.1; omega)]
                      by_cases e : j = k
                      · subst e
                        rw [if_pos rfl]
                        have h1 := HD_.out
                        have h2 := HD2_.out
                        simp at h1 h2
                        simp [depB, h1]
                        try omega
                      · rw [if_neg e]
                        exact HX.out.2 j (by omega) hj2
                · obtain rfl : k = L.length := by omega
                  have hFB : Hid (∀ i, i < L.length → bth xs i = depB src d (leg L i)) := Lib.hid (fun j hj => HX.out.2 j hj hj)
                  go_wp2_with fail
                  refine (journeys_calls _ ao cap L c n _ cap1 xs (hL.ext hx) (by omega) hc HF.out ho.boolsIn HX.out.1).mono ?_
                  rintro e w7 ⟨po, pcap, ps, rfl, hP, hA, hx7⟩
                  have hxw7 := hx.trans hx7
                  have HA := Lib.hid (hA.congr hFB.out)
                  clear hA
                  go_wp2_with fail
                  refine (fewest_calls w7 ao cap L po pcap ps _ _ dst by_ (hL.ext hxw7) (by omega) hP HA.out).mono ?_
                  rintro e w8 ⟨v, o, rfl, hrow, hB, hx8⟩
                  have hxw8 := hxw7.trans hx8
                  have HP := Lib.hid hB
                  clear hB
                  rcases hrow with ⟨rfl, rfl⟩ | ⟨x, xb, xf, xcap, rfl, hxne, rfl, hxb, -, hxi⟩
                  · have HN : Hid (∀ y, ¬ Jn L.length (folL c L) (fun i => depB src d (leg L i)) (fun i => lastB dst by_ (leg L i)) y) := Lib.hid (by
                      rcases HP.out with ⟨_, h⟩ | ⟨x, h, _⟩
                      · exact h
                      · cases h)
                    clear HP
                    go_wp2_with fail
                    refine ⟨⟨d, rfl, hd1, by omega, hxw8, Lib.hid (fun i hi hfr hle hgo => ?_)⟩, by simp only [intOf]; omega⟩
                    by_cases e : b ≤ (leg L i).Dep
                    · exact HB.out i hi hfr e hgo
                    · have hde : (leg L i).Dep = d := by
                        rcases HD.out with ⟨h, _⟩ | ⟨_, _, hm⟩
                        · omega
                        · have := hm i hi (by unfold DepBelow; omega) hfr
                          omega
                      obtain ⟨y, hy⟩ := hgo
                      exact HN.out (i :: y) ⟨i, y, rfl, by simp [depB, hfr, hde], hy⟩
                  · have HLs : Hid (Least L.length (folL c L) (fun i => depB src d (leg L i)) (fun i => lastB dst by_ (leg L i)) x) := Lib.hid (by
                      rcases HP.out with ⟨h, _⟩ | ⟨x', h, h2⟩
                      · cases h
                      · cases h; exact h2)
                    clear HP hxne
                    go_wp2_with fail
                    go_ret3
                    refine ⟨d, _, xcap, x, 0, rfl, hxi, .inr (.inr (.inr ⟨HG.out, HS.out, rfl, hd1, .inr ⟨hd1, ?_, ?_⟩, HLs.out⟩)), hxw8⟩
                    · obtain ⟨i, r, rfl, h1, h2⟩ := HLs.out.1
                      simp [depB] at h1
                      exact ⟨i, h2.1, ⟨r, h2⟩, h1.1, h1.2.symm⟩
                    · intro i hi hgo hfr
                      by_cases e : b ≤ (leg L i).Dep
                      · exact (HB.out i hi hfr e hgo).elim
                      · rcases HD.out with ⟨h, _⟩ | ⟨_, _, hm⟩
                        · omega
                        · exact hm i hi (by unfold DepBelow; omega) hfr
end Go.Proofs.Ytmmjjfjbhogfgaa
