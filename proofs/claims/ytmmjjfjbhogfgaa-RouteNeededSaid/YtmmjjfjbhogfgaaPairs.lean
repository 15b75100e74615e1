/- RoutePairs: the walk. -/
import Derived.Test.YtmmjjfjbhogfgaaLawB
import Derived.Test.YtmmjjfjbhogfgaaJourneys
namespace Go.Proofs.Ytmmjjfjbhogfgaa
open Go.ChangeShapes Go.WideShapes Go.ChangeAt Go.RowKit
attribute [local go_sem] Leg.val run_store_fn

theorem trips_at : ∀ (T : List (Int × Int)) (k : Nat), k < T.length → (trips T)[k * 2]? = some (.int .i64 (tFst T k)) ∧ (trips T)[k * 2 + 1]? = some (.int .i64 (tSnd T k))
  | [], k, h => by simp at h
  | a :: r, 0, _ => by simp [trips, tFst, tSnd]
  | a :: r, k + 1, h => by
    have := trips_at r k (by simpa using h)
    have e : ∀ j, (trips (a :: r))[(k + 1) * 2 + j]? = (trips r)[k * 2 + j]? := by
      intro j
      have : (k + 1) * 2 + j = k * 2 + j + 2 := by omega
      rw [this]
      simp [trips]
    have e0 := e 0
    simp only [Nat.add_zero] at e0
    rw [e0, e 1]
    simpa [tFst, tSnd] using this
/-- Pairs lie from the address on. -/
def TripsIn (w : World) (ao : Option Addr) (T : List (Int × Int)) : Prop :=
  ∀ k, k < T.length → ∃ b off, ao = some ⟨b, off, none⟩ ∧ b < w.heap.size ∧ w.cell? ⟨b, off + k * 2, none⟩ = some (.int .i64 (tFst T k)) ∧ w.cell? ⟨b, off + k * 2 + 1, none⟩ = some (.int .i64 (tSnd T k))
theorem TripsIn.ext {w w' : World} {ao : Option Addr} {T : List (Int × Int)} (h : TripsIn w ao T) (he : Ext w w') : TripsIn w' ao T := by
  intro k hk
  obtain ⟨b, off, ha, hb, h0, h1⟩ := h k hk
  exact ⟨b, off, ha, Nat.lt_of_lt_of_le hb he.size, (he.cell hb).trans h0, (he.cell hb).trans h1⟩
theorem TripsIn.after {w : World} {b off : Nat} {T : List (Int × Int)} (h : TripsIn w (some ⟨b, off, none⟩) T) {k : Nat} (hk : k < T.length) : ∀ s : After w, s.at_.cell? ⟨b, off + k * 2, none⟩ = some (.int .i64 (tFst T k)) ∧ s.at_.cell? ⟨b, off + k * 2 + 1, none⟩ = some (.int .i64 (tSnd T k)) := by
  intro s
  obtain ⟨b', off', e, _, h0, h1⟩ := h.ext s.ext k hk
  simp only [Option.some.injEq, Addr.mk.injEq, and_true] at e
  obtain ⟨rfl, rfl⟩ := e
  exact ⟨h0, h1⟩
theorem Own.tripsIn {w : World} {base : Nat} {v : Value} {T : List (Int × Int)} (h : Own w base 2 v (trips T)) : ∃ ao cap, v = .slice ao T.length cap ∧ TripsIn w ao T := by
  have hl := trips_length T
  rcases h.shape (by omega) with ⟨rfl, hx⟩ | ⟨g, off, cap, rfl, hb, hlt, _, _⟩
  · have : T = [] := by
      cases T with
      | nil => rfl
      | cons a r => simp [trips] at hx
    subst this
    exact ⟨none, 0, rfl, fun k hk => by simp at hk⟩
  · refine ⟨some ⟨g, off, none⟩, cap, by rw [hl]; simp, fun k hk => ?_⟩
    obtain ⟨g0, g1⟩ := trips_at T k hk
    have hc0 := (h.cellAt (k * 2) (by omega)).1
    have hc1 := (h.cellAt (k * 2 + 1) (by omega)).1
    rw [g0] at hc0
    rw [g1] at hc1
    exact ⟨g, off, rfl, hlt, hc0, by rw [Nat.add_assoc]; exact hc1⟩

theorem TripsIn.atk {w : World} {b off : Nat} {T : List (Int × Int)} (h : TripsIn w (some ⟨b, off, none⟩) T) {k : Nat} (hk : k < T.length) : w.cell? ⟨b, off + k * 2, none⟩ = some (.int .i64 (tFst T k)) ∧ w.cell? ⟨b, off + k * 2 + 1, none⟩ = some (.int .i64 (tSnd T k)) := by
  obtain ⟨b', off', e, _, h0, h1⟩ := h k hk
  simp only [Option.some.injEq, Addr.mk.injEq, and_true] at e
  obtain ⟨rfl, rfl⟩ := e
  exact ⟨h0, h1⟩
theorem TripsIn.at0 {w : World} {b off : Nat} {T : List (Int × Int)} (h : TripsIn w (some ⟨b, off, none⟩) T) (hk : 0 < T.length) : w.cell? ⟨b, off, none⟩ = some (.int .i64 (tFst T 0)) ∧ w.cell? ⟨b, off + 1, none⟩ = some (.int .i64 (tSnd T 0)) := by
  have := h.atk hk
  simpa using this
theorem wsum_le_len {wt : Nat → Nat → Nat} (h1 : ∀ i j, wt i j ≤ 1) (x : List Nat) : wsum wt x ≤ x.length := by
  cases x with
  | nil => simp [wsum]
  | cons a s => have := wsum_le h1 a s; simp; omega

set_option maxRecDepth 100000 in
set_option maxHeartbeats 8000000 in
theorem routePairs_calls (w : World) (n : Int) (ao : Option Addr) (cap : Nat) (L : List Leg) (c src dst at_ : Int) (hL : LegsIn w ao L) :
    Calls Try.prog 7 #[.int .i64 n, .slice ao L.length cap, .int .i64 c, .int .i64 src, .int .i64 dst, .int .i64 at_] w (TrueRes w) := by
  go_enter Try.func7, Try.ntmps7
  go_wp2_with fail
  refine (few_calls w ao L.length cap).mono ?_
  rintro e w1 ⟨rfl, hx1⟩
  have hal : ∀ w2, Ext w w2 → Calls Try.prog 19 #[] w2 fun e w' => e = .returned (.bool true) ∧ Ext w w' := fun w2 hx => (alive_calls w2).mono (fun e w' ⟨he, hx'⟩ => ⟨he, hx.trans hx'⟩)
  cases hd : decide (L.length ≤ 80) with
  | false =>
    go_wp2_with fail
    refine (hal _ hx1).mono ?_
    rintro e w2 ⟨rfl, hx2⟩
    go_wp2_with fail
    go_ret
    exact ⟨rfl, hx2⟩
  | true =>
    have hl : L.length ≤ 80 := by simpa using hd
    go_wp2_with fail
    refine (trips_calls w1 n ao cap L c src dst at_ (hL.ext hx1) (by omega)).mono ?_
    rintro e w2 ⟨vt, T, fr, rfl, hoT, hTr, hx2⟩
    have hx12 := hx1.trans hx2
    go_wp2_with fail
    refine (earliest_calls w2 n ao cap L c src dst at_ (hL.ext hx12) (by omega)).mono ?_
    rintro e w3 ⟨a, v, xs, er, rfl, ho, hE, hx3⟩
    have hx13 := hx12.trans hx3
    obtain ⟨rfl, hT0, hT1⟩ := law_pairs hE hTr
    have HE := Lib.hid hE
    clear hE hTr
    by_cases he : er = 0
    · subst he
      have hok := hT1 rfl
      have HT := Lib.hid hok
      have hTl := hok.len
      have hTp : 0 < T.length := List.length_pos_iff.2 hok.ne
      have hlow := hok.low
      have hfew := Lib.hid hok.few
      have hlast := hok.last
      have hTn : ((T.length : Int) == 0) = false := by simp only [beq_eq_false_iff_ne]; omega
      clear hT0 hT1 hok
      obtain ⟨to_, tcap, rfl, hti⟩ := hoT.tripsIn
      have hti3 := hti.ext hx3
      obtain ⟨tb, tf, rfl, htb, htc⟩ := hti3 (T.length - 1) (by omega)
      obtain ⟨vo, vcap, rfl, hvi, -⟩ := ho.intsShape
      rw [nats_length]
      have hne : (tSnd T (T.length - 1) != a) = false := by rw [hlast]; simp
      clear hlast
      go_wp2_with fail
      go_loopw [18] (fun i wr => ∃ k : Nat, k < T.length ∧ i = .int .i64 ((k : Int) + 1) ∧ Ext w3 wr) (fun i _ => T.length - (intOf i).toNat)
      case atStart => exact ⟨0, hTp, rfl, Ext.refl _⟩
      case round =>
        obtain ⟨k, hk, rfl, hx⟩ := hrel
        by_cases hlt : k + 1 < T.length
        · obtain ⟨hup1, hup2⟩ := HT.out.up k hlt
          have hd1 : decide (tFst T (k + 1) ≤ tFst T k) = false := by simp only [decide_eq_false_iff_not]; omega
          have hd2 : decide (tSnd T k ≤ tSnd T (k + 1)) = false := by simp only [decide_eq_false_iff_not]; omega
          have hcell := hti3.ext hx
          have hc0 := hcell k (by omega)
          clear hup1 hup2 htc
          go_wp2_with fail
          refine wp_region_after (by kernel_rfl) (by kernel_rfl) ?_
          intro hne
          have hs0 := hcell.after (k := k) (by omega)
          have hs1 := hcell.after (k := k + 1) hlt
          repeat (go_big_quiet_step (fail))
          refine wpQuiet_nil ?_
          intro w4 hx4
          go_wp2_with fail
          exact ⟨⟨k + 1, hlt, by go_num, hx.trans hx4⟩, by simp only [intOf]; omega⟩
        · have hxl := law_len HE.out
          have hin := Lib.hid (law_in HE.out)
          have hxw := hx13.trans hx
          have hLr := hL.ext hxw
          have hvr := hvi.ext hx
          clear htc
          go_wp2_with fail
          go_loopw [20, 19] (fun i ch ws => ∃ k : Nat, k ≤ xs.length - 1 ∧ i = .int .i64 ((k : Int) + 1) ∧ ch = .int .i64 (wsum (wtL L) (xs.take (k + 1)) : Nat) ∧ Ext wr ws) (fun i _ _ => xs.length - (intOf i).toNat)
          case atStart =>
            refine ⟨0, by omega, rfl, ?_, Ext.refl _⟩
            cases xs with
            | nil => rfl
            | cons a s => rfl
          case round =>
            obtain ⟨k2, hk2, rfl, rfl, hx2r⟩ := hrel
            by_cases hlt2 : k2 + 1 < xs.length
            · have h1 := hin.out k2 (by omega)
              have h2 := hin.out (k2 + 1) hlt2
              have hws := Lib.hid (wsum_take (wtL L) xs k2 hlt2)
              obtain ⟨vb, vf, hvo, hvb, hc1⟩ := (hvr.ext hx2r) k2 (by rw [nats_length]; omega)
              subst hvo
              obtain ⟨vb', vf', hvo, _, hc2⟩ := (hvr.ext hx2r) (k2 + 1) (by rw [nats_length]; omega)
              simp only [Option.some.injEq, Addr.mk.injEq, and_true] at hvo
              obtain ⟨rfl, rfl⟩ := hvo
              rw [ith_nats] at hc1 hc2
              generalize hx0 : xs.getD k2 0 = x0 at *
              generalize hx1' : xs.getD (k2 + 1) 0 = x1 at *
              clear hx0 hx1'
              have hle := wsum_le_len (wtL_le L) (xs.take (k2 + 1))
              have hLs := hLr.ext hx2r
              obtain ⟨lb, lf, hao, hlb, -⟩ := hLs x0 h1
              subst hao
              have hW := Lib.hid (show wtL L x0 x1 = if (leg L x0).Line = (leg L x1).Line then 0 else 1 from rfl)
              have hlen2 : (xs.take (k2 + 1)).length ≤ 80 := by simp; omega
              generalize wsum (wtL L) (xs.take (k2 + 1)) = ws0 at *
              cases hd : ((leg L x1).Line != (leg L x0).Line) with
              | true =>
                go_wp2_with fail
                refine wp_region_after (by kernel_rfl) (by kernel_rfl) ?_
                intro hne2
                have hs1 := After.cell hc1 hvb
                have hs2 := After.cell hc2 hvb
                have hL1 := hLs.after h1
                have hL2 := hLs.after h2
                repeat (go_big_quiet_step (fail))
                refine wpQuiet_nil ?_
                intro w4 hx4
                have HD := Lib.hid hd
                clear hd
                go_wp2_with fail
                refine ⟨⟨k2 + 1, by omega, by go_num, ?_, hx2r.trans hx4⟩, by simp only [intOf]; omega⟩
                rw [hws.out, hW.out, if_neg (by have := HD.out; simp at this; exact fun h => this h.symm)]
                go_num
              | false =>
                go_wp2_with fail
                refine wp_region_after (by kernel_rfl) (by kernel_rfl) ?_
                intro hne2
                have hs1 := After.cell hc1 hvb
                have hs2 := After.cell hc2 hvb
                have hL1 := hLs.after h1
                have hL2 := hLs.after h2
                repeat (go_big_quiet_step (fail))
                refine wpQuiet_nil ?_
                intro w4 hx4
                have HD := Lib.hid hd
                clear hd
                go_wp2_with fail
                refine ⟨⟨k2 + 1, by omega, by go_num, ?_, hx2r.trans hx4⟩, by simp only [intOf]; omega⟩
                rw [hws.out, hW.out, if_pos (by have := HD.out; simp at this; exact this.symm)]
                rfl
            · have htk : xs.take (k2 + 1) = xs := List.take_of_length_le (by omega)
              rw [htk]
              have hf0 := hfew.out
              have hle := wsum_le_len (wtL_le L) xs
              generalize wsum (wtL L) xs = ws0 at *
              have hxww := hxw.trans hx2r
              go_wp2_with fail
              refine (is_len _ n _ cap L c src dst at_ vo vcap (nats xs) (hL.ext hxww) (by omega) (hvr.ext hx2r) (by rw [nats_length]; omega) (nats64 (by omega) hin.out) (nats_length xs)).mono ?_
              rintro e w6 ⟨b3, gr, rfl, hI3, hx6⟩
              obtain ⟨rfl, rfl⟩ := hI3.uniq (law_is HE.out rfl)
              clear hI3
              have hx36 := (hx.trans hx2r).trans hx6
              obtain ⟨hc0, -⟩ := (hti3.ext hx36).at0 hTp
              obtain ⟨hcl, -⟩ := (hti3.ext hx36).atk (k := T.length - 1) (by omega)
              have htb6 : tb < w6.heap.size := Nat.lt_of_lt_of_le htb hx36.size
              have hgood := good_iff.2 (early_ok HE.out rfl).1
              have hG := Lib.hid hgood
              clear hgood
              go_wp2_with fail
              obtain ⟨hx67, hts⟩ := one_int' w6 3 at_
              refine (good_calls _ n _ cap L c src dst _ 1 [at_] (hL.ext ((hxww.trans hx6).trans hx67)) (by omega) hts (by simp)).mono ?_
              rintro e w8 ⟨rfl, hx8⟩
              rw [hG.out]
              have hx18 := ((hxww.trans hx6).trans hx67).trans hx8
              go_wp2_with fail
              refine (hal _ hx18).mono ?_
              rintro e w9 ⟨rfl, hx9⟩
              go_wp2_with fail
              go_ret
              exact ⟨rfl, hx9⟩
    · have hT := hT0 he
      subst hT
      clear hT0 hT1
      have he1 : (er != 0) = true := by simpa using he
      have HN := Lib.hid he
      clear he
      obtain ⟨to_, tcap, rfl, -⟩ := hoT.tripsIn
      go_wp2_with fail
      refine (hal _ hx13).mono ?_
      rintro e w2 ⟨rfl, hx2⟩
      go_wp2_with fail
      go_ret
      exact ⟨rfl, hx2⟩
end Go.Proofs.Ytmmjjfjbhogfgaa
