/- Needed of the program. -/
import Derived.Test.YtmmjjfjbhogfgaaNeedA
namespace Go.Proofs.Ytmmjjfjbhogfgaa
open Go.RowKit
attribute [local go_sem] Leg.val run_store_fn

theorem two_ints (w : World) (t : TypeId) (x y : Int) : IntsIn (w.alloc (.cells #[.int .i64 x, .int .i64 y] t)) (some ⟨w.heap.size, 0, none⟩) [x, y] := by
  intro k hk
  have : k = 0 ∨ k = 1 := by simp at hk; omega
  rcases this with rfl | rfl <;> exact ⟨w.heap.size, 0, rfl, by simp, by simp [go_sem, ith]⟩
theorem good_two {n : Int} {L : List Leg} {c src dst a b : Int} (h : Good n L c src dst [a, b]) : (0 ≤ a ∧ a ≤ 10000) ∧ 0 ≤ b ∧ b ≤ 10000 := by
  have h0 := h.times 0 (by simp)
  have h1 := h.times 1 (by simp)
  simp [ith] at h0 h1
  omega
def NeedRes (w : World) (n : Int) (L : List Leg) (c src dst at_ by_ : Int) (e : Ending) (w' : World) : Prop :=
  ∃ v R er, e = .returned (.tuple #[v, .int .i64 er]) ∧ Own w' w.heap.size 1 v (ints (nats R)) ∧ R.length ≤ L.length ∧ NeedOf n L c src dst at_ by_ R er ∧ Ext w w'
theorem NeedIn.len {c : Int} {L : List Leg} {src dst at_ by_ : Int} {R : List Nat} : ∀ {k : Nat}, NeedIn c L src dst at_ by_ k R → R.length ≤ k := by
  have key : ∀ (k : Nat) (R : List Nat), R.Pairwise (· < ·) → (∀ i ∈ R, i < k) → R.length ≤ k := by
    intro k
    induction k with
    | zero =>
      intro R _ h
      cases R with
      | nil => simp
      | cons a r => have := h a (by simp); omega
    | succ k ih =>
      intro R hp h
      by_cases hR : R = []
      · subst hR; simp
      · obtain ⟨O, l, rfl⟩ : ∃ O l, R = O ++ [l] := ⟨R.dropLast, R.getLast hR, (List.dropLast_concat_getLast hR).symm⟩
        have h1 := List.pairwise_append.1 hp
        have := ih O h1.1 (fun i hi => by
          have := h1.2.2 i hi l (by simp)
          have := h l (by simp)
          omega)
        simp
        omega
  exact fun {k} h => key k R h.1 (fun i hi => ((h.2 i).1 hi).1)

set_option maxRecDepth 100000 in
set_option maxHeartbeats 8000000 in
theorem bigNeeded_calls (w : World) (n : Int) (ao : Option Addr) (cap : Nat) (L : List Leg) (c src dst at_ by_ : Int) (hL : LegsIn w ao L) (hlen : L.length ≤ 10000000) :
    Calls Try.prog 31 #[.int .i64 n, .slice ao L.length cap, .int .i64 c, .int .i64 src, .int .i64 dst, .int .i64 at_, .int .i64 by_] w (NeedRes w n L c src dst at_ by_) := by
  obtain ⟨i0, hi, hz0, hz1, hz2⟩ := info_parts info_int
  go_enter Try.func31, Try.ntmps31
  go_wp2_with fail
  have hts := two_ints w 3 at_ by_
  have hx4 : Ext w (w.alloc (Obj.cells #[Value.int IntKind.i64 at_, Value.int IntKind.i64 by_] 3)) := (by repeat (first | exact Ext.refl _ | assumption | refine Ext.alloc ?_ _ | refine Ext.drewN ?_ _ | refine Ext.drew ?_))
  generalize (w.alloc (Obj.cells #[Value.int IntKind.i64 at_, Value.int IntKind.i64 by_] 3)) = w4 at *
  refine (of_calls w4 n ao cap L c src dst _ 2 [at_, by_] (hL.ext hx4) hlen hts (by simp)).mono ?_
  rintro e w5 ⟨hx5, ⟨hg, rfl⟩ | ⟨hg, tb, rfl, htb, hT⟩⟩
  · have hne : (goodE n L c src dst [at_, by_] != 0) = true := by simpa using hg
    have HG := Lib.hid hg
    clear hg
    go_wp2_with fail
    go_ret2
    exact ⟨_, [], _, rfl, Own.nil _ _ _, by simp, .inl ⟨HG.out, rfl, rfl⟩, hx4.trans hx5⟩
  · have HG := Lib.hid hg
    have hgood := good_iff.1 hg
    have hlen2 := hgood.len
    have hch := hgood.change
    have HF := Lib.hid hgood.fine
    clear hg hgood hts
    have hxw := hx4.trans hx5
    cases hsd : (src == dst) with
    | true =>
      have hsd' : src = dst := by simpa using hsd
      have HS := Lib.hid hsd'
      clear hsd'
      cases hab : decide (by_ < at_) with
      | true =>
        go_wp2_with fail
        go_ret2
        exact ⟨_, [], _, rfl, Own.nil _ _ _, by simp, .inr (.inl ⟨HG.out, HS.out, rfl, by rw [if_pos (by simpa using hab)]⟩), hxw⟩
      | false =>
        go_wp2_with fail
        go_ret2
        exact ⟨_, [], _, rfl, Own.nil _ _ _, by simp, .inr (.inl ⟨HG.out, HS.out, rfl, by rw [if_neg (by simpa using hab)]⟩), hxw⟩
    | false =>
      have hsd' : src ≠ dst := by simpa using hsd
      have HS := Lib.hid hsd'
      clear hsd'
      go_wp2_with fail
      refine (within_calls w5 tb n ao cap L c src dst at_ by_ hT (hL.ext hxw) (by omega) (by omega) HF.out).mono ?_
      rintro e w6 ⟨v, xs, rfl, hov, hxl, hxs, hx6⟩
      have HX := Lib.hid hxs
      clear hxs
      have hx06 := hxw.trans hx6
      obtain ⟨vo, vcap, rfl, hvb, -⟩ := hov.boolsShape
      rw [hxl]
      go_wp2_with fail
      refine (containsB_calls w6 vo vcap xs hvb (by omega) hxl).mono ?_
      rintro e w7 ⟨rfl, hx7⟩
      have hx07 := hx06.trans hx7
      have hx57 := hx6.trans hx7
      have HA : Hid (anyB L.length (bth xs) = true ↔ Goes c L src dst at_ by_) := Lib.hid (any_goes rfl HX.out)
      cases hany : anyB L.length (bth xs) with
      | false =>
        have HN : Hid (¬ Goes c L src dst at_ by_) := Lib.hid (fun h => by rw [HA.out.2 h] at hany; cases hany)
        go_wp2_with fail
        go_ret2
        exact ⟨_, [], _, rfl, Own.nil _ _ _, by simp, .inr (.inr (.inl ⟨HG.out, HS.out, HN.out, rfl, rfl⟩)), hx07⟩
      | true =>
        have HGO := Lib.hid (HA.out.1 hany)
        clear hany
        have hvb7 := hvb.ext hx7
        have hT7 := hT.ext hx57
        go_wp2_with fail
        go_loopw [54, 19] (fun i ov wr => ∃ (k : Nat) (outv : Value) (R : List Nat), k ≤ L.length ∧ i = .int .i64 k ∧ outv = ov ∧ Ext w7 wr ∧ Own wr w7.heap.size 1 outv (ints (nats R)) ∧ R.length ≤ k ∧ Hid (NeedIn c L src dst at_ by_ k R)) (fun i _ _ => L.length - (intOf i).toNat)
        case atStart => exact ⟨0, _, [], by omega, rfl, rfl, Ext.refl _, Own.nil _ _ _, by simp, Lib.hid (NeedIn.start _ _ _ _ _ _)⟩
        case round =>
          obtain ⟨k, outv, R, hk, rfl, rfl, hx, ho, hRk, HN⟩ := hrel
          by_cases hlt : k < L.length
          · obtain ⟨vb, vf, hvo, hvbl, hck⟩ := (hvb7.ext hx) k (by omega)
            subst hvo
            cases hb : bth xs k with
            | false =>
              rw [hb] at hck
              have HK := Lib.hid (HN.out.skip (by
                obtain ⟨x, hx⟩ := HGO.out
                exact ⟨x, hx, fun hm => by
                  have := (HX.out k hlt).2 (jn_mem hx hm)
                  rw [hb] at this; cases this⟩))
              clear hb
              go_wp2_with fail
              exact ⟨⟨k + 1, _, R, by omega, rfl, rfl, hx, ho, by omega, Lib.hid HK.out⟩, by simp only [intOf]; omega⟩
            | true =>
              rw [hb] at hck
              clear hb
              have hLr := hL.ext (hx07.trans hx)
              obtain ⟨lb, lf, hao, hlb, -⟩ := hLr k hlt
              subst hao
              have hTr := hT7.ext hx
              go_wp2_with fail
              refine (without_calls wr tb n lb lf cap L c k hTr hLr hlt (by omega)).mono ?_
              rintro e w8 ⟨tb2, g, goff, gcap, rfl, hT8, hL8, hx8⟩
              rw [← erase_len hlt] at hT8
              have hel : (L.eraseIdx k).length ≤ 100 := by rw [erase_len hlt]; omega
              go_wp2_with fail
              refine (within_calls w8 tb2 n _ gcap (L.eraseIdx k) c src dst at_ by_ hT8 hL8 hel (by omega) (fun j hj => by
                rw [leg_up]
                refine HF.out _ ?_
                rw [erase_len hlt] at hj
                unfold upTo
                split <;> omega)).mono ?_
              rintro e w9 ⟨v2, ys, rfl, hov2, hyl, hys, hx9⟩
              obtain ⟨yo, ycap, rfl, hyb, -⟩ := hov2.boolsShape
              rw [hyl]
              have hx89 := hx8.trans hx9
              go_wp2_with fail
              refine (containsB_calls w9 yo ycap ys hyb (by omega) hyl).mono ?_
              rintro e w10 ⟨rfl, hx10⟩
              have HB : Hid (anyB (L.eraseIdx k).length (bth ys) = true ↔ GoesBut c L src dst at_ by_ k) := Lib.hid ((any_goes rfl hys).trans (goes_erase hlt))
              clear hys hov2
              have hxr := hx.trans (hx89.trans hx10)
              have ho10 := ho.ext (hx89.trans hx10)
              cases hany2 : anyB (L.eraseIdx k).length (bth ys) with
              | true =>
                have HK := Lib.hid (HN.out.skip (HB.out.1 hany2))
                clear hany2
                go_wp2_with fail
                exact ⟨⟨k + 1, _, R, by omega, rfl, rfl, hxr, ho10, by omega, Lib.hid HK.out⟩, by simp only [intOf]; omega⟩
              | false =>
                have HK := Lib.hid (HN.out.add (fun h => by rw [HB.out.2 h] at hany2; cases hany2))
                clear hany2
                have hs10 := hxr.size
                go_wp2_with (at_builtin; refine wpList_append_Own _ rfl _ _ 25 rfl 3 i0 (.int .i64 0) 1 8 Try.underlying25 hi hz0 hz1 hz2 rfl (by omega) w7.heap.size _ _ rfl (Own.ext ho10 ((Ext.refl _).alloc _)) (by simp; omega) _ 1 1 [.int .i64 (k : Int)] rfl rfl (one_cell _ _ _ _ rfl) (by simp [Value.oneCell']) (by simp [ints_length, nats_length]; unfold maxLen; omega) (by simp [ints_length, nats_length]; omega) ?_; intro v' w5 ho5 hg5 hb5)
                rw [ints_snoc, nats_snoc] at ho5
                have hx5 : Ext w7 w5 := (hxr.alloc _).onto hg5 (fun q hq => by have := (ho10.lt q hq).1; omega)
                exact ⟨⟨k + 1, _, R ++ [k], by omega, rfl, rfl, hx5, ho5, by simp; omega, Lib.hid HK.out⟩, by simp only [intOf]; omega⟩
          · obtain rfl : k = L.length := by omega
            go_wp2_with fail
            go_ret2
            exact ⟨_, R, 0, rfl, ho.rebase hx07.size, hRk, .inr (.inr (.inr ⟨HG.out, HS.out, HGO.out, HN.out, rfl⟩)), hx07.trans hx⟩
end Go.Proofs.Ytmmjjfjbhogfgaa
