/- RouteTurned: the walk. -/
import Derived.Test.YtmmjjfjbhogfgaaLawC
import Derived.Test.YtmmjjfjbhogfgaaLawIs
import Derived.Test.YtmmjjfjbhogfgaaMore
namespace Go.Proofs.Ytmmjjfjbhogfgaa
open Go.ChangeShapes Go.WideShapes Go.ChangeAt Go.RowKit
attribute [local go_sem] Leg.val run_store_fn

theorem one_turned (w : World) (o : Obj) (x : Leg) : LegsIn ((w.alloc o).alloc x.box) (some ⟨w.heap.size + 1, 0, none⟩) [x] := by
  have := one_leg (w.alloc o) x
  simpa using this

set_option maxRecDepth 100000 in
set_option maxHeartbeats 8000000 in
theorem routeTurned_calls (w : World) (n : Int) (ao : Option Addr) (cap : Nat) (L : List Leg) (c src dst by_ : Int) (hL : LegsIn w ao L) :
    Calls Try.prog 9 #[.int .i64 n, .slice ao L.length cap, .int .i64 c, .int .i64 src, .int .i64 dst, .int .i64 by_] w (TrueRes w) := by
  obtain ⟨i0, hi, hz0, hz1, hz2⟩ := info_parts info_leg
  go_enter Try.func9, Try.ntmps9
  go_wp2_with fail
  refine (few_calls w ao L.length cap).mono ?_
  rintro e w1 ⟨rfl, hx1⟩
  have hal : ∀ w2, Ext w w2 → Calls Try.prog 19 #[] w2 fun e w' => e = .returned (.bool true) ∧ Ext w w' := fun w2 hx => (alive_calls w2).mono (fun e w' ⟨he, hx'⟩ => ⟨he, hx.trans hx'⟩)
  cases hd : decide (L.length ≤ 80) with
  | false =>
    go_wp2_with fail
    refine (hal _ (hx1)).mono ?_
    rintro e w2 ⟨rfl, hx2⟩
    go_wp2_with fail
    go_ret
    exact ⟨rfl, hx2⟩
  | true =>
    have hl : L.length ≤ 80 := by simpa using hd
    go_wp2_with fail
    go_loopw [14, 13] (fun i back wr => ∃ k : Nat, k ≤ L.length ∧ i = .int .i64 k ∧ Ext w wr ∧ Own wr w.heap.size 5 back (legCells (turned (L.take k))) ∧ Hid (∀ j, j < k → InR (leg L j))) (fun i _ _ => L.length - (intOf i).toNat)
    case atStart => exact ⟨0, by omega, rfl, hx1, Own.nil _ _ _, Lib.hid (fun j hj => by omega)⟩
    case round =>
      obtain ⟨k, hk, rfl, hx, ho, HR⟩ := hrel
      by_cases hlt : k < L.length
      · obtain ⟨b, lo, hao, hb, h0, h1, h2, h3, h4⟩ := hL.ext hx k hlt
        subst hao
        by_cases t1 : (leg L k).Dep < 0
        ·
          go_wp2_with fail
          refine (hal _ (hx.alloc _)).mono ?_
          rintro e w2 ⟨rfl, hx2⟩
          go_wp2_with fail
          go_ret
          exact ⟨rfl, hx2⟩
        · by_cases t2 : 10000 < (leg L k).Dep
          ·
            go_wp2_with fail
            refine (hal _ (hx.alloc _)).mono ?_
            rintro e w2 ⟨rfl, hx2⟩
            go_wp2_with fail
            go_ret
            exact ⟨rfl, hx2⟩
          · by_cases t3 : (leg L k).Arr < 0
            ·
              go_wp2_with fail
              refine (hal _ (hx.alloc _)).mono ?_
              rintro e w2 ⟨rfl, hx2⟩
              go_wp2_with fail
              go_ret
              exact ⟨rfl, hx2⟩
            · by_cases t4 : 10000 < (leg L k).Arr
              ·
                go_wp2_with fail
                refine (hal _ (hx.alloc _)).mono ?_
                rintro e w2 ⟨rfl, hx2⟩
                go_wp2_with fail
                go_ret
                exact ⟨rfl, hx2⟩
              · have t1' : 0 ≤ (leg L k).Dep := by omega
                have t2' : (leg L k).Dep ≤ 10000 := by omega
                have t3' : 0 ≤ (leg L k).Arr := by omega
                have t4' : (leg L k).Arr ≤ 10000 := by omega
                have hlk : (turned (L.take k)).length ≤ 80 := by rw [turned_length]; simp; omega
                have hs := turned_snoc L hlt
                have HS := Lib.hid hs
                clear hs t1 t2 t3 t4
                go_wp2_with (at_builtin; refine wpList_append_legs _ rfl _ _ 22 rfl 38 i0 _ Try.underlying22 hi hz0 hz1 hz2 rfl w.heap.size _ (turned (L.take k)) rfl (Own.ext ho (by exact (by repeat (first | exact Ext.refl _ | assumption | refine Ext.alloc ?_ _ | refine Ext.drewN ?_ _ | refine Ext.drew ?_)))) (by have := hx.size; simp; omega) _ 1 [turn (leg L k)] rfl (one_turned wr _ (turn (leg L k))) (by omega) (by simp) ?_; intro v' w5 ho5 hg5 hb5)
                have hx5 : Ext w w5 := ((hx.alloc _).alloc _).onto hg5 (fun q hq => by have := (ho.lt q hq).1; omega)
                rw [← HS.out] at ho5
                exact ⟨⟨k + 1, by omega, rfl, hx5, ho5, Lib.hid (fun j hj => by
                  rcases Nat.lt_or_ge j k with h | h
                  · exact HR.out j h
                  · obtain rfl : j = k := by omega
                    exact ⟨t1', t2', t3', t4'⟩)⟩, by simp only [intOf]; omega⟩
      · obtain rfl : k = L.length := by omega
        rw [List.take_length] at ho
        by_cases t1 : by_ < 0
        ·
          go_wp2_with fail
          refine (hal _ (hx)).mono ?_
          rintro e w2 ⟨rfl, hx2⟩
          go_wp2_with fail
          go_ret
          exact ⟨rfl, hx2⟩
        · by_cases t2 : 10000 < by_
          ·
            go_wp2_with fail
            refine (hal _ (hx)).mono ?_
            rintro e w2 ⟨rfl, hx2⟩
            go_wp2_with fail
            go_ret
            exact ⟨rfl, hx2⟩
          · have t1' : 0 ≤ by_ := by omega
            have t2' : by_ ≤ 10000 := by omega
            clear t1 t2
            go_wp2_with fail
            refine (latest_calls _ n ao cap L c src dst by_ (hL.ext hx) (by omega)).mono ?_
            rintro e w2 ⟨a, v, xs, er, rfl, ho2, hE, hx2⟩
            have hx12 := hx.trans hx2
            obtain ⟨bo, bcap, rfl, hbk⟩ := ho.legsShape
            rw [turned_length]
            go_wp2_with fail
            refine (earliest_len w2 n bo bcap (turned L) c dst src (10000 - by_) (hbk.ext hx2) (by rw [turned_length]; omega) (turned_length L)).mono ?_
            rintro e w3 ⟨b, v3, ys, fr, rfl, ho3, hE3, hx3⟩
            obtain ⟨rfl, hab⟩ := law_turned HR.out ⟨t1', t2'⟩ hE hE3
            have hHE := Lib.hid hE
            have hHE3 := Lib.hid hE3
            clear hE hE3
            obtain ⟨xo, xcap, rfl, hxi, -⟩ := ho2.intsShape
            obtain ⟨yo, ycap, rfl, hyi, -⟩ := ho3.intsShape
            rw [nats_length, nats_length]
            have hx13 := hx12.trans hx3
            by_cases he : er = 0
            · subst he
              obtain ⟨h1, h2⟩ := hab rfl
              have htop := law_top hHE3.out rfl
              rw [h2]
              have h1' : (a == 10000 - b) = true := by simp [h1]
              clear hab h1
              go_wp2_with fail
              refine (hal _ (hx13)).mono ?_
              rintro e w2 ⟨rfl, hx2⟩
              go_wp2_with fail
              go_ret
              exact ⟨rfl, hx2⟩
            · have he1 : (er != 0) = true := by simpa using he
              clear hab he
              go_wp2_with fail
              refine (hal _ (hx13)).mono ?_
              rintro e w2 ⟨rfl, hx2⟩
              go_wp2_with fail
              go_ret
              exact ⟨rfl, hx2⟩
end Go.Proofs.Ytmmjjfjbhogfgaa
