/- The specification's small functions over rows: leaving, less, some. -/
import Derived.Test.YtmmjjfjbhogfgaaRefA
namespace Go.Proofs.Ytmmjjfjbhogfgaa
open Go.RowKit
attribute [local go_sem] Leg.val run_store_fn

def BoolsRes (w : World) (m : Nat) (F : Nat → Bool) (e : Ending) (w' : World) : Prop :=
  ∃ g off cap xs, e = .returned (.slice (some ⟨g, off, none⟩) m cap) ∧ Own w' w.heap.size 1 (.slice (some ⟨g, off, none⟩) m cap) (bools xs) ∧ xs.length = m ∧ (∀ k, k < m → bth xs k = F k) ∧ Ext w w'

set_option maxRecDepth 100000 in
set_option maxHeartbeats 2000000 in
theorem leaving_calls (w : World) (ao : Option Addr) (cap : Nat) (L : List Leg) (src at_ : Int) (hL : LegsIn w ao L) (hlen : L.length ≤ 100) :
    Calls Try.prog 45 #[.slice ao L.length cap, .int .i64 src, .int .i64 at_] w (BoolsRes w L.length (fun i => begB src at_ (leg L i))) := by
  obtain ⟨i0, hi, hz0, hz1, hz2⟩ := info_parts info_bool
  go_enter Try.func45, Try.ntmps45
  go_wp2_with (at_make; refine wpList_make_Own _ rfl _ _ 65 rfl 4 i0 (.bool false) Try.underlying65 hi hz0 hz1 rfl _ _ L.length rfl rfl rfl rfl (by rw [hz2]; omega) (by unfold maxLen; omega) ?_; intro g off cap1 w1 ho1 hx1)
  go_loopw [8] (fun i wr => ∃ (k : Nat) (xs : List Bool), k ≤ L.length ∧ i = .int .i64 k ∧ Ext w wr ∧ Own wr w.heap.size 1 (.slice (some ⟨g, off, none⟩) L.length cap1) (bools xs) ∧ Hid (xs.length = L.length ∧ ∀ j, j < k → j < L.length → bth xs j = begB src at_ (leg L j))) (fun i _ => L.length - (intOf i).toNat)
  case atStart => exact ⟨0, List.replicate L.length false, by omega, rfl, hx1, by simpa [bools] using ho1, Lib.hid ⟨by simp, fun j hj => by omega⟩⟩
  case round =>
    obtain ⟨k, xs, hk, rfl, hx, ho, HX⟩ := hrel
    by_cases hlt : k < L.length
    · obtain ⟨b, lo, hao, hb, h0, h1, h2, h3, h4⟩ := hL.ext hx k hlt
      subst hao
      have hX := HX.out.1
      obtain ⟨hc31, hc32⟩ := ho.boolAt k (by omega)
      have hg3 := ho.lt g rfl
      clear hX
      cases hd : ((leg L k).From == src) with
      | false =>
        have HD_ := Lib.hid hd
        have HD2_ := Lib.hid hd
        go_wp2_with fail
        refine ⟨⟨k + 1, xs.set k false, by omega, rfl, hx.setOwn _ _ hg3.1, ho.setBool k (by have := HX.out.1; omega) false, Lib.hid ⟨by simpa using HX.out.1, fun j hj hj2 => ?_⟩⟩, by simp only [intOf]; omega⟩
        rw [bth_set _ _ _ _ (by have := HX.out.1; omega)]
        by_cases e : j = k
        · subst e
          rw [if_pos rfl]
          have h1 := HD_.out
          have h2 := HD2_.out
          simp at h1 h2
          simp [begB, h1]
          try omega
        · rw [if_neg e]
          exact HX.out.2 j (by omega) hj2
      | true =>
        cases hd2 : decide (at_ ≤ (leg L k).Dep) with
        | false =>
          have HD_ := Lib.hid hd
          have HD2_ := Lib.hid hd2
          go_wp2_with fail
          refine ⟨⟨k + 1, xs.set k false, by omega, rfl, hx.setOwn _ _ hg3.1, ho.setBool k (by have := HX.out.1; omega) false, Lib.hid ⟨by simpa using HX.out.1, fun j hj hj2 => ?_⟩⟩, by simp only [intOf]; omega⟩
          rw [bth_set _ _ _ _ (by have := HX.out.1; omega)]
          by_cases e : j = k
          · subst e
            rw [if_pos rfl]
            have h1 := HD_.out
            have h2 := HD2_.out
            simp at h1 h2
            simp [begB, h1]
            try omega
          · rw [if_neg e]
            exact HX.out.2 j (by omega) hj2
        | true =>
          have HD_ := Lib.hid hd
          have HD2_ := Lib.hid hd2
          go_wp2_with fail
          refine ⟨⟨k + 1, xs.set k true, by omega, rfl, hx.setOwn _ _ hg3.1, ho.setBool k (by have := HX.out.1; omega) true, Lib.hid ⟨by simpa using HX.out.1, fun j hj hj2 => ?_⟩⟩, by simp only [intOf]; omega⟩
          rw [bth_set _ _ _ _ (by have := HX.out.1; omega)]
          by_cases e : j = k
          · subst e
            rw [if_pos rfl]
            have h1 := HD_.out
            have h2 := HD2_.out
            simp at h1 h2
            simp [begB, h1]
            try omega
          · rw [if_neg e]
            exact HX.out.2 j (by omega) hj2
    · obtain rfl : k = L.length := by omega
      go_wp2_with fail
      go_ret
      exact ⟨g, off, cap1, xs, rfl, ho, HX.out.1, fun j hj => HX.out.2 j hj hj, hx⟩

set_option maxRecDepth 100000 in
set_option maxHeartbeats 2000000 in
theorem less_calls (w : World) (ao bo : Option Addr) (acap bcap : Nat) (x y : List Nat) (ha : IntsIn w ao (nats x)) (hb : IntsIn w bo (nats y)) (hlen : x.length = y.length) (hl : x.length ≤ 1000) {m m' : Nat} (hm : x.length = m) (hm' : y.length = m') :
    Calls Try.prog 75 #[.slice ao m acap, .slice bo m' bcap] w fun e w' => e = .returned (.bool (lessB x y)) ∧ Ext w w' := by
  subst hm hm'
  go_enter Try.func75, Try.ntmps75
  go_wp2_with fail
  go_loopw [5] (fun i wr => ∃ (k : Nat), k ≤ x.length ∧ i = .int .i64 k ∧ Ext w wr ∧ Hid (∀ j, j < k → x.getD j 0 = y.getD j 0)) (fun i _ => x.length - (intOf i).toNat)
  case atStart => exact ⟨0, by omega, rfl, Ext.refl _, Lib.hid (fun j hj => by omega)⟩
  case round =>
    obtain ⟨k, hk, rfl, hx, HN⟩ := hrel
    by_cases hlt : k < x.length
    · have hlty : k < y.length := by omega
      obtain ⟨ab, af, hao, hab, hac⟩ := (ha.ext hx) k (by rw [nats_length]; exact hlt)
      obtain ⟨bb, bf, hbo, hbb, hbc⟩ := (hb.ext hx) k (by rw [nats_length]; exact hlty)
      subst hao hbo
      have hld := Lib.hid (lessB_drop k x y hlt hlty HN.out)
      rw [ith_nats] at hac hbc
      cases hd : ((x.getD k 0 : Int) != (y.getD k 0 : Int)) with
      | true =>
        have hne : ¬ x.getD k 0 = y.getD k 0 := by rw [bne_iff_ne] at hd; omega
        have HNE := Lib.hid hne
        clear hne
        generalize x.getD k 0 = p at *
        generalize y.getD k 0 = q at *
        go_wp2_with fail
        refine wp_region_after (by kernel_rfl) (by kernel_rfl) ?_
        intro hne
        have hxs := After.cell hac hab
        have hys := After.cell hbc hbb
        repeat (go_big_quiet_step (fail))
        refine wpQuiet_nil ?_
        intro w3 hx3
        have hac3 := (hx3.cell (p := ⟨ab, af + k, none⟩) hab).trans hac
        have hbc3 := (hx3.cell (p := ⟨bb, bf + k, none⟩) hbb).trans hbc
        have hab3 : ab < w3.heap.size := Nat.lt_of_lt_of_le hab hx3.size
        have hbb3 : bb < w3.heap.size := Nat.lt_of_lt_of_le hbb hx3.size
        clear hxs hys hd
        have HD : Hid (x.length = y.length) := Lib.hid hlen
        go_wp2_with fail
        refine wp_region_after (by kernel_rfl) (by kernel_rfl) ?_
        intro hne2
        have hxs := After.cell hac3 hab3
        have hys := After.cell hbc3 hbb3
        repeat (go_big_quiet_step (fail))
        refine wpQuiet_nil ?_
        intro w4 hx4
        go_wp2_with fail
        go_ret
        refine ⟨ret_bool ?_, (hx.trans hx3).trans hx4⟩
        rw [hld.out, if_neg HNE.out]
      | false =>
        have heq : x.getD k 0 = y.getD k 0 := by rw [bne_eq_false_iff_eq] at hd; omega
        have HEQ := Lib.hid heq
        clear heq
        generalize hp : x.getD k 0 = p at *
        generalize hq : y.getD k 0 = q at *
        have HPQ := Lib.hid (And.intro hp hq)
        clear hp hq
        go_wp2_with fail
        refine wp_region_after (by kernel_rfl) (by kernel_rfl) ?_
        intro hne
        have hxs := After.cell hac hab
        have hys := After.cell hbc hbb
        repeat (go_big_quiet_step (fail))
        refine wpQuiet_nil ?_
        intro w3 hx3
        have HD := Lib.hid hd
        clear hd
        go_wp2_with fail
        refine ⟨⟨k + 1, by omega, rfl, hx.trans hx3, Lib.hid (fun j hj => ?_)⟩, by simp only [intOf]; omega⟩
        rcases Nat.lt_or_ge j k with h | h
        · exact HN.out j h
        · obtain rfl : j = k := by omega
          rw [HPQ.out.1, HPQ.out.2]
          exact HEQ.out
    · go_wp2_with fail
      go_ret
      exact ⟨ret_bool (lessB_same x y hlen (fun j hj => HN.out j (by omega))).symm, hx⟩

def someB (rs : List (Option (List Nat))) : Bool := anyB rs.length (fun k => (rs.getD k none).isSome)
set_option maxRecDepth 100000 in
set_option maxHeartbeats 2000000 in
theorem some_calls (w : World) (ao : Option Addr) (cap : Nat) (rs : List (Option (List Nat))) (hR : RowsIn Any w ao rs) (hl : rs.length ≤ 1000) {m : Nat} (hm : rs.length = m) :
    Calls Try.prog 76 #[.slice ao m cap] w fun e w' => e = .returned (.bool (someB rs)) ∧ Ext w w' := by
  subst hm
  have hrun := fun (w : World) (a : Option Addr) (n c : Nat) => run_neq_slice_nil_any (P := Try.prog) w 25 3 a n c 0 0 Try.underlying25
  go_enter Try.func76, Try.ntmps76
  go_wp2_with fail
  go_loopw [3] (fun i wr => ∃ (k : Nat), k ≤ rs.length ∧ i = .int .i64 k ∧ Ext w wr ∧ Hid (∀ j, j < k → (rs.getD j none).isSome = false)) (fun i _ => rs.length - (intOf i).toNat)
  case atStart => exact ⟨0, by omega, rfl, Ext.refl _, Lib.hid (fun j hj => by omega)⟩
  case round =>
    obtain ⟨k, hk, rfl, hx, HN⟩ := hrel
    by_cases hlt : k < rs.length
    · obtain ⟨b, off, v, h1, h2, -, h4, h5⟩ := (hR.ext hx) k hlt
      subst h1
      rcases h5 with ⟨h6, rfl⟩ | ⟨xs, b', off', cap', h6, -, rfl, -⟩
      · have H6 := Lib.hid h6
        clear h6
        go_wp2_with fail
        refine ⟨⟨k + 1, by omega, rfl, hx, Lib.hid (fun j hj => ?_)⟩, by simp only [intOf]; omega⟩
        rcases Nat.lt_or_ge j k with h | h
        · exact HN.out j h
        · obtain rfl : j = k := by omega
          rw [H6.out]; rfl
      · have H6 := Lib.hid h6
        clear h6
        go_wp2_with fail
        go_ret
        exact ⟨ret_bool (anyB_true.2 ⟨k, hlt, by rw [H6.out]; rfl⟩).symm, hx⟩
    · go_wp2_with fail
      go_ret
      exact ⟨ret_bool (anyB_false.2 (fun j hj => HN.out j (by omega))).symm, hx⟩
end Go.Proofs.Ytmmjjfjbhogfgaa
