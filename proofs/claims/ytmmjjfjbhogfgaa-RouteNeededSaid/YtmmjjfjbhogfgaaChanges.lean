/- changes: the fewest changes to each leg. -/
import Derived.Test.YtmmjjfjbhogfgaaSteps
import Derived.Test.YtmmjjfjbhogfgaaChg
namespace Go.Proofs.Ytmmjjfjbhogfgaa
open Go.RowKit
attribute [local go_sem] Leg.val run_store_fn

def wtL (L : List Leg) (i j : Nat) : Nat := if (leg L i).Line = (leg L j).Line then 0 else 1
theorem wtL_le (L : List Leg) (i j : Nat) : wtL L i j ≤ 1 := by unfold wtL; split <;> omega
def ChangesRes (w : World) (m : Nat) (fol : Nat → Nat → Bool) (wt : Nat → Nat → Nat) (first : Nat → Bool) (e : Ending) (w' : World) : Prop :=
  ∃ v xs, e = .returned v ∧ Own w' w.heap.size 1 v (ints xs) ∧ Fewest m fol wt first xs ∧ Ext w w'

set_option maxRecDepth 100000 in
set_option maxHeartbeats 8000000 in
theorem changes_calls (w : World) (tb : Nat) (n : Int) (ao : Option Addr) (cap : Nat) (L : List Leg) (c : Int) (f : FuncId) (caps : Array Value) (G : Leg → Prop) (F : Leg → Bool)
    (hT : TableIn w tb n ao L.length cap c) (hL : LegsIn w ao L) (hlen : L.length ≤ 100) (hp : Pred w f caps G F) (hG : ∀ k, k < L.length → G (leg L k)) (hc : 0 ≤ c ∧ c ≤ 101) (hfine : ∀ k, k < L.length → Fine n (leg L k)) :
    Calls Try.prog 52 #[.pointer (some ⟨tb, 0, none⟩), .func (.func f) #[] caps] w (ChangesRes w L.length (folL c L) (wtL L) (fun i => F (leg L i))) := by
  have HG := Lib.hid hG
  have HF := Lib.hid hfine
  clear hG hfine
  have hent := hp.enter
  have hTn := hT.legs
  have htb := hT.lt
  obtain ⟨i0, hi, hz0, hz1, hz2⟩ := info_parts info_int
  go_enter Try.func52, Try.ntmps52
  go_wp2_with (at_make; refine wpList_make_Own _ rfl _ _ 25 rfl 3 i0 (.int .i64 0) Try.underlying25 hi hz0 hz1 rfl _ _ L.length rfl rfl rfl rfl (by rw [hz2]; omega) (by unfold maxLen; omega) ?_; intro g off cap1 w1 ho1 hx1; have hTn1 := (hT.ext hx1).legs)
  have htb1 := hx1.size
  go_loopw [25] (fun i wr => ∃ (k : Nat) (xs : List Int), k ≤ L.length ∧ i = .int .i64 k ∧ Ext w wr ∧ Own wr w.heap.size 1 (.slice (some ⟨g, off, none⟩) L.length cap1) (ints xs) ∧ Hid (xs.length = L.length ∧ ∀ j, j < L.length → ith xs j = if j < k ∧ F (leg L j) = false then -1 else 0)) (fun i _ => L.length - (intOf i).toNat)
  case atStart =>
    refine ⟨0, List.replicate L.length 0, by omega, rfl, hx1, by simpa [ints] using ho1, Lib.hid ⟨by simp, fun j hj => ?_⟩⟩
    simp [ith, hj]
  case round =>
    obtain ⟨k, xs, hk, rfl, hx, ho, HX⟩ := hrel
    by_cases hlt : k < L.length
    · obtain ⟨b, lo, hao, hb, h0, h1, h2, h3, h4⟩ := hL.ext hx k hlt
      subst hao
      go_wp2_with fail
      refine (hp.call _ (leg L k) (hx.alloc _) (HG.out k hlt)).mono ?_
      rintro e w2 ⟨rfl, hx2⟩
      have hx3 := (hx.alloc _).trans hx2
      have ho3 := ho.ext (((Ext.refl _).alloc _).trans hx2)
      have hX := HX.out
      have hc3 := ho3.intAt k (by omega)
      obtain ⟨hc31, hc32⟩ := hc3
      have hg3 := ho3.lt g rfl
      clear hX
      cases hFk : F (leg L k) with
      | false =>
        have HFk := Lib.hid hFk
        clear hFk
        go_wp2_with fail
        have hX := HX.out
        refine ⟨⟨k + 1, xs.set k (-1), by omega, rfl, hx3.setOwn _ _ (by simp; omega), ho3.setInt k (by omega) (-1), Lib.hid ⟨by simpa using hX.1, fun j hj => ?_⟩⟩, by simp only [intOf]; omega⟩
        rw [ith_set _ _ _ _ (by omega)]
        by_cases e : j = k
        · subst e; rw [if_pos rfl, if_pos ⟨by omega, HFk.out⟩]
        · rw [if_neg e, hX.2 j hj]
          have : j < k + 1 ↔ j < k := by omega
          simp only [this]
      | true =>
        have HFk := Lib.hid hFk
        clear hFk
        go_wp2_with fail
        have hX := HX.out
        refine ⟨⟨k + 1, xs, by omega, rfl, hx3, ho3, Lib.hid ⟨hX.1, fun j hj => ?_⟩⟩, by simp only [intOf]; omega⟩
        rw [hX.2 j hj]
        by_cases e : j = k
        · subst e; rw [if_neg (by omega), if_neg (by rw [HFk.out]; simp)]
        · have : j < k + 1 ↔ j < k := by omega
          simp only [this]
    · have hin : FewIn L.length (folL c L) (wtL L) (fun i => F (leg L i)) xs := by
        have hX := HX.out
        refine ⟨hX.1, fun i hi => ?_, fun i hi h0 => ?_, fun i hi hf => ?_⟩
        · rw [hX.2 i hi]; split <;> omega
        · rw [hX.2 i hi] at h0 ⊢
          split at h0
          · omega
          · rename_i hh
            rw [if_neg hh]
            have hf : F (leg L i) = true := by
              cases e : F (leg L i) with
              | true => rfl
              | false => exact (hh ⟨by omega, e⟩).elim
            exact ⟨[i], .one hf hi, rfl⟩
        · rw [hX.2 i hi, if_neg (by rw [hf]; simp)]
      have HI := Lib.hid hin
      clear hin HX
      go_wp2_with fail
      go_loopg [8] (mass fewF xs + 1) (fun q more wr => ∃ (mb : Bool) (xs : List Int), more = .bool mb ∧ Ext w wr ∧ Own wr w.heap.size 1 (.slice (some ⟨g, off, none⟩) L.length cap1) (ints xs) ∧ Hid (FewHead L.length (folL c L) (wtL L) (fun i => F (leg L i)) xs mb q))
      case atStart => exact ⟨true, xs, rfl, hx, ho, Lib.hid ⟨HI.out, fun h => by simp at h, by simp⟩⟩
      case round =>
        clear HI hx ho hlt hk
        obtain ⟨mb, xs, rfl, hx, ho, HI⟩ := hrel
        cases mb with
        | false =>
          go_wp2_with fail
          go_ret
          exact ⟨_, xs, rfl, ho, HI.out.inn.done (HI.out.stop rfl), hx⟩
        | true =>
          have hTnr := (hT.ext hx).legs
          have htbr : tb < wr.heap.size := Nat.lt_of_lt_of_le htb hx.size
          go_wp2_with fail
          go_loopw [44, 8] (fun i more wr => ∃ (k : Nat) (mb : Bool) (ys : List Int), k ≤ L.length ∧ i = .int .i64 k ∧ more = .bool mb ∧ Ext w wr ∧ Own wr w.heap.size 1 (.slice (some ⟨g, off, none⟩) L.length cap1) (ints ys) ∧ Hid (FewSweep L.length (folL c L) (wtL L) (fun i => F (leg L i)) xs ys mb k 0)) (fun i _ _ => L.length - (intOf i).toNat)
          case atStart => exact ⟨0, false, xs, by omega, rfl, rfl, hx, ho, Lib.hid (.start HI.out.inn)⟩
          case round =>
            clear hx ho hTnr htbr
            obtain ⟨k, mb, ys, hk, rfl, rfl, hx, ho, HS⟩ := hrel
            by_cases hlt : k < L.length
            · obtain ⟨b, lo, hao, hb, h0, h1, h2, h3, h4⟩ := hL.ext hx k hlt
              subst hao
              have hTnr := (hT.ext hx).legs
              have htbr : tb < wr.heap.size := Nat.lt_of_lt_of_le htb hx.size
              go_wp2_with fail
              have hgq := (ho.lt g rfl).2
              rename World => wq
              go_loopw [54, 8] (fun i more ws => ∃ (j : Nat) (mb : Bool) (ys : List Int), j ≤ L.length ∧ i = .int .i64 j ∧ more = .bool mb ∧ Ext w ws ∧ Own ws w.heap.size 1 (.slice (some ⟨g, off, none⟩) L.length cap1) (ints ys) ∧ LegAt ws wq.heap.size (leg L k) ∧ Hid (FewSweep L.length (folL c L) (wtL L) (fun i => F (leg L i)) xs ys mb k j)) (fun i _ _ => L.length - (intOf i).toNat)
              case atStart => exact ⟨0, mb, ys, by omega, rfl, rfl, hx.alloc _, ho.ext ((Ext.refl _).alloc _), ⟨by simp, by simp [go_sem], by simp [go_sem], by simp [go_sem], by simp [go_sem], by simp [go_sem]⟩, HS⟩
              case round =>
                clear hx ho HS
                obtain ⟨j, mb, ys, hj, rfl, rfl, hx, ho, hA, HS⟩ := hrel
                by_cases hlt2 : j < L.length
                · obtain ⟨b2, lo2, hao2, hbr, h0r, h1r, h2r, h3r, h4r⟩ := hL.ext hx j hlt2
                  simp only [Option.some.injEq, Addr.mk.injEq, and_true] at hao2
                  obtain ⟨rfl, rfl⟩ := hao2
                  have hlen2 := HS.out.inn.length
                  obtain ⟨hbk0, hbk1⟩ := HS.out.inn.bound (wtL_le L) (fun i => (leg L i).Dep) (fine_time hc.1 HF.out) (fine_top HF.out) k hlt
                  obtain ⟨hbj0, hbj1⟩ := HS.out.inn.bound (wtL_le L) (fun i => (leg L i).Dep) (fine_time hc.1 HF.out) (fine_top HF.out) j hlt2
                  obtain ⟨hck, -⟩ := ho.intAt k (by omega)
                  have hgl := (ho.lt g rfl).2
                  have hgb := (ho.lt g rfl).1
                  have hFk := HF.out k hlt
                  have hAt := hA
                  obtain ⟨hAl, hA0, hA1, hA2, hA3, hA4⟩ := hA
                  have hBt := LegAt.boxed wr (leg L j)
                  have hTr := hT.ext hx
                  clear hTnr hTn hTn1 h0 h1 h2 h3 h4
                  cases hd : decide (ith ys k < 0) with
                  | true =>
                    have HD := Lib.hid hd
                    go_wp2_with fail
                    have hxn := hx.alloc (leg L j).box
                    have hon := ho.ext ((Ext.refl _).alloc (leg L j).box)
                    have hAn := hAt.ext ((Ext.refl _).alloc (leg L j).box)
                    have HK := Lib.hid (HS.out.skip (fun h _ => by have := HD.out; simp at this; omega))
                    exact ⟨⟨j + 1, mb, ys, by omega, rfl, rfl, hxn, hon, hAn, Lib.hid HK.out⟩, by simp only [intOf]; omega⟩
                  | false =>
                    go_wp2_with fail
                    refine (follows_calls _ tb 0 (leg L k) (leg L j) c (Nat.lt_of_lt_of_le hTr.lt ((Ext.refl wr).alloc _).size) (hTr.ext ((Ext.refl wr).alloc _)).change (by unfold Fine at hFk; omega) hc).mono ?_
                    rintro e w2 ⟨rfl, hx2⟩
                    have hx2r := ((Ext.refl wr).alloc _).trans hx2
                    have hxn := hx.trans hx2r
                    have hon := ho.ext hx2r
                    have hAn := hAt.ext hx2r
                    have hBn := hBt.ext hx2
                    have hAn' := hAn
                    obtain ⟨hAl2, hA02, hA12, hA22, hA32, hA42⟩ := hAn
                    obtain ⟨hBl2, hB02, hB12, hB22, hB32, hB42⟩ := hBn
                    have hAn := hAn'
                    clear hA0 hA1 hA2 hA3 hA4 hAl hck hAn' hgl
                    obtain ⟨hck, -⟩ := hon.intAt k (by omega)
                    obtain ⟨hcj, hfj⟩ := hon.intAt j (by omega)
                    have hgl := (hon.lt g rfl).2
                    cases hf : folB c (leg L k) (leg L j) with
                    | false =>
                      have Hf := Lib.hid hf
                      clear hf
                      go_wp2_with fail
                      have HK := Lib.hid (HS.out.skip (fun _ h => by unfold folL at h; rw [Hf.out] at h; simp at h))
                      exact ⟨⟨j + 1, mb, ys, by omega, rfl, rfl, hxn, hon, hAn, Lib.hid HK.out⟩, by simp only [intOf]; omega⟩
                    | true =>
                      have Hf := Lib.hid hf
                      have HD := Lib.hid hd
                      clear hf
                      cases hl : ((leg L k).Line != (leg L j).Line) with
                      | true =>
                        have hw : wtL L k j = 1 := by unfold wtL; rw [if_neg (by simpa using hl)]
                        have HW := Lib.hid hw
                        clear hw
                        cases hd2 : decide (ith ys j < 0) with
                        | true =>
                          have HK := Lib.hid (HS.out.relax hlt hlt2 (by have := HD.out; simp at this; omega) hbk1 (wtL_le L k j) (.inl (by simpa using hd2)) Hf.out)
                          rw [HW.out] at HK
                          go_wp2_with fail
                          refine ⟨⟨j + 1, true, ys.set j (ith ys k + 1), by omega, rfl, rfl, hxn.setOwn _ _ hgb, hon.setInt j (by omega) _, hAn.grown (grownBy_setCell _ _ _) (by simp; omega), Lib.hid HK.out⟩, by simp only [intOf]; omega⟩
                        | false =>
                          cases hd3 : decide (ith ys k + 1 < ith ys j) with
                          | true =>
                            have HK := Lib.hid (HS.out.relax hlt hlt2 (by have := HD.out; simp at this; omega) hbk1 (wtL_le L k j) (.inr (by rw [HW.out]; simpa using hd3)) Hf.out)
                            rw [HW.out] at HK
                            go_wp2_with fail
                            refine ⟨⟨j + 1, true, ys.set j (ith ys k + 1), by omega, rfl, rfl, hxn.setOwn _ _ hgb, hon.setInt j (by omega) _, hAn.grown (grownBy_setCell _ _ _) (by simp; omega), Lib.hid HK.out⟩, by simp only [intOf]; omega⟩
                          | false =>
                            have HK := Lib.hid (HS.out.skip (fun _ _ => by rw [HW.out]; simp at hd2 hd3; omega))
                            go_wp2_with fail
                            exact ⟨⟨j + 1, mb, ys, by omega, rfl, rfl, hxn, hon, hAn, Lib.hid HK.out⟩, by simp only [intOf]; omega⟩
                      | false =>
                        have hw : wtL L k j = 0 := by unfold wtL; rw [if_pos (by simpa using hl)]
                        have HW := Lib.hid hw
                        clear hw
                        cases hd2 : decide (ith ys j < 0) with
                        | true =>
                          have HK := Lib.hid (HS.out.relax hlt hlt2 (by have := HD.out; simp at this; omega) hbk1 (wtL_le L k j) (.inl (by simpa using hd2)) Hf.out)
                          rw [HW.out, show ith ys k + ((0 : Nat) : Int) = ith ys k by omega] at HK
                          go_wp2_with fail
                          refine ⟨⟨j + 1, true, ys.set j (ith ys k), by omega, rfl, rfl, hxn.setOwn _ _ hgb, hon.setInt j (by omega) _, hAn.grown (grownBy_setCell _ _ _) (by simp; omega), Lib.hid HK.out⟩, by simp only [intOf]; omega⟩
                        | false =>
                          cases hd3 : decide (ith ys k < ith ys j) with
                          | true =>
                            have HK := Lib.hid (HS.out.relax hlt hlt2 (by have := HD.out; simp at this; omega) hbk1 (wtL_le L k j) (.inr (by rw [HW.out]; simp at hd3; omega)) Hf.out)
                            rw [HW.out, show ith ys k + ((0 : Nat) : Int) = ith ys k by omega] at HK
                            go_wp2_with fail
                            refine ⟨⟨j + 1, true, ys.set j (ith ys k), by omega, rfl, rfl, hxn.setOwn _ _ hgb, hon.setInt j (by omega) _, hAn.grown (grownBy_setCell _ _ _) (by simp; omega), Lib.hid HK.out⟩, by simp only [intOf]; omega⟩
                          | false =>
                            have HK := Lib.hid (HS.out.skip (fun _ _ => by rw [HW.out]; simp at hd2 hd3; omega))
                            go_wp2_with fail
                            exact ⟨⟨j + 1, mb, ys, by omega, rfl, rfl, hxn, hon, hAn, Lib.hid HK.out⟩, by simp only [intOf]; omega⟩
                · obtain rfl : j = L.length := by omega
                  go_wp2_with fail
                  exact ⟨⟨k + 1, mb, ys, by omega, rfl, rfl, hx, ho, Lib.hid HS.out.row⟩, by simp only [intOf]; omega⟩
            · obtain rfl : k = L.length := by omega
              go_wp2_with fail
              have hh := HS.out.head HI.out
              go_roundg (gk - 1)
              case measure => exact hh.2
              case rel => exact ⟨mb, ys, rfl, hx, ho, Lib.hid hh.1⟩
end Go.Proofs.Ytmmjjfjbhogfgaa
