/- steps: the fewest legs to an end; shortest: the first of the shortest journeys. -/
import Derived.Test.YtmmjjfjbhogfgaaFind
import Derived.Test.YtmmjjfjbhogfgaaChain
import Derived.StillTailTactics
namespace Go.Proofs.Ytmmjjfjbhogfgaa
open Go.RowKit
attribute [local go_sem] Leg.val run_store_fn

def folL (c : Int) (L : List Leg) (i j : Nat) : Bool := folB c (leg L i) (leg L j)

theorem fine_time {n c : Int} {L : List Leg} (hc : 0 ≤ c) (hf : ∀ k, k < L.length → Fine n (leg L k)) : ∀ i j, i < L.length → j < L.length → folL c L i j = true → (leg L i).Dep < (leg L j).Dep := by
  intro i j hi hj h
  have h1 := hf i hi
  have h2 := hf j hj
  unfold folL folB at h
  unfold Fine at h1 h2
  simp only [Bool.and_eq_true, decide_eq_true_eq] at h
  obtain ⟨_, h⟩ := h
  split at h <;> simp at h <;> omega
theorem fine_top {n : Int} {L : List Leg} (hf : ∀ k, k < L.length → Fine n (leg L k)) : ∀ i, i < L.length → 0 ≤ (leg L i).Dep ∧ (leg L i).Dep < 10000 := by
  intro i hi
  have h1 := hf i hi
  unfold Fine at h1
  omega

theorem info_int : (Try.prog.info? 3).map (fun i => (i.zero, i.size, i.bytes)) = some (some (.int .i64 0), 1, 8) := by kernel_rfl
theorem info_bool : (Try.prog.info? 4).map (fun i => (i.zero, i.size, i.bytes)) = some (some (.bool false), 1, 1) := by kernel_rfl

def StepsRes (w : World) (m : Nat) (fol : Nat → Nat → Bool) (last : Nat → Bool) (e : Ending) (w' : World) : Prop :=
  ∃ v xs, e = .returned v ∧ Own w' w.heap.size 1 v (ints xs) ∧ Steps m fol last xs ∧ Ext w w'

set_option maxRecDepth 100000 in
set_option maxHeartbeats 8000000 in
theorem steps_calls (w : World) (tb : Nat) (n : Int) (ao : Option Addr) (cap : Nat) (L : List Leg) (c : Int) (f : FuncId) (caps : Array Value) (G : Leg → Prop) (F : Leg → Bool)
    (hT : TableIn w tb n ao L.length cap c) (hL : LegsIn w ao L) (hlen : L.length ≤ 100) (hp : Pred w f caps G F) (hG : ∀ k, k < L.length → G (leg L k)) (hc : 0 ≤ c ∧ c ≤ 101) (hfine : ∀ k, k < L.length → Fine n (leg L k)) :
    Calls Try.prog 58 #[.pointer (some ⟨tb, 0, none⟩), .func (.func f) #[] caps] w (StepsRes w L.length (folL c L) (fun i => F (leg L i))) := by
  have HG := Lib.hid hG
  have HF := Lib.hid hfine
  clear hG hfine
  have hent := hp.enter
  have hTn := hT.legs
  have htb := hT.lt
  obtain ⟨i0, hi, hz0, hz1, hz2⟩ := info_parts info_int
  go_enter Try.func58, Try.ntmps58
  go_wp2_with (at_make; refine wpList_make_Own _ rfl _ _ 25 rfl 3 i0 (.int .i64 0) Try.underlying25 hi hz0 hz1 rfl _ _ L.length rfl rfl rfl rfl (by rw [hz2]; omega) (by unfold maxLen; omega) ?_; intro g off cap1 w1 ho1 hx1; have hTn1 := (hT.ext hx1).legs)
  have htb1 := hx1.size
  go_loopw [24] (fun i wr => ∃ (k : Nat) (xs : List Int), k ≤ L.length ∧ i = .int .i64 k ∧ Ext w wr ∧ Own wr w.heap.size 1 (.slice (some ⟨g, off, none⟩) L.length cap1) (ints xs) ∧ Hid (xs.length = L.length ∧ ∀ j, j < L.length → ith xs j = if j < k ∧ F (leg L j) = true then 1 else 0)) (fun i _ => L.length - (intOf i).toNat)
  case atStart =>
    refine ⟨0, List.replicate L.length 0, by omega, rfl, hx1, by simpa [ints] using ho1, Lib.hid ⟨by simp, fun j hj => ?_⟩⟩
    simp [ith, hj]
  case round =>
    obtain ⟨k, xs, hk, rfl, hx, ho, HX⟩ := hrel
    by_cases hlt : k < L.length
    · obtain ⟨b, lo, hao, hb, h0, h1, h2, h3, h4⟩ := hL.ext hx k hlt
      subst hao
      go_wp2_with fail
      refine (hp.call _ (leg L k) (hx.alloc _) (HG.out k hlt)).mono ?_
      rintro e w2 ⟨rfl, hx2⟩
      have hx3 := (hx.alloc _).trans hx2
      have ho3 := ho.ext (((Ext.refl _).alloc _).trans hx2)
      have hX := HX.out
      have hc3 := ho3.intAt k (by omega)
      obtain ⟨hc31, hc32⟩ := hc3
      have hg3 := ho3.lt g rfl
      clear hX
      cases hFk : F (leg L k) with
      | true =>
        have HFk := Lib.hid hFk
        clear hFk
        go_wp2_with fail
        have hX := HX.out
        refine ⟨⟨k + 1, xs.set k 1, by omega, rfl, hx3.setOwn _ _ (by simp; omega), ho3.setInt k (by omega) 1, Lib.hid ⟨by simpa using hX.1, fun j hj => ?_⟩⟩, by simp only [intOf]; omega⟩
        rw [ith_set _ _ _ _ (by omega)]
        by_cases e : j = k
        · subst e; rw [if_pos rfl, if_pos ⟨by omega, HFk.out⟩]
        · rw [if_neg e, hX.2 j hj]
          have : j < k + 1 ↔ j < k := by omega
          simp only [this]
      | false =>
        have HFk := Lib.hid hFk
        clear hFk
        go_wp2_with fail
        have hX := HX.out
        refine ⟨⟨k + 1, xs, by omega, rfl, hx3, ho3, Lib.hid ⟨hX.1, fun j hj => ?_⟩⟩, by simp only [intOf]; omega⟩
        rw [hX.2 j hj]
        by_cases e : j = k
        · subst e; rw [if_neg (by omega), if_neg (by rw [HFk.out]; simp)]
        · have : j < k + 1 ↔ j < k := by omega
          simp only [this]
    · have hin : StepsIn L.length (folL c L) (fun i => F (leg L i)) xs := by
        have hX := HX.out
        refine ⟨hX.1, fun i hi => ?_, fun i hi h0 => ?_, fun i hi hf => ?_⟩
        · rw [hX.2 i hi]; split <;> omega
        · rw [hX.2 i hi] at h0 ⊢
          split at h0
          · rename_i hh
            rw [if_pos hh]
            exact ⟨[], .one hi hh.2, rfl⟩
          · omega
        · rw [hX.2 i hi, if_pos ⟨by omega, hf⟩]
      have HI := Lib.hid hin
      clear hin HX
      go_wp2_with fail
      go_loopg [8] (mass stepsF xs + 1) (fun q more wr => ∃ (mb : Bool) (xs : List Int), more = .bool mb ∧ Ext w wr ∧ Own wr w.heap.size 1 (.slice (some ⟨g, off, none⟩) L.length cap1) (ints xs) ∧ Hid (StepsHead L.length (folL c L) (fun i => F (leg L i)) xs mb q))
      case atStart => exact ⟨true, xs, rfl, hx, ho, Lib.hid ⟨HI.out, fun h => by simp at h, by simp⟩⟩
      case round =>
        clear HI hx ho hlt hk
        obtain ⟨mb, xs, rfl, hx, ho, HI⟩ := hrel
        cases mb with
        | false =>
          go_wp2_with fail
          go_ret
          exact ⟨_, xs, rfl, ho, HI.out.inn.done (HI.out.stop rfl), hx⟩
        | true =>
          have hTnr := (hT.ext hx).legs
          have htbr : tb < wr.heap.size := Nat.lt_of_lt_of_le htb hx.size
          go_wp2_with fail
          go_loopw [42, 8] (fun i more wr => ∃ (k : Nat) (mb : Bool) (ys : List Int), k ≤ L.length ∧ i = .int .i64 k ∧ more = .bool mb ∧ Ext w wr ∧ Own wr w.heap.size 1 (.slice (some ⟨g, off, none⟩) L.length cap1) (ints ys) ∧ Hid (Sweep L.length (folL c L) (fun i => F (leg L i)) xs ys mb k 0)) (fun i _ _ => L.length - (intOf i).toNat)
          case atStart => exact ⟨0, false, xs, by omega, rfl, rfl, hx, ho, Lib.hid (.start HI.out.inn)⟩
          case round =>
            clear hx ho hTnr htbr
            obtain ⟨k, mb, ys, hk, rfl, rfl, hx, ho, HS⟩ := hrel
            by_cases hlt : k < L.length
            · obtain ⟨b, lo, hao, hb, h0, h1, h2, h3, h4⟩ := hL.ext hx k hlt
              subst hao
              have hTnr := (hT.ext hx).legs
              have htbr : tb < wr.heap.size := Nat.lt_of_lt_of_le htb hx.size
              go_wp2_with fail
              have hgq := (ho.lt g rfl).2
              rename World => wq
              go_loopw [52, 8] (fun i more ws => ∃ (j : Nat) (mb : Bool) (ys : List Int), j ≤ L.length ∧ i = .int .i64 j ∧ more = .bool mb ∧ Ext w ws ∧ Own ws w.heap.size 1 (.slice (some ⟨g, off, none⟩) L.length cap1) (ints ys) ∧ LegAt ws wq.heap.size (leg L k) ∧ Hid (Sweep L.length (folL c L) (fun i => F (leg L i)) xs ys mb k j)) (fun i _ _ => L.length - (intOf i).toNat)
              case atStart => exact ⟨0, mb, ys, by omega, rfl, rfl, hx.alloc _, ho.ext ((Ext.refl _).alloc _), ⟨by simp, by simp [go_sem], by simp [go_sem], by simp [go_sem], by simp [go_sem], by simp [go_sem]⟩, HS⟩
              case round =>
                clear hx ho HS
                obtain ⟨j, mb, ys, hj, rfl, rfl, hx, ho, hA, HS⟩ := hrel
                by_cases hlt2 : j < L.length
                · obtain ⟨b2, lo2, hao2, hbr, h0r, h1r, h2r, h3r, h4r⟩ := hL.ext hx j hlt2
                  simp only [Option.some.injEq, Addr.mk.injEq, and_true] at hao2
                  obtain ⟨rfl, rfl⟩ := hao2
                  have hlen2 := HS.out.inn.length
                  obtain ⟨hbj0, hbj1⟩ := HS.out.inn.bound (fun i => (leg L i).Dep) (fine_time hc.1 HF.out) (fine_top HF.out) j hlt2
                  obtain ⟨hbk0, hbk1⟩ := HS.out.inn.bound (fun i => (leg L i).Dep) (fine_time hc.1 HF.out) (fine_top HF.out) k hlt
                  have hT2 := hT.ext hx
                  have hFj := HF.out j hlt2
                  have hFk := HF.out k hlt
                  go_wp2_with fail
                  refine wp_region_boxed (b := leg L j) (by kernel_rfl) (by kernel_rfl) ?_
                  intro w0 hne hx0 hB
                  have hxw := hx.trans hx0
                  have hA0 := hA.ext hx0
                  have ho0 := ho.ext hx0
                  have hgl := (ho0.lt g rfl).2
                  have hAs := hA0.after
                  have hBs := hB.after
                  have hcj := After.cell (ho0.intAt j (by omega)).1 hgl
                  have hck := After.cell (ho0.intAt k (by omega)).1 hgl
                  have hTc := hT2.ext hx0
                  clear hTnr hTn hTn1 h0 h1 h2 h3 h4 h0r h1r h2r h3r h4r hx hA ho hT2
                  cases hd : decide (0 < ith ys j) with
                  | false =>
                    repeat (go_big_quiet_step (fail))
                    refine wpQuiet_nil ?_
                    intro w3 hx3
                    have HD := Lib.hid hd
                    clear hd
                    go_wp2_with fail
                    refine ⟨⟨j + 1, mb, ys, by omega, rfl, rfl, hxw.trans hx3, ho0.ext hx3, hA0.ext hx3, Lib.hid (HS.out.skip fun h _ => ?_)⟩, by simp only [intOf]; omega⟩
                    have := HD.out
                    simp at this; omega
                  | true =>
                    cases hd2 : (ith ys k == 0) with
                    | true =>
                      repeat (go_big_quiet_step ((go_at_call 55; exact Calls.after (follows_calls _ tb 0 (leg L k) (leg L j) c (Nat.lt_of_lt_of_le hTc.lt (After.ext _).size) (hTc.ext (After.ext _)).change (by unfold Fine at hFk; omega) hc))))
                      have HD : Hid (0 < ith ys j ∧ (ith ys k = 0 ∨ ith ys j + 1 < ith ys k)) := Lib.hid ⟨by simpa using hd, .inl (by simpa using hd2)⟩
                      clear hd hd2
                      refine wpQuiet_nil ?_
                      intro w3 hx3
                      have ho3 := ho0.ext hx3
                      have hA3 := hA0.ext hx3
                      have hxw3 := hxw.trans hx3
                      obtain ⟨hcj3, -⟩ := ho3.intAt j (by omega)
                      obtain ⟨hck3, hfk3⟩ := ho3.intAt k (by omega)
                      have hgl3 := (ho3.lt g rfl).2
                      have hgb := (ho3.lt g rfl).1
                      cases hf : folB c (leg L k) (leg L j) with
                      | false =>
                        have Hf := Lib.hid hf
                        clear hf
                        go_wp2_with fail
                        refine ⟨⟨j + 1, mb, ys, by omega, rfl, rfl, hxw3, ho3, hA3, Lib.hid (HS.out.skip fun _ h => ?_)⟩, by simp only [intOf]; omega⟩
                        unfold folL at h
                        rw [Hf.out] at h
                        simp at h
                      | true =>
                        have Hf := Lib.hid hf
                        clear hf
                        go_wp2_with fail
                        refine ⟨⟨j + 1, true, ys.set k (ith ys j + 1), by omega, rfl, rfl, hxw3.setOwn _ _ hgb, ho3.setInt k (by omega) _, hA3.grown (grownBy_setCell _ _ _) (by simp; omega), Lib.hid (HS.out.relax hlt hlt2 HD.out.1 hbj1 HD.out.2 Hf.out)⟩, by simp only [intOf]; omega⟩
                    | false =>
                      cases hd3 : decide (ith ys j + 1 < ith ys k) with
                      | false =>
                        repeat (go_big_quiet_step (fail))
                        refine wpQuiet_nil ?_
                        intro w3 hx3
                        have HD := Lib.hid (And.intro hd (And.intro hd2 hd3))
                        clear hd hd2 hd3
                        go_wp2_with fail
                        refine ⟨⟨j + 1, mb, ys, by omega, rfl, rfl, hxw.trans hx3, ho0.ext hx3, hA0.ext hx3, Lib.hid (HS.out.skip fun h _ => ?_)⟩, by simp only [intOf]; omega⟩
                        have := HD.out
                        simp at this; omega
                      | true =>
                        repeat (go_big_quiet_step ((go_at_call 55; exact Calls.after (follows_calls _ tb 0 (leg L k) (leg L j) c (Nat.lt_of_lt_of_le hTc.lt (After.ext _).size) (hTc.ext (After.ext _)).change (by unfold Fine at hFk; omega) hc))))
                        have HD : Hid (0 < ith ys j ∧ (ith ys k = 0 ∨ ith ys j + 1 < ith ys k)) := Lib.hid ⟨by simpa using hd, .inr (by simpa using hd3)⟩
                        clear hd hd2 hd3
                        refine wpQuiet_nil ?_
                        intro w3 hx3
                        have ho3 := ho0.ext hx3
                        have hA3 := hA0.ext hx3
                        have hxw3 := hxw.trans hx3
                        obtain ⟨hcj3, -⟩ := ho3.intAt j (by omega)
                        obtain ⟨hck3, hfk3⟩ := ho3.intAt k (by omega)
                        have hgl3 := (ho3.lt g rfl).2
                        have hgb := (ho3.lt g rfl).1
                        cases hf : folB c (leg L k) (leg L j) with
                        | false =>
                          have Hf := Lib.hid hf
                          clear hf
                          go_wp2_with fail
                          refine ⟨⟨j + 1, mb, ys, by omega, rfl, rfl, hxw3, ho3, hA3, Lib.hid (HS.out.skip fun _ h => ?_)⟩, by simp only [intOf]; omega⟩
                          unfold folL at h
                          rw [Hf.out] at h
                          simp at h
                        | true =>
                          have Hf := Lib.hid hf
                          clear hf
                          go_wp2_with fail
                          refine ⟨⟨j + 1, true, ys.set k (ith ys j + 1), by omega, rfl, rfl, hxw3.setOwn _ _ hgb, ho3.setInt k (by omega) _, hA3.grown (grownBy_setCell _ _ _) (by simp; omega), Lib.hid (HS.out.relax hlt hlt2 HD.out.1 hbj1 HD.out.2 Hf.out)⟩, by simp only [intOf]; omega⟩
                · obtain rfl : j = L.length := by omega
                  go_wp2_with fail
                  exact ⟨⟨k + 1, mb, ys, by omega, rfl, rfl, hx, ho, Lib.hid HS.out.row⟩, by simp only [intOf]; omega⟩
            · obtain rfl : k = L.length := by omega
              go_wp2_with fail
              have hh := HS.out.head HI.out
              go_roundg (gk - 1)
              case measure => exact hh.2
              case rel => exact ⟨mb, ys, rfl, hx, ho, Lib.hid hh.1⟩
end Go.Proofs.Ytmmjjfjbhogfgaa
