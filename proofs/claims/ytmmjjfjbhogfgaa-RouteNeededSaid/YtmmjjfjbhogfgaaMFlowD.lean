/- more and most of the program's net. -/
import Derived.Test.YtmmjjfjbhogfgaaMFlowB
import Derived.Test.YtmmjjfjbhogfgaaMFlowA
namespace Go.Proofs.Ytmmjjfjbhogfgaa
open Go.RowKit
attribute [local go_sem] Leg.val run_store_fn

theorem replicate_zero (n : Nat) : ints (List.replicate n (0 : Int)) = List.replicate n (.int .i64 0) := by simp [ints]
/-- The first loop: all are -1. -/
def Minus (n k : Nat) (xs : List Int) : Prop := xs.length = n ∧ ∀ j, j < k → j < n → ith xs j = -1
theorem Minus.done {n : Nat} {xs : List Int} (h : Minus n n xs) : xs = List.replicate n (-1) := by
  refine List.ext_getElem (by simpa using h.1) (fun i h1 h2 => ?_)
  have := h.2 i (by have := h.1; omega) (by have := h.1; omega)
  simp [ith, h1] at this
  simpa using this
theorem own_one (w : World) (x : Value) (t : TypeId) : Own (w.alloc (.cells #[x] t)) w.heap.size 1 (.slice (some ⟨w.heap.size, 0, none⟩) 1 1) [x] := by
  refine ⟨1, rfl, .inr ⟨w.heap.size, 0, 1, rfl, Nat.le_refl _, by simp, Nat.le_refl _, by unfold maxLen; omega, fun j hj => ?_, fun j hj => ?_⟩⟩
  · obtain rfl : j = 0 := by omega
    simp [go_sem]
  · obtain rfl : j = 0 := by omega
    simp [go_sem]
theorem ho_int {w : World} {base b off n cap : Nat} {xs : List Int} (h : Own w base 1 (.slice (some ⟨b, off, none⟩) n cap) (ints xs)) {k : Nat} (hk : k < xs.length) {u : Int} (hu : ith xs k = u) : w.cell? ⟨b, off + k, none⟩ = some (.int .i64 u) := by
  rw [← hu]
  exact (h.intAt k hk).1
def FlowMoreRes (w0 : World) (fb g off gcap n : Nat) (rb : Nat → Nat) (M : Nat → Nat → Int) (e : Ending) (w' : World) : Prop :=
  (e = .returned (.bool false) ∧ Net w' w0.heap.size fb g off gcap n rb M ∧ Stuck n (fun u v => 0 < M u v) ∧ Ext w0 w') ∨
  ∃ M' rk, e = .returned (.bool true) ∧ Net w' w0.heap.size fb g off gcap n rb M' ∧ Aug n M rk 0 M' ∧ Ext w0 w'

set_option maxRecDepth 100000 in
set_option maxHeartbeats 16000000 in
theorem flowMore_calls (w0 w : World) (fb g off gcap n : Nat) (rb : Nat → Nat) (M : Nat → Nat → Int) (hx0 : Ext w0 w) (hN : Net w w0.heap.size fb g off gcap n rb M) (hn : n ≤ 1000) (hn2 : 2 ≤ n) (hM : ∀ u v, 0 ≤ M u v) (hM2 : ∀ u v, M u v + M v u ≤ 2) :
    Calls Try.prog 91 #[.pointer (some ⟨fb, 0, none⟩)] w (FlowMoreRes w0 fb g off gcap n rb M) := by
  have HM := Lib.hid hM
  have HM2 := Lib.hid hM2
  clear hM hM2
  obtain ⟨i0, hi, hz0, hz1, hz2⟩ := info_parts info_int
  have hbc := hN.boxCell
  have hbl := hN.box.2
  go_enter Try.func91, Try.ntmps91
  go_wp2_with (at_make; refine wpList_make_Own _ rfl _ _ 25 rfl 3 i0 (.int .i64 0) Try.underlying25 hi hz0 hz1 rfl _ _ n rfl rfl rfl rfl (by rw [hz2]; omega) (by unfold maxLen; omega) ?_; intro bk boff bcap w1 ho1 hx1)
  rw [← replicate_zero] at ho1
  have hbk1 := ho1.lt bk rfl
  go_loopw [17] (fun i ws => ∃ (k : Nat) (xs : List Int), k ≤ n ∧ i = .int .i64 k ∧ Ext w ws ∧ Own ws w.heap.size 1 (.slice (some ⟨bk, boff, none⟩) n bcap) (ints xs) ∧ Hid (Minus n k xs)) (fun i _ => n - (intOf i).toNat)
  case atStart => exact ⟨0, _, by omega, rfl, hx1, ho1, Lib.hid ⟨by simp, fun j hj => by omega⟩⟩
  case round =>
    obtain ⟨k, xs, hk, rfl, hx, ho, HX⟩ := hrel
    have hxl := HX.out.1
    by_cases hlt : k < n
    · have hck := ho.intAt k (by omega)
      have hst := ho.setInt k (by omega) (-1)
      have hgl := (ho.lt bk rfl).1
      go_wp2_with fail
      refine ⟨⟨k + 1, _, by omega, rfl, hx.setOwn _ _ hgl, hst, Lib.hid ⟨by simpa using hxl, fun j hj hjn => ?_⟩⟩, by simp only [intOf]; omega⟩
      rw [ith_set _ _ _ _ (by omega)]
      split
      · rfl
      · exact HX.out.2 j (by omega) hjn
    · obtain rfl : n = k := by omega
      have hxs := HX.out.done
      subst hxs
      clear HX
      have hck := ho.intAt 0 (by simp; omega)
      rw [Nat.add_zero] at hck
      have hst := ho.setInt 0 (by simp; omega) 0
      rw [Nat.add_zero] at hst
      have hgl := ho.lt bk rfl
      have hnp : (0 : Int) < (n : Int) := by omega
      go_wp2_with fail
      have hx2 := hx.setOwn ⟨bk, boff, none⟩ (.int .i64 0) hgl.1
      obtain ⟨W, hW⟩ : ∃ W, W = (wr.setCell ⟨bk, boff, none⟩ (.int .i64 0)).heap.size := ⟨_, rfl⟩
      have hs2 : (wr.setCell ⟨bk, boff, none⟩ (.int .i64 0)).heap.size = wr.heap.size := by simp [World.setCell]
      have hx3 := hx2.alloc (.cells #[.int .i64 0] 3)
      have ho3 := hst.ext ((Ext.refl _).alloc (.cells #[.int .i64 0] 3))
      have hoo3 : Own ((wr.setCell ⟨bk, boff, none⟩ (.int .i64 0)).alloc (.cells #[.int .i64 0] 3)) W 1 (.slice (some ⟨W, 0, none⟩) 1 1) (ints (nats [0])) := by
        have := own_one (wr.setCell ⟨bk, boff, none⟩ (.int .i64 0)) (.int .i64 0) 3
        rw [← hW] at this
        exact this
      have hs3 : ((wr.setCell ⟨bk, boff, none⟩ (.int .i64 0)).alloc (.cells #[.int .i64 0] 3)).heap.size = W + 1 := by rw [hW]; simp
      have hbW : bk < W := by rw [hW, hs2]; exact hgl.2
      rw [← hs2, ← hW]
      generalize (wr.setCell ⟨bk, boff, none⟩ (.int .i64 0)).alloc (.cells #[.int .i64 0] 3) = w3 at *
      clear hck hst hgl hx2 hx ho ho1 hx1 hxl hlt hk hs2 hW
      go_loopg [5] n (fun q todo ws => ∃ (bs : List Int) (o : List Nat), Ext w ws ∧ W ≤ ws.heap.size ∧ Own ws w.heap.size 1 (.slice (some ⟨bk, boff, none⟩) n bcap) (ints bs) ∧ Own ws W 1 todo (ints (nats o)) ∧ Hid (QueueB n (fun u v => 0 < M u v) bs o q))
      case atStart => exact ⟨_, [0], hx3, by omega, ho3, hoo3, Lib.hid (Bfs.start (by omega))⟩
      case round =>
        obtain ⟨bs, o, hx, hWr, ho, hoo, HQ⟩ := hrel
        have hbsl := HQ.out.inn.len
        obtain ⟨to_, tcap, rfl, htin, htb2⟩ := hoo.intsShape
        have hNr := hN.ext hx
        cases o with
        | nil =>
          have hb1 := ho.intAt 1 (by omega)
          have hn1 : (1 : Int) < (n : Int) := by omega
          cases hd : decide (ith bs 1 < 0) with
          | true =>
            have HST := Lib.hid (HQ.out.stuck (by simpa using hd))
            go_wp2_with fail
            go_ret
            exact .inl ⟨rfl, hNr, HST.out, hx0.trans hx⟩
          | false =>
            have h1r : 0 ≤ ith bs 1 := by simp at hd; omega
            obtain ⟨rk, hrk⟩ := HQ.out.inn.tree
            have HT := Lib.hid hrk
            clear hrk
            go_wp2_with fail
            have hx0r := hx0.trans hx
            go_loopg [8] (rk 1) (fun q at_ ws => ∃ (x : Nat) (M' : Nat → Nat → Int), at_ = .int .i64 x ∧ x < n ∧ 0 ≤ ith bs x ∧ rk x = q ∧ Ext w0 ws ∧ Own ws w.heap.size 1 (.slice (some ⟨bk, boff, none⟩) n bcap) (ints bs) ∧ Net ws w0.heap.size fb g off gcap n rb M' ∧ Hid (Aug n M rk x M'))
            case atStart => exact ⟨1, M, rfl, by omega, h1r, rfl, hx0r, ho, hNr, Lib.hid (Aug.start HM.out)⟩
            case round =>
              clear hb1 hNr ho hoo hx hx0r htin
              obtain ⟨x, M', rfl, hxn, hxr, hq, hx, ho, hNr, HA⟩ := hrel
              by_cases hx0' : x = 0
              · subst hx0'
                go_wp2_with fail
                go_ret
                exact .inr ⟨M', rk, rfl, hNr, HA.out, hx⟩
              · obtain ⟨p, hpn, hpe, hpr, hpp, hlt⟩ := HT.out x hxn hx0' hxr
                have hbx := ho.intAt x (by omega)
                rw [hpe] at hbx
                obtain ⟨hbx, -⟩ := hbx
                have hbc := hNr.boxCell
                have hbl := hNr.box.2
                have htl := hNr.top
                have htp := hNr.topCell p hpn
                have htx := hNr.topCell x hxn
                have hcp := hNr.rows.cell p x hpn hxn
                have hlp := hNr.rows.low p hpn
                have hlx := hNr.rows.low x hxn
                have hva := HA.out.anti p x
                have hv2 := HM2.out p x
                have hvp := HA.out.nonneg p x
                have hvx := HA.out.nonneg x p
                obtain ⟨hcp1, hcp2⟩ := hcp
                go_wp2_with fail
                go_region
                all_goals
                  have hNs := hNr.set hpn hxn (M' p x - 1)
                  have hos := ho.keep (grownBy_setCell wr ⟨rb p, x, none⟩ (.int .i64 (M' p x - 1))) (by
                    right
                    have := ho.lt bk rfl
                    have := hN.rows.low p hpn
                    simp [Value.ownBlock]
                    omega)
                  have hxs := (hx.setOwn ⟨rb p, x, none⟩ (.int .i64 (M' p x - 1)) hlp.1).drew
                  replace hNs := hNs.ext ((Ext.refl _).drew)
                  replace hos := hos.ext ((Ext.refl _).drew)
                  clear hbc hbl htl htp htx hcp1 hcp2 hlp hlx hbx hNr ho hx
                  generalize (wr.setCell ⟨rb p, x, none⟩ (.int .i64 (M' p x - 1))).drew = ws at *
                  have hbx := ho_int hos (k := x) (by omega) hpe
                  have hbc := hNs.boxCell
                  have hbl := hNs.box.2
                  have htl := hNs.top
                  have htp := hNs.topCell p hpn
                  have htx := hNs.topCell x hxn
                  have hne : p ≠ x := by rintro rfl; omega
                  obtain ⟨hcp1, hcp2⟩ := hNs.rows.cell x p hxn hpn
                  simp only [if_neg (show ¬ (x = p ∧ p = x) from fun h => hne h.2)] at hcp1
                  have hlx := hNs.rows.low x hxn
                  go_wp2_with fail
                  go_region
                all_goals
                  have hNt := hNs.set hxn hpn (M' x p + 1)
                  have hot := hos.keep (grownBy_setCell ws ⟨rb x, p, none⟩ (.int .i64 (M' x p + 1))) (by
                    right
                    have := hos.lt bk rfl
                    have := hN.rows.low x hxn
                    simp [Value.ownBlock]
                    omega)
                  have hxt := (hxs.setOwn ⟨rb x, p, none⟩ (.int .i64 (M' x p + 1)) hlx.1).drew
                  replace hNt := hNt.ext ((Ext.refl _).drew)
                  replace hot := hot.ext ((Ext.refl _).drew)
                  clear hbc hbl htl htp htx hcp1 hcp2 hlx hbx hNs hos hxs
                  generalize (ws.setCell ⟨rb x, p, none⟩ (.int .i64 (M' x p + 1))).drew = wt at *
                  have hbx := ho_int hot (k := x) (by omega) hpe
                  have HA2 := Lib.hid (HA.out.step hxn hpn hpp hlt)
                  go_wp2_with fail
                  go_roundg (rk p)
                  case measure => omega
                  case rel => exact ⟨p, _, rfl, hpn, hpr, rfl, hxt, hot, hNt, Lib.hid HA2.out⟩
        | cons a o =>
          have haq := HQ.out.inn.queued a (by simp)
          have ham := haq.1
          clear haq
          obtain ⟨tg, toff, rfl, htg, hta⟩ := htin 0 (by simp [nats])
          have hta' : ith (nats (a :: o)) 0 = (a : Int) := by simp [ith, nats]
          rw [hta', Nat.add_zero] at hta
          simp only [nats_length, List.length_cons] at hoo ⊢
          have hbA := After.cell hNr.boxCell hNr.box.2
          have htA := After.cell (hNr.topCell a ham) hNr.top
          have htoA := After.cell hta htg
          go_wp2_with fail
          refine wp_region_after (by kernel_rfl) (by kernel_rfl) ?_
          intro hne
          repeat (go_big_quiet_step (fail))
          refine wpQuiet_nil ?_
          intro w4 hx4
          have hxr4 := hx.trans hx4
          have ho4 := ho.ext hx4
          have hoo4 := hoo.ext hx4
          have hs4 := hx4.size
          clear hbA htA htoA hta htin
          go_wp2_with fail
          go_loopw [42, 5] (fun i todo ws => ∃ (j : Nat) (bs : List Int) (o : List Nat), j ≤ n ∧ i = .int .i64 j ∧ Ext w ws ∧ W ≤ ws.heap.size ∧ Own ws w.heap.size 1 (.slice (some ⟨bk, boff, none⟩) n bcap) (ints bs) ∧ Own ws W 1 todo (ints (nats (a :: o))) ∧ Hid (PopB n (fun u v => 0 < M u v) bs a o j gk)) (fun i _ _ => n - (intOf i).toNat)
          case atStart => exact ⟨0, bs, o, by omega, rfl, hxr4, by omega, ho4, by simpa [nats_length] using hoo4, Lib.hid HQ.out.pop⟩
          case round =>
            clear HQ hx hWr ho hoo htg htb2 hNr hxr4 ho4 hoo4 hbsl
            obtain ⟨j, bs, o, hj2, rfl, hx, hWr, ho, hoo, HP⟩ := hrel
            have hbsl := HP.out.inn.len
            have hsum := HP.out.sum
            have htop := HP.out.top
            have hNr := hN.ext hx
            obtain ⟨to_, tcap, rfl, htin, htb2⟩ := hoo.intsShape
            obtain ⟨tg, toff, rfl, htg, hta⟩ := htin 0 (by simp [nats])
            have hta' : ith (nats (a :: o)) 0 = (a : Int) := by simp [ith, nats]
            rw [hta', Nat.add_zero] at hta
            simp only [nats_length, List.length_cons] at hoo ⊢
            by_cases hlt : j < n
            · have hcr := (hNr.rows.cell a j ham hlt).1
              have hlr := (hNr.rows.low a ham).2
              obtain ⟨hbj, hfj⟩ := ho.intAt j (by omega)
              have hgb := ho.lt bk rfl
              cases h1 : decide (0 < M a j) with
              | false =>
                have HK := Lib.hid (HP.out.skip (fun h => by simp at h1; omega))
                go_wp2_with fail
                exact ⟨⟨j + 1, bs, o, by omega, rfl, hx, by omega, ho, by simpa [nats_length] using hoo, Lib.hid HK.out⟩, by simp only [intOf]; omega⟩
              | true =>
                cases h2 : decide (ith bs j < 0) with
                | false =>
                  have HK := Lib.hid (HP.out.skip (fun _ => by simp at h2; omega))
                  go_wp2_with fail
                  exact ⟨⟨j + 1, bs, o, by omega, rfl, hx, by omega, ho, by simpa [nats_length] using hoo, Lib.hid HK.out⟩, by simp only [intOf]; omega⟩
                | true =>
                  have HK := Lib.hid (HP.out.add hlt (by simpa using h1) (by simpa using h2))
                  have hst := ho.setInt j (by omega) (a : Int)
                  have hg4 := grownBy_setCell wr ⟨bk, boff + j, none⟩ (.int .i64 (a : Int))
                  have hoo4 := hoo.keep hg4 (by right; intro e; have := (hoo.lt bk e).1; omega)
                  have hx4 := hx.setOwn ⟨bk, boff + j, none⟩ (.int .i64 (a : Int)) hgb.1
                  have hs5 := hg4.size
                  go_wp2_with (at_builtin; refine wpList_append_Own _ rfl _ _ 25 rfl 3 i0 (.int .i64 0) 1 8 Try.underlying25 hi hz0 hz1 hz2 rfl (by omega) W _ _ rfl (Own.ext hoo4 ((Ext.refl _).alloc _)) (by simp; omega) _ 1 1 [.int .i64 (j : Int)] rfl rfl (one_cell _ _ _ _ (by simp [World.setCell])) (by simp [Value.oneCell']) (by simp [ints_length, nats_length]; unfold maxLen; omega) (by simp [ints_length, nats_length]; omega) ?_; intro v' w5 ho5 hg5 hb5)
                  have hx5 : Ext w w5 := (hx4.alloc _).onto hg5 (fun k hk => by have := (hoo4.lt k hk).1; omega)
                  have hor5 := (Own.ext hst ((Ext.refl _).alloc _)).keep hg5 (by
                    right
                    intro e
                    have := (hoo4.lt bk e.symm).1
                    omega)
                  have hs6 := hg5.size
                  simp only [World.size_alloc] at hs6
                  rw [show ints (nats (a :: o)) ++ [Value.int .i64 (j : Int)] = ints (nats (a :: (o ++ [j]))) by simp [ints, nats]] at ho5
                  exact ⟨⟨j + 1, _, o ++ [j], by omega, rfl, hx5, by omega, hor5, ho5, Lib.hid HK.out⟩, by simp only [intOf]; omega⟩
            · obtain rfl : n = j := by omega
              have hh := HP.out.end_
              simp only [ints, nats, List.map_cons] at hoo
              go_wp2_with fail
              · go_roundg (gk - 1)
                case measure => exact hh.2
                case rel => exact ⟨bs, o, hx, hWr, ho, hoo.tail0 (by omega), Lib.hid hh.1⟩
              · go_roundg (gk - 1)
                case measure => exact hh.2
                case rel => exact ⟨bs, o, hx, hWr, ho, hoo.tail, Lib.hid hh.1⟩
end Go.Proofs.Ytmmjjfjbhogfgaa

/- Apart of the program. -/
namespace Go.Proofs.Ytmmjjfjbhogfgaa
open Go.RowKit
attribute [local go_sem] Leg.val run_store_fn

/-- The greatest flow: nothing more can be let through. -/
def MostOf (n : Nat) (c : Nat → Nat → Int) (k : Int) : Prop := ∃ M, Flowed n c M k ∧ Stuck n (fun u v => 0 < M u v)
def MostRes (w0 : World) (n : Nat) (c : Nat → Nat → Int) (e : Ending) (w' : World) : Prop :=
  ∃ k : Nat, e = .returned (.int .i64 k) ∧ MostOf n c k ∧ Ext w0 w'
set_option maxRecDepth 100000 in
set_option maxHeartbeats 4000000 in
theorem most_calls (w0 w : World) (fb g off gcap n : Nat) (rb : Nat → Nat) (c : Nat → Nat → Int) (hx0 : Ext w0 w) (hN : Net w w0.heap.size fb g off gcap n rb c) (hn : n ≤ 1000) (hn2 : 2 ≤ n) (hc : ∀ u v, 0 ≤ c u v) (hc2 : ∀ u v, c u v + c v u ≤ 2) (hK : mass0 n c ≤ 100000) :
    Calls Try.prog 66 #[.pointer (some ⟨fb, 0, none⟩)] w (MostRes w0 n c) := by
  have HC2 := Lib.hid hc2
  have HC := Lib.hid hc
  clear hc2 hc
  go_enter Try.func66, Try.ntmps66
  go_wp2_with fail
  go_loopg [3] (mass0 n c) (fun q cnt ws => ∃ (kn : Nat) (M : Nat → Nat → Int), cnt = .int .i64 kn ∧ Ext w0 ws ∧ Net ws w0.heap.size fb g off gcap n rb M ∧ kn + q ≤ mass0 n c ∧ mass0 n M = q ∧ Hid (Flowed n c M kn))
  case atStart => exact ⟨0, c, rfl, hx0, hN, by omega, rfl, Lib.hid (Flowed.start HC.out)⟩
  case round =>
    obtain ⟨kn, M, rfl, hx, hNr, hkq, hq, HFl⟩ := hrel
    go_wp2_with fail
    refine (flowMore_calls w0 wr fb g off gcap n rb M hx hNr hn hn2 HFl.out.nonneg (fun u v => by rw [HFl.out.anti u v]; exact HC2.out u v)).mono ?_
    rintro e w2 (⟨rfl, hN2, hS, hx2⟩ | ⟨M', rk, rfl, hN2, hA, hx2⟩)
    · have HS := Lib.hid hS
      clear hS
      go_wp2_with fail
      go_ret
      exact ⟨kn, rfl, ⟨M, HFl.out, HS.out⟩, hx2⟩
    · have HA := Lib.hid hA
      clear hA
      have hmass := mass_push hn2 HA.out
      go_wp2_with fail
      go_roundg (mass0 n M')
      case measure => omega
      case rel => exact ⟨kn + 1, M', rfl, hx2, hN2, by omega, rfl, Lib.hid (HFl.out.push HA.out)⟩

/-! The arcs of a leg. -/
section
variable (m : Nat) (inb beg last : Nat → Prop) (fol : Nat → Nat → Prop)
/-- The arcs of leg k, those to legs below j. -/
def ArcTo (k j u v : Nat) : Prop := (u = 2 + 2 * k ∧ v = 3 + 2 * k) ∨ (beg k ∧ u = 0 ∧ v = 2 + 2 * k) ∨ (last k ∧ u = 3 + 2 * k ∧ v = 1) ∨ ∃ l, l < j ∧ inb l ∧ fol k l ∧ u = 3 + 2 * k ∧ v = 2 + 2 * l
def Arcs (k u v : Nat) : Prop := ∃ i, i < k ∧ inb i ∧ ArcTo inb beg last fol i m u v
end
open Classical in
def IsCap (S : Nat → Nat → Prop) (M : Nat → Nat → Int) : Prop := ∀ u v, M u v = if S u v then 1 else 0
theorem IsCap.add {S S' : Nat → Nat → Prop} {M : Nat → Nat → Int} (h : IsCap S M) {i j : Nat} (hs : ∀ u v, S' u v ↔ (u = i ∧ v = j) ∨ S u v) : IsCap S' (fun a b => if a = i ∧ b = j then 1 else M a b) := by
  intro u v
  by_cases e : u = i ∧ v = j
  · simp only [if_pos e]
    rw [if_pos ((hs u v).2 (.inl e))]
  · simp only [if_neg e]
    rw [h u v]
    by_cases hS : S u v
    · rw [if_pos hS, if_pos ((hs u v).2 (.inr hS))]
    · rw [if_neg hS, if_neg (fun h' => ((hs u v).1 h').elim e hS)]
theorem IsCap.congr {S S' : Nat → Nat → Prop} {M : Nat → Nat → Int} (h : IsCap S M) (hs : ∀ u v, S' u v ↔ S u v) : IsCap S' M := by
  intro u v
  rw [h u v]
  by_cases hS : S u v
  · rw [if_pos hS, if_pos ((hs u v).2 hS)]
  · rw [if_neg hS, if_neg (fun h' => hS ((hs u v).1 h'))]
theorem IsCap.uniq {S : Nat → Nat → Prop} {M M' : Nat → Nat → Int} (h : IsCap S M) (h' : IsCap S M') : M = M' := by
  funext u v
  rw [h u v, h' u v]
theorem IsCap.nonneg {S : Nat → Nat → Prop} {M : Nat → Nat → Int} (h : IsCap S M) (u v : Nat) : 0 ≤ M u v ∧ M u v ≤ 1 := by
  rw [h u v]
  split <;> omega
theorem arcTo_yes {inb beg last : Nat → Prop} {fol : Nat → Nat → Prop} {k j u v : Nat} (h : inb j ∧ fol k j) : ArcTo inb beg last fol k (j + 1) u v ↔ (u = 3 + 2 * k ∧ v = 2 + 2 * j) ∨ ArcTo inb beg last fol k j u v := by
  unfold ArcTo
  constructor
  · rintro (h1 | h1 | h1 | ⟨l, hl, h1, h2, h3⟩)
    · exact .inr (.inl h1)
    · exact .inr (.inr (.inl h1))
    · exact .inr (.inr (.inr (.inl h1)))
    · by_cases e : l = j
      · subst e; exact .inl h3
      · exact .inr (.inr (.inr (.inr ⟨l, by omega, h1, h2, h3⟩)))
  · rintro (h1 | h1 | h1 | h1 | ⟨l, hl, h1⟩)
    · exact .inr (.inr (.inr ⟨j, by omega, h.1, h.2, h1⟩))
    · exact .inl h1
    · exact .inr (.inl h1)
    · exact .inr (.inr (.inl h1))
    · exact .inr (.inr (.inr ⟨l, by omega, h1⟩))
theorem arcTo_no {inb beg last : Nat → Prop} {fol : Nat → Nat → Prop} {k j u v : Nat} (h : ¬ (inb j ∧ fol k j)) : ArcTo inb beg last fol k (j + 1) u v ↔ ArcTo inb beg last fol k j u v := by
  unfold ArcTo
  constructor
  · rintro (h1 | h1 | h1 | ⟨l, hl, h1, h2, h3⟩)
    · exact .inl h1
    · exact .inr (.inl h1)
    · exact .inr (.inr (.inl h1))
    · by_cases e : l = j
      · subst e; exact (h ⟨h1, h2⟩).elim
      · exact .inr (.inr (.inr ⟨l, by omega, h1, h2, h3⟩))
  · rintro (h1 | h1 | h1 | ⟨l, hl, h1⟩)
    · exact .inl h1
    · exact .inr (.inl h1)
    · exact .inr (.inr (.inl h1))
    · exact .inr (.inr (.inr ⟨l, by omega, h1⟩))
theorem arcs_yes {m : Nat} {inb beg last : Nat → Prop} {fol : Nat → Nat → Prop} {k u v : Nat} (h : inb k) : Arcs m inb beg last fol (k + 1) u v ↔ Arcs m inb beg last fol k u v ∨ ArcTo inb beg last fol k m u v := by
  constructor
  · rintro ⟨i, hi, h1, h2⟩
    by_cases e : i = k
    · subst e; exact .inr h2
    · exact .inl ⟨i, by omega, h1, h2⟩
  · rintro (⟨i, hi, h1⟩ | h1)
    · exact ⟨i, by omega, h1⟩
    · exact ⟨k, by omega, h, h1⟩
def InJ (c : Int) (L : List Leg) (src dst at_ by_ : Int) (i : Nat) : Prop := ComeTo c L (fun i => begB src at_ (leg L i)) i ∧ GoesTo c L (fun i => lastB dst by_ (leg L i)) i
def ArcsOf (c : Int) (L : List Leg) (src dst at_ by_ : Int) (inb : Nat → Prop) (k u v : Nat) : Prop := Arcs L.length inb (fun i => begB src at_ (leg L i) = true) (fun i => lastB dst by_ (leg L i) = true) (fun i j => folL c L i j = true) k u v
def ArcOf (c : Int) (L : List Leg) (src dst at_ by_ : Int) (inb : Nat → Prop) (k j u v : Nat) : Prop := ArcTo inb (fun i => begB src at_ (leg L i) = true) (fun i => lastB dst by_ (leg L i) = true) (fun i j => folL c L i j = true) k j u v
/-- What Apart answers. -/
def ApartOf (n : Int) (L : List Leg) (c src dst at_ by_ : Int) (k : Nat) (e : Int) : Prop :=
  (goodE n L c src dst [at_, by_] ≠ 0 ∧ k = 0 ∧ e = goodE n L c src dst [at_, by_]) ∨
  (goodE n L c src dst [at_, by_] = 0 ∧ src = dst ∧ k = 0 ∧ e = (if by_ < at_ then 10 else 0)) ∨
  (goodE n L c src dst [at_, by_] = 0 ∧ src ≠ dst ∧ ¬ Goes c L src dst at_ by_ ∧ k = 0 ∧ e = 10) ∨
  (goodE n L c src dst [at_, by_] = 0 ∧ src ≠ dst ∧ Goes c L src dst at_ by_ ∧ e = 0 ∧ ∃ C, IsCap (ArcsOf c L src dst at_ by_ (InJ c L src dst at_ by_) L.length) C ∧ MostOf (2 * L.length + 2) C k)
def ApartRes (w : World) (n : Int) (L : List Leg) (c src dst at_ by_ : Int) (e : Ending) (w' : World) : Prop :=
  ∃ (k : Nat) (er : Int), e = .returned (.tuple #[.int .i64 k, .int .i64 er]) ∧ ApartOf n L c src dst at_ by_ k er ∧ Ext w w'
end Go.Proofs.Ytmmjjfjbhogfgaa
