/- The specification's arrivals: rows of booleans, one for each number of changes. -/
import Derived.Test.YtmmjjfjbhogfgaaArrA
import Derived.Test.YtmmjjfjbhogfgaaIs
namespace Go.Proofs.Ytmmjjfjbhogfgaa
open Go.RowKit
attribute [local go_sem] Leg.val run_store_fn

theorem wt_line (L : List Leg) (i j : Nat) : (wtL L i j = 0 ↔ (leg L i).Line = (leg L j).Line) ∧ (wtL L i j = 1 ↔ ¬ (leg L i).Line = (leg L j).Line) := by
  unfold wtL
  split
  · rename_i h; exact ⟨⟨fun _ => h, fun _ => rfl⟩, ⟨fun h' => by omega, fun h' => (h' h).elim⟩⟩
  · rename_i h; exact ⟨⟨fun h' => by omega, fun h' => (h h').elim⟩, ⟨fun _ => h, fun _ => rfl⟩⟩
theorem info_bools : (Try.prog.info? 65).map (fun i => (i.zero, i.size, i.bytes)) = some (some (.slice none 0 0), 1, 24) := by kernel_rfl
theorem Own.brow {w : World} {base g off m cap : Nat} {xs : List Bool} (h : Own w base 1 (.slice (some ⟨g, off, none⟩) m cap) (bools xs)) (hl : xs.length = m) : BRow (fun b => b = g) m w (.slice (some ⟨g, off, none⟩) m cap) xs :=
  ⟨g, off, cap, rfl, (h.lt g rfl).2, rfl, hl, h.boolsIn⟩

def ArrivalsRes (w0 : World) (m : Nat) (fol : Nat → Nat → Bool) (wt : Nat → Nat → Nat) (first : Nat → Bool) (e : Ending) (w' : World) : Prop :=
  ∃ ao cap bs, e = .returned (.slice ao bs.length cap) ∧ BPlanes m w' ao bs ∧ bs.length = m + 1 ∧ (∀ k, k < m + 1 → ExactRow m fol wt first k (bs.getD k [])) ∧ Ext w0 w'

set_option maxRecDepth 100000 in
set_option maxHeartbeats 16000000 in
theorem arrivals_calls (w0 w : World) (ao : Option Addr) (cap : Nat) (L : List Leg) (c n : Int) (g0 off0 ncap : Nat) (F : List Bool)
    (hL : LegsIn w0 ao L) (hlen : L.length ≤ 100) (hc : 0 ≤ c ∧ c ≤ 101) (hfine : ∀ k, k < L.length → Fine n (leg L k)) (hx0 : Ext w0 w) (hF : Own w w0.heap.size 1 (.slice (some ⟨g0, off0, none⟩) L.length ncap) (bools F)) (hFl : F.length = L.length) :
    Calls Try.prog 54 #[.slice ao L.length cap, .int .i64 c, .slice (some ⟨g0, off0, none⟩) L.length ncap] w (ArrivalsRes w0 L.length (folL c L) (wtL L) (bth F)) := by
  have HF := Lib.hid hfine
  clear hfine
  obtain ⟨i0, hi, hz0, hz1, hz2⟩ := info_parts info_bool
  obtain ⟨j0, hj, hy0, hy1, hy2⟩ := info_parts info_bools
  go_enter Try.func54, Try.ntmps54
  go_wp2_with fail
  go_loopw [8, 2, 7] (fun kk now out wr => ∃ (k g off nc : Nat) (xs : List Bool) (outv : Value) (vs : List Value) (bs : List (List Bool)), k ≤ L.length + 1 ∧ kk = .int .i64 k ∧ now = .slice (some ⟨g, off, none⟩) L.length nc ∧ outv = out ∧ Ext w0 wr ∧ Own wr w0.heap.size 1 (.slice (some ⟨g, off, none⟩) L.length nc) (bools xs) ∧ bs.length = k ∧
    Hid (ArrOut wr w0.heap.size g L.length outv vs bs) ∧ Hid (CloseIn L.length (folL c L) (wtL L) (bth F) k xs) ∧ Hid (∀ q, q < k → ExactRow L.length (folL c L) (wtL L) (bth F) q (bs.getD q []))) (fun kk _ _ _ => L.length + 1 - (intOf kk).toNat)
  case atStart =>
    refine ⟨0, g0, off0, ncap, F, _, [], [], by omega, rfl, rfl, rfl, hx0, hF, rfl, Lib.hid ⟨Own.nil _ _ _, rfl, fun k hk => by simp at hk, by simp [Value.ownBlock]⟩, Lib.hid ⟨hFl, fun i hi h => exact_base hi h, fun i hi h => h⟩, Lib.hid (fun q hq => by omega)⟩
  case round =>
    obtain ⟨k, g, off, nc, xs, outv, vs, bs, hk, rfl, rfl, rfl, hx, ho, hbl, HA, HC, HE⟩ := hrel
    by_cases hltk : k < L.length + 1
    · go_wp2_with fail
      go_loopg [9] (falses xs + 1) (fun q again ws => ∃ (mb : Bool) (xs : List Bool), again = .bool mb ∧ Ext w0 ws ∧ Own ws w0.heap.size 1 (.slice (some ⟨g, off, none⟩) L.length nc) (bools xs) ∧ Hid (ArrOut ws w0.heap.size g L.length outv vs bs) ∧ Hid (CloseHead L.length (folL c L) (wtL L) (bth F) k xs mb q))
      case atStart => exact ⟨true, xs, rfl, hx, ho, HA, Lib.hid ⟨HC.out, fun h => by simp at h, by simp⟩⟩
      case round =>
        clear HC hx ho HA
        obtain ⟨mb, xs, rfl, hx, ho, HA, HC⟩ := hrel
        cases mb with
        | false =>
          have hrow := HC.out.done (wtL_le L)
          have HR := Lib.hid hrow
          have hxl := hrow.1
          clear hrow
          have hvl := HA.out.len
          have hbase := hx.size
          go_wp2_with (first
            | (at_make; refine wpList_make_Own _ rfl _ _ 65 rfl 4 i0 (.bool false) Try.underlying65 hi hz0 hz1 rfl _ _ L.length rfl rfl rfl rfl (by rw [hz2]; omega) (by unfold maxLen; omega) ?_; intro g2 off2 cap2 w7 ho7 hx7)
            | (at_builtin; refine wpList_append_Own _ rfl _ _ 76 rfl 65 j0 (.slice none 0 0) 1 24 Try.underlying76 hj hy0 hy1 hy2 rfl (by omega) w0.heap.size outv vs rfl (Own.ext HA.out.own ((Ext.refl _).alloc _)) (by simp; omega) _ 1 1 [.slice (some ⟨g, off, none⟩) L.length nc] rfl rfl (one_cell _ _ _ _ rfl) (by simp [Value.oneCell']) (by simp; unfold maxLen; omega) (by simp; omega) ?_; intro v5 w5 ho5 hg5 hb5))
          have hx5 : Ext w0 w5 := (hx.alloc _).onto hg5 (fun q hq => (HA.out.own.lt q hq).1)
          have hx07 := hx5.trans hx7
          have hgw : g < w5.heap.size := by
            have h1 := (ho.lt g rfl).2
            have h2 := hg5.size
            simp at h2
            omega
          have hg2 := (ho7.lt g2 rfl).1
          have hgg : g ≠ g2 := by omega
          have hA7 := Lib.hid ((HA.out.ext ((Ext.refl wr).alloc (.cells #[.slice (some ⟨g, off, none⟩) L.length nc] 65))).push ((ho.ext ((Ext.refl wr).alloc _)).brow hxl) ho5 hg5 hb5 hx7 hg2)
          have hn7 := ((ho.ext ((Ext.refl wr).alloc (.cells #[.slice (some ⟨g, off, none⟩) L.length nc] 65))).keep hg5 (.inr (fun e => HA.out.apart e.symm))).ext hx7
          have ho27 : Own w7 w0.heap.size 1 (.slice (some ⟨g2, off2, none⟩) L.length cap2) (bools (List.replicate L.length false)) := by
            have := ho7.rebase hx5.size
            simpa [bools] using this
          clear hb5 hg5 ho5 ho7 HA ho hx hx5
          go_loopw [13] (fun ii ws => ∃ (i : Nat) (ys : List Bool), i ≤ L.length ∧ ii = .int .i64 i ∧ Ext w0 ws ∧ Own ws w0.heap.size 1 (.slice (some ⟨g, off, none⟩) L.length nc) (bools xs) ∧ Own ws w0.heap.size 1 (.slice (some ⟨g2, off2, none⟩) L.length cap2) (bools ys) ∧
            Hid (ArrOut ws w0.heap.size g2 L.length v5 (vs ++ [.slice (some ⟨g, off, none⟩) L.length nc]) (bs ++ [xs])) ∧ Hid (NextIn L.length (folL c L) (wtL L) xs ys i 0)) (fun ii _ => L.length - (intOf ii).toNat)
          case atStart => exact ⟨0, _, by omega, rfl, hx07, hn7, ho27, hA7, Lib.hid (NextIn.start _ _ _ _)⟩
          case round =>
            clear hx07 hn7 ho27 hA7
            obtain ⟨i, ys, hi2, rfl, hx, ho, ho2, HA, HN⟩ := hrel
            by_cases hlt : i < L.length
            · go_wp2_with fail
              go_loopw [14] (fun jj ws => ∃ (j : Nat) (ys : List Bool), j ≤ L.length ∧ jj = .int .i64 j ∧ Ext w0 ws ∧ Own ws w0.heap.size 1 (.slice (some ⟨g, off, none⟩) L.length nc) (bools xs) ∧ Own ws w0.heap.size 1 (.slice (some ⟨g2, off2, none⟩) L.length cap2) (bools ys) ∧
                Hid (ArrOut ws w0.heap.size g2 L.length v5 (vs ++ [.slice (some ⟨g, off, none⟩) L.length nc]) (bs ++ [xs])) ∧ Hid (NextIn L.length (folL c L) (wtL L) xs ys i j)) (fun jj _ => L.length - (intOf jj).toNat)
              case atStart => exact ⟨0, ys, by omega, rfl, hx, ho, ho2, HA, HN⟩
              case round =>
                clear hx ho ho2 HA HN
                obtain ⟨j, ys, hj2, rfl, hx, ho, ho2, HA, HN⟩ := hrel
                by_cases hlt2 : j < L.length
                · have hyl := HN.out.1
                  have hbi := ho.boolAt i (by omega)
                  have hgl := (ho.lt g rfl).2
                  have hgb := (ho2.lt g2 rfl).1
                  have hLs := hL.ext hx
                  obtain ⟨lb, lf, hao, hlb, -⟩ := hLs i hlt
                  subst hao
                  have harr : 0 ≤ (leg L i).Arr ∧ (leg L i).Arr ≤ 10000 := by have := HF.out i hlt; unfold Fine at this; omega
                  cases h1 : bth xs i with
                  | false =>
                    rw [h1] at hbi
                    go_wp2_with fail
                    refine wp_region_after (by kernel_rfl) (by kernel_rfl) ?_
                    intro hne
                    have hci := After.cell hbi.1 hgl
                    have hLi := hLs.after hlt
                    have hLj := hLs.after hlt2
                    repeat (go_big_quiet_step (fail))
                    refine wpQuiet_nil ?_
                    intro w3 hx3
                    have hxn := hx.trans hx3
                    have hon := ho.ext hx3
                    have hon2 := ho2.ext hx3
                    have HAn := Lib.hid (HA.out.ext hx3)
                    have HK := Lib.hid (HN.out.skip (fun h => by rw [h1] at h; cases h.1))
                    clear h1
                    go_wp2_with fail
                    exact ⟨⟨j + 1, ys, by omega, rfl, hxn, hon, hon2, HAn, Lib.hid HK.out⟩, by simp only [intOf]; omega⟩
                  | true =>
                    rw [h1] at hbi
                    cases h3 : ((leg L i).Line != (leg L j).Line) with
                    | false =>
                      go_wp2_with fail
                      refine wp_region_after (by kernel_rfl) (by kernel_rfl) ?_
                      intro hne
                      have hci := After.cell hbi.1 hgl
                      have hLi := hLs.after hlt
                      have hLj := hLs.after hlt2
                      repeat (go_big_quiet_step (fail))
                      refine wpQuiet_nil ?_
                      intro w3 hx3
                      have hxn := hx.trans hx3
                      have hon := ho.ext hx3
                      have hon2 := ho2.ext hx3
                      have HAn := Lib.hid (HA.out.ext hx3)
                      have HK := Lib.hid (HN.out.skip (fun h => by have := (wt_line L i j).2.1 h.2.2; simp [this] at h3))
                      clear h1 h3
                      go_wp2_with fail
                      exact ⟨⟨j + 1, ys, by omega, rfl, hxn, hon, hon2, HAn, Lib.hid HK.out⟩, by simp only [intOf]; omega⟩
                    | true =>
                      cases hfl : folB c (leg L i) (leg L j) with
                      | false =>
                        go_wp2_with fail
                        refine wp_region_after (by kernel_rfl) (by kernel_rfl) ?_
                        intro hne
                        have hci := After.cell hbi.1 hgl
                        have hLi := hLs.after hlt
                        have hLj := hLs.after hlt2
                        repeat (go_big_quiet_step ((go_at_call 56; exact Calls.after_eq (congrArg Value.bool hfl) (joins_calls _ (leg L i) (leg L j) c harr hc))))
                        refine wpQuiet_nil ?_
                        intro w3 hx3
                        have hxn := hx.trans hx3
                        have hon := ho.ext hx3
                        have hon2 := ho2.ext hx3
                        have HAn := Lib.hid (HA.out.ext hx3)
                        have HK := Lib.hid (HN.out.skip (fun h => by have := h.2.1; unfold folL at this; rw [hfl] at this; cases this))
                        clear h1 h3 hfl
                        go_wp2_with fail
                        exact ⟨⟨j + 1, ys, by omega, rfl, hxn, hon, hon2, HAn, Lib.hid HK.out⟩, by simp only [intOf]; omega⟩
                      | true =>
                        go_wp2_with fail
                        refine wp_region_after (by kernel_rfl) (by kernel_rfl) ?_
                        intro hne
                        have hci := After.cell hbi.1 hgl
                        have hLi := hLs.after hlt
                        have hLj := hLs.after hlt2
                        repeat (go_big_quiet_step ((go_at_call 56; exact Calls.after_eq (congrArg Value.bool hfl) (joins_calls _ (leg L i) (leg L j) c harr hc))))
                        refine wpQuiet_nil ?_
                        intro w3 hx3
                        have hxn := hx.trans hx3
                        have hon := ho.ext hx3
                        have hon2 := ho2.ext hx3
                        have HAn := Lib.hid (HA.out.ext hx3)
                        have HK := Lib.hid (HN.out.add hlt hlt2 ⟨h1, hfl, (wt_line L i j).2.2 (by simpa using h3)⟩)
                        have hbj3 := hon2.boolAt j (by omega)
                        have hgl3 := (hon2.lt g2 rfl).2
                        obtain ⟨hcj3, hfj3⟩ := hbj3
                        clear h1 h3 hfl hci hLi hLj
                        go_wp2_with fail
                        exact ⟨⟨j + 1, ys.set j true, by omega, rfl, hxn.setOwn _ _ hgb, hon.keep (grownBy_setCell _ _ _) (.inr (by simpa [Value.ownBlock] using hgg)), hon2.setBool j (by omega) true, Lib.hid (HAn.out.keep (grownBy_setCell _ _ _) (.inr rfl)), Lib.hid HK.out⟩, by simp only [intOf]; omega⟩
                · obtain rfl : j = L.length := by omega
                  go_wp2_with fail
                  exact ⟨⟨i + 1, ys, by omega, rfl, hx, ho, ho2, HA, Lib.hid HN.out.row⟩, by simp only [intOf]; omega⟩
            · obtain rfl : i = L.length := by omega
              go_wp2_with fail
              refine ⟨⟨k + 1, g2, off2, cap2, ys, _, _, bs ++ [xs], by omega, rfl, rfl, rfl, hx, ho2, by simp [hbl], HA, Lib.hid (HN.out.close HR.out), Lib.hid (fun q hq => ?_)⟩, by simp only [intOf]; omega⟩
              rw [getD_snoc]
              by_cases e : q < bs.length
              · rw [if_pos e]; exact HE.out q (by omega)
              · obtain rfl : q = bs.length := by omega
                rw [if_neg (by omega), if_pos rfl, hbl]
                exact HR.out
        | true =>
          go_wp2_with fail
          go_loopw [10, 9] (fun ii again ws => ∃ (i : Nat) (mb : Bool) (ys : List Bool), i ≤ L.length ∧ ii = .int .i64 i ∧ again = .bool mb ∧ Ext w0 ws ∧ Own ws w0.heap.size 1 (.slice (some ⟨g, off, none⟩) L.length nc) (bools ys) ∧ Hid (ArrOut ws w0.heap.size g L.length outv vs bs) ∧ Hid (CloseSweep L.length (folL c L) (wtL L) (bth F) k xs ys mb i 0)) (fun ii _ _ => L.length - (intOf ii).toNat)
          case atStart => exact ⟨0, false, xs, by omega, rfl, rfl, hx, ho, HA, Lib.hid (.start HC.out.inn)⟩
          case round =>
            clear hx ho HA
            obtain ⟨i, mb, ys, hi2, rfl, rfl, hx, ho, HA, HS⟩ := hrel
            by_cases hlt : i < L.length
            · go_wp2_with fail
              go_loopw [11, 9] (fun jj again ws => ∃ (j : Nat) (mb : Bool) (ys : List Bool), j ≤ L.length ∧ jj = .int .i64 j ∧ again = .bool mb ∧ Ext w0 ws ∧ Own ws w0.heap.size 1 (.slice (some ⟨g, off, none⟩) L.length nc) (bools ys) ∧ Hid (ArrOut ws w0.heap.size g L.length outv vs bs) ∧ Hid (CloseSweep L.length (folL c L) (wtL L) (bth F) k xs ys mb i j)) (fun jj _ _ => L.length - (intOf jj).toNat)
              case atStart => exact ⟨0, mb, ys, by omega, rfl, rfl, hx, ho, HA, HS⟩
              case round =>
                clear hx ho HA HS
                obtain ⟨j, mb, ys, hj2, rfl, rfl, hx, ho, HA, HS⟩ := hrel
                by_cases hlt2 : j < L.length
                · have hyl := HS.out.inn.length
                  have hbi := ho.boolAt i (by omega)
                  have hbj := ho.boolAt j (by omega)
                  have hgl := (ho.lt g rfl).2
                  have hgb := (ho.lt g rfl).1
                  have hLs := hL.ext hx
                  obtain ⟨lb, lf, hao, hlb, -⟩ := hLs i hlt
                  subst hao
                  have harr : 0 ≤ (leg L i).Arr ∧ (leg L i).Arr ≤ 10000 := by have := HF.out i hlt; unfold Fine at this; omega
                  cases h1 : bth ys i with
                  | false =>
                    rw [h1] at hbi
                    go_wp2_with fail
                    refine wp_region_after (by kernel_rfl) (by kernel_rfl) ?_
                    intro hne
                    have hci := After.cell hbi.1 hgl
                    have hcj := After.cell hbj.1 hgl
                    have hLi := hLs.after hlt
                    have hLj := hLs.after hlt2
                    repeat (go_big_quiet_step (fail))
                    refine wpQuiet_nil ?_
                    intro w3 hx3
                    have hxn := hx.trans hx3
                    have hon := ho.ext hx3
                    have HAn := Lib.hid (HA.out.ext hx3)
                    have HK := Lib.hid (HS.out.skip (fun h => by rw [h1] at h; cases h))
                    clear h1
                    go_wp2_with fail
                    exact ⟨⟨j + 1, mb, ys, by omega, rfl, rfl, hxn, hon, HAn, Lib.hid HK.out⟩, by simp only [intOf]; omega⟩
                  | true =>
                    rw [h1] at hbi
                    cases h2 : bth ys j with
                    | true =>
                      rw [h2] at hbj
                      go_wp2_with fail
                      refine wp_region_after (by kernel_rfl) (by kernel_rfl) ?_
                      intro hne
                      have hci := After.cell hbi.1 hgl
                      have hcj := After.cell hbj.1 hgl
                      have hLi := hLs.after hlt
                      have hLj := hLs.after hlt2
                      repeat (go_big_quiet_step (fail))
                      refine wpQuiet_nil ?_
                      intro w3 hx3
                      have hxn := hx.trans hx3
                      have hon := ho.ext hx3
                      have HAn := Lib.hid (HA.out.ext hx3)
                      have HK := Lib.hid (HS.out.skip (fun _ _ _ => h2))
                      clear h1 h2
                      go_wp2_with fail
                      exact ⟨⟨j + 1, mb, ys, by omega, rfl, rfl, hxn, hon, HAn, Lib.hid HK.out⟩, by simp only [intOf]; omega⟩
                    | false =>
                      rw [h2] at hbj
                      cases h3 : ((leg L i).Line == (leg L j).Line) with
                      | false =>
                        go_wp2_with fail
                        refine wp_region_after (by kernel_rfl) (by kernel_rfl) ?_
                        intro hne
                        have hci := After.cell hbi.1 hgl
                        have hcj := After.cell hbj.1 hgl
                        have hLi := hLs.after hlt
                        have hLj := hLs.after hlt2
                        repeat (go_big_quiet_step (fail))
                        refine wpQuiet_nil ?_
                        intro w3 hx3
                        have hxn := hx.trans hx3
                        have hon := ho.ext hx3
                        have HAn := Lib.hid (HA.out.ext hx3)
                        have HK := Lib.hid (HS.out.skip (fun _ _ h => by rw [(wt_line L i j).1.1 h] at h3; simp at h3))
                        clear h1 h2 h3
                        go_wp2_with fail
                        exact ⟨⟨j + 1, mb, ys, by omega, rfl, rfl, hxn, hon, HAn, Lib.hid HK.out⟩, by simp only [intOf]; omega⟩
                      | true =>
                        cases hfl : folB c (leg L i) (leg L j) with
                        | false =>
                          go_wp2_with fail
                          refine wp_region_after (by kernel_rfl) (by kernel_rfl) ?_
                          intro hne
                          have hci := After.cell hbi.1 hgl
                          have hcj := After.cell hbj.1 hgl
                          have hLi := hLs.after hlt
                          have hLj := hLs.after hlt2
                          repeat (go_big_quiet_step ((go_at_call 56; exact Calls.after_eq (congrArg Value.bool hfl) (joins_calls _ (leg L i) (leg L j) c harr hc))))
                          refine wpQuiet_nil ?_
                          intro w3 hx3
                          have hxn := hx.trans hx3
                          have hon := ho.ext hx3
                          have HAn := Lib.hid (HA.out.ext hx3)
                          have HK := Lib.hid (HS.out.skip (fun _ h _ => by unfold folL at h; rw [hfl] at h; cases h))
                          clear h1 h2 h3 hfl
                          go_wp2_with fail
                          exact ⟨⟨j + 1, mb, ys, by omega, rfl, rfl, hxn, hon, HAn, Lib.hid HK.out⟩, by simp only [intOf]; omega⟩
                        | true =>
                          go_wp2_with fail
                          refine wp_region_after (by kernel_rfl) (by kernel_rfl) ?_
                          intro hne
                          have hci := After.cell hbi.1 hgl
                          have hcj := After.cell hbj.1 hgl
                          have hLi := hLs.after hlt
                          have hLj := hLs.after hlt2
                          repeat (go_big_quiet_step ((go_at_call 56; exact Calls.after_eq (congrArg Value.bool hfl) (joins_calls _ (leg L i) (leg L j) c harr hc))))
                          refine wpQuiet_nil ?_
                          intro w3 hx3
                          have hxn := hx.trans hx3
                          have hon := ho.ext hx3
                          have HAn := Lib.hid (HA.out.ext hx3)
                          have HK := Lib.hid (HS.out.add hlt hlt2 h1 h2 hfl ((wt_line L i j).1.2 (by simpa using h3)))
                          have hbj3 := hon.boolAt j (by omega)
                          have hgl3 := (hon.lt g rfl).2
                          rw [h2] at hbj3
                          obtain ⟨hcj3, hfj3⟩ := hbj3
                          clear h1 h2 h3 hfl hci hcj hLi hLj
                          go_wp2_with fail
                          exact ⟨⟨j + 1, true, ys.set j true, by omega, rfl, rfl, hxn.setOwn _ _ hgb, hon.setBool j (by omega) true, Lib.hid (HAn.out.keep (grownBy_setCell _ _ _) (.inr rfl)), Lib.hid HK.out⟩, by simp only [intOf]; omega⟩
                · obtain rfl : j = L.length := by omega
                  go_wp2_with fail
                  exact ⟨⟨i + 1, mb, ys, by omega, rfl, rfl, hx, ho, HA, Lib.hid HS.out.row⟩, by simp only [intOf]; omega⟩
            · obtain rfl : i = L.length := by omega
              go_wp2_with fail
              have hh := HS.out.head HC.out
              go_roundg (gk - 1)
              case measure => exact hh.2
              case rel => exact ⟨mb, ys, rfl, hx, ho, HA, Lib.hid hh.1⟩
    · obtain rfl : k = L.length + 1 := by omega
      obtain ⟨oo, oc, rfl, hlie⟩ := HA.out.lie
      rw [hbl]
      go_wp2_with fail
      go_ret
      exact ⟨oo, oc, bs, by rw [hbl]; rfl, hlie, hbl, HE.out, hx⟩
end Go.Proofs.Ytmmjjfjbhogfgaa
