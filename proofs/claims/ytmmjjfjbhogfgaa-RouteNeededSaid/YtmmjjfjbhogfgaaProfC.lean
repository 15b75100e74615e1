/- The specification's can: the legs of journeys that begin with one of some legs. -/
import Derived.Test.YtmmjjfjbhogfgaaProfA
import Derived.Test.YtmmjjfjbhogfgaaArrB
namespace Go.Proofs.Ytmmjjfjbhogfgaa
open Go.RowKit
attribute [local go_sem] Leg.val run_store_fn

def zeroW : Nat → Nat → Nat := fun _ _ => 0
theorem zeroW_le : ∀ i j, zeroW i j ≤ 1 := fun _ _ => by simp [zeroW]
theorem wsum_zero : ∀ (x : List Nat), wsum zeroW x = 0
  | [] => rfl
  | [_] => rfl
  | a :: b :: r => by
    have := wsum_zero (b :: r)
    simp [wsum, this, zeroW]
theorem exact_zero {c : Int} {L : List Leg} {first : Nat → Bool} {i : Nat} : Exact L.length (folL c L) zeroW first 0 i ↔ ComeTo c L first i :=
  ⟨fun ⟨y, hy, _⟩ => ⟨y, hy⟩, fun ⟨y, hy⟩ => ⟨y, hy, wsum_zero y⟩⟩
theorem BoolsIn.news {w : World} {b off : Nat} {xs : List Bool} (h : BoolsIn w (some ⟨b, off, none⟩) xs) : ∀ (j : Nat) (u : Value), (bools xs)[j]? = some u → w.cell? (Addr.add ⟨b, off, none⟩ j) = some u := by
  intro j u hu
  have hj := (List.getElem?_eq_some_iff.1 hu).1
  rw [bools_length] at hj
  obtain ⟨b', off', e, _, hc⟩ := h j hj
  simp only [Option.some.injEq, Addr.mk.injEq, and_true] at e
  obtain ⟨rfl, rfl⟩ := e
  rw [bools_at xs j hj] at hu
  have ea : Addr.add ⟨b, off, none⟩ j = ⟨b, off + j, none⟩ := by
    simp only [Addr.add]
    split
    · rename_i h; subst h; rfl
    · rfl
  rw [ea, hc, hu]
theorem bools_one (xs : List Bool) : ∀ u ∈ bools xs, u.oneCell' = true := by
  intro u hu
  simp only [bools, List.mem_map] at hu
  obtain ⟨b, _, rfl⟩ := hu
  simp [Value.oneCell']

def CanRes (w : World) (m : Nat) (P : Nat → Prop) (e : Ending) (w' : World) : Prop :=
  ∃ ao cap xs, e = .returned (.slice ao m cap) ∧ BoolsIn w' ao xs ∧ xs.length = m ∧ (∀ i, i < m → (bth xs i = true ↔ P i)) ∧ Ext w w'

set_option maxRecDepth 100000 in
set_option maxHeartbeats 16000000 in
theorem can_calls (w : World) (ao : Option Addr) (cap : Nat) (L : List Leg) (c n : Int) (g0 off0 ncap : Nat) (F : List Bool)
    (hL : LegsIn w ao L) (hlen : L.length ≤ 100) (hc : 0 ≤ c ∧ c ≤ 101) (hfine : ∀ k, k < L.length → Fine n (leg L k)) (hF : BoolsIn w (some ⟨g0, off0, none⟩) F) (hFl : F.length = L.length) :
    Calls Try.prog 68 #[.slice ao L.length cap, .int .i64 c, .slice (some ⟨g0, off0, none⟩) L.length ncap] w (CanRes w L.length (ComeTo c L (bth F))) := by
  have HF := Lib.hid hfine
  clear hfine
  obtain ⟨i0, hi, hz0, hz1, hz2⟩ := info_parts info_bool
  go_enter Try.func68, Try.ntmps68
  go_wp2_with (at_builtin; refine wpList_append_Own _ rfl _ _ 65 rfl 4 i0 (.bool false) 1 1 Try.underlying65 hi hz0 hz1 hz2 rfl (by omega) w.heap.size (.slice none 0 0) [] rfl (Own.nil _ _ _) (by omega) ⟨g0, off0, none⟩ L.length ncap (bools F) rfl (by simp [bools_length, hFl]) hF.news (bools_one _) (by simp [bools_length]; unfold maxLen; omega) (by simp [bools_length]; omega) ?_; intro v5 w5 ho5 hg5 hb5; simp only [List.nil_append] at ho5; have hx5 : Ext w w5 := Ext.ofGrown hg5; have hs5 := hx5.size)
  obtain ⟨so, nc, rfl, hsin, -⟩ := ho5.boolsShape
  rw [hFl] at ho5 ⊢
  have hso : 0 < L.length → ∃ g off, so = some ⟨g, off, none⟩ := fun h => by
    obtain ⟨g, off, e, _⟩ := hsin 0 (by omega)
    exact ⟨g, off, e⟩
  go_loopg [8] (falses F + 1) (fun q again ws => ∃ (mb : Bool) (xs : List Bool), again = .bool mb ∧ Ext w ws ∧ Own ws w.heap.size 1 (.slice so L.length nc) (bools xs) ∧ Hid (CloseHead L.length (folL c L) zeroW (bth F) 0 xs mb q))
  case atStart => exact ⟨true, F, rfl, hx5, ho5, Lib.hid ⟨⟨hFl, fun i hi h => exact_base hi h, fun i hi h => h⟩, fun h => by simp at h, by simp⟩⟩
  case round =>
    clear ho5 hx5 hs5 hsin
    obtain ⟨mb, xs, rfl, hx, ho, HC⟩ := hrel
    cases mb with
    | false =>
      have HR := Lib.hid (HC.out.done zeroW_le)
      obtain ⟨so', nc', e, hsin, -⟩ := ho.boolsShape
      simp only [Value.slice.injEq] at e
      obtain ⟨rfl, -, rfl⟩ := e
      go_wp2_with fail
      go_ret
      exact ⟨so, nc, xs, rfl, hsin, HR.out.1, fun i hi => (HR.out.2 i hi).trans exact_zero, hx⟩
    | true =>
      go_wp2_with fail
      go_loopw [9, 8] (fun ii again ws => ∃ (i : Nat) (mb : Bool) (ys : List Bool), i ≤ L.length ∧ ii = .int .i64 i ∧ again = .bool mb ∧ Ext w ws ∧ Own ws w.heap.size 1 (.slice so L.length nc) (bools ys) ∧ Hid (CloseSweep L.length (folL c L) zeroW (bth F) 0 xs ys mb i 0)) (fun ii _ _ => L.length - (intOf ii).toNat)
      case atStart => exact ⟨0, false, xs, by omega, rfl, rfl, hx, ho, Lib.hid (.start HC.out.inn)⟩
      case round =>
        clear hx ho
        obtain ⟨i, mb, ys, hi2, rfl, rfl, hx, ho, HS⟩ := hrel
        by_cases hlt : i < L.length
        · go_wp2_with fail
          go_loopw [10, 8] (fun jj again ws => ∃ (j : Nat) (mb : Bool) (ys : List Bool), j ≤ L.length ∧ jj = .int .i64 j ∧ again = .bool mb ∧ Ext w ws ∧ Own ws w.heap.size 1 (.slice so L.length nc) (bools ys) ∧ Hid (CloseSweep L.length (folL c L) zeroW (bth F) 0 xs ys mb i j)) (fun jj _ _ => L.length - (intOf jj).toNat)
          case atStart => exact ⟨0, mb, ys, by omega, rfl, rfl, hx, ho, HS⟩
          case round =>
            clear hx ho HS
            obtain ⟨j, mb, ys, hj2, rfl, rfl, hx, ho, HS⟩ := hrel
            by_cases hlt2 : j < L.length
            · obtain ⟨g, off, rfl⟩ := hso (by omega)
              have hyl := HS.out.inn.length
              have hbi := ho.boolAt i (by omega)
              have hbj := ho.boolAt j (by omega)
              have hgl := (ho.lt g rfl).2
              have hgb := (ho.lt g rfl).1
              have hLs := hL.ext hx
              obtain ⟨lb, lf, hao, hlb, -⟩ := hLs i hlt
              subst hao
              have harr : 0 ≤ (leg L i).Arr ∧ (leg L i).Arr ≤ 10000 := by have := HF.out i hlt; unfold Fine at this; omega
              cases h1 : bth ys i with
              | false =>
                rw [h1] at hbi
                go_wp2_with fail
                refine wp_region_after (by kernel_rfl) (by kernel_rfl) ?_
                intro hne
                have hci := After.cell hbi.1 hgl
                have hcj := After.cell hbj.1 hgl
                have hLi := hLs.after hlt
                have hLj := hLs.after hlt2
                repeat (go_big_quiet_step (fail))
                refine wpQuiet_nil ?_
                intro w3 hx3
                have hxn := hx.trans hx3
                have hon := ho.ext hx3
                have HK := Lib.hid (HS.out.skip (fun h => by rw [h1] at h; cases h))
                clear h1
                go_wp2_with fail
                exact ⟨⟨j + 1, mb, ys, by omega, rfl, rfl, hxn, hon, Lib.hid HK.out⟩, by simp only [intOf]; omega⟩
              | true =>
                rw [h1] at hbi
                cases h2 : bth ys j with
                | true =>
                  rw [h2] at hbj
                  go_wp2_with fail
                  refine wp_region_after (by kernel_rfl) (by kernel_rfl) ?_
                  intro hne
                  have hci := After.cell hbi.1 hgl
                  have hcj := After.cell hbj.1 hgl
                  have hLi := hLs.after hlt
                  have hLj := hLs.after hlt2
                  repeat (go_big_quiet_step (fail))
                  refine wpQuiet_nil ?_
                  intro w3 hx3
                  have hxn := hx.trans hx3
                  have hon := ho.ext hx3
                  have HK := Lib.hid (HS.out.skip (fun _ _ _ => h2))
                  clear h1 h2
                  go_wp2_with fail
                  exact ⟨⟨j + 1, mb, ys, by omega, rfl, rfl, hxn, hon, Lib.hid HK.out⟩, by simp only [intOf]; omega⟩
                | false =>
                  rw [h2] at hbj
                  cases hfl : folB c (leg L i) (leg L j) with
                  | false =>
                    go_wp2_with fail
                    refine wp_region_after (by kernel_rfl) (by kernel_rfl) ?_
                    intro hne
                    have hci := After.cell hbi.1 hgl
                    have hcj := After.cell hbj.1 hgl
                    have hLi := hLs.after hlt
                    have hLj := hLs.after hlt2
                    repeat (go_big_quiet_step ((go_at_call 56; exact Calls.after_eq (congrArg Value.bool hfl) (joins_calls _ (leg L i) (leg L j) c harr hc))))
                    refine wpQuiet_nil ?_
                    intro w3 hx3
                    have hxn := hx.trans hx3
                    have hon := ho.ext hx3
                    have HK := Lib.hid (HS.out.skip (fun _ h _ => by unfold folL at h; rw [hfl] at h; cases h))
                    clear h1 h2 hfl
                    go_wp2_with fail
                    exact ⟨⟨j + 1, mb, ys, by omega, rfl, rfl, hxn, hon, Lib.hid HK.out⟩, by simp only [intOf]; omega⟩
                  | true =>
                    go_wp2_with fail
                    refine wp_region_after (by kernel_rfl) (by kernel_rfl) ?_
                    intro hne
                    have hci := After.cell hbi.1 hgl
                    have hcj := After.cell hbj.1 hgl
                    have hLi := hLs.after hlt
                    have hLj := hLs.after hlt2
                    repeat (go_big_quiet_step ((go_at_call 56; exact Calls.after_eq (congrArg Value.bool hfl) (joins_calls _ (leg L i) (leg L j) c harr hc))))
                    refine wpQuiet_nil ?_
                    intro w3 hx3
                    have hxn := hx.trans hx3
                    have hon := ho.ext hx3
                    have HK := Lib.hid (HS.out.add hlt hlt2 h1 h2 hfl rfl)
                    have hbj3 := hon.boolAt j (by omega)
                    have hgl3 := (hon.lt g rfl).2
                    rw [h2] at hbj3
                    obtain ⟨hcj3, hfj3⟩ := hbj3
                    clear h1 h2 hfl hci hcj hLi hLj
                    go_wp2_with fail
                    exact ⟨⟨j + 1, true, ys.set j true, by omega, rfl, rfl, hxn.setOwn _ _ hgb, hon.setBool j (by omega) true, Lib.hid HK.out⟩, by simp only [intOf]; omega⟩
            · obtain rfl : j = L.length := by omega
              go_wp2_with fail
              exact ⟨⟨i + 1, mb, ys, by omega, rfl, rfl, hx, ho, Lib.hid HS.out.row⟩, by simp only [intOf]; omega⟩
        · obtain rfl : i = L.length := by omega
          go_wp2_with fail
          have hh := HS.out.head HC.out
          go_roundg (gk - 1)
          case measure => exact hh.2
          case rel => exact ⟨mb, ys, rfl, hx, ho, Lib.hid hh.1⟩
end Go.Proofs.Ytmmjjfjbhogfgaa
