/- Needed of the specification. -/
import Derived.Test.YtmmjjfjbhogfgaaMNeedA
import Derived.Test.YtmmjjfjbhogfgaaProfC
import Derived.Test.YtmmjjfjbhogfgaaRefF
namespace Go.Proofs.Ytmmjjfjbhogfgaa
open Go.RowKit
attribute [local go_sem] Leg.val run_store_fn

/-- Is there a journey without some legs? -/
def GoesOut (c : Int) (L : List Leg) (src dst at_ by_ : Int) (out : Nat → Bool) : Prop := ∃ x, Jn L.length (folL c L) (fun i => begB src at_ (leg L i)) (fun i => lastB dst by_ (leg L i)) x ∧ ∀ i ∈ x, out i = false
def folO (c : Int) (L : List Leg) (out : Nat → Bool) (i j : Nat) : Bool := ! out i && folL c L i j
def PAt (L : List Leg) (dst by_ : Int) (outs xs : List Bool) (i : Nat) : Prop := bth xs i = true ∧ bth outs i = false ∧ (leg L i).To = dst ∧ (leg L i).Arr ≤ by_
theorem goesOut_iff {c : Int} {L : List Leg} {src dst at_ by_ : Int} {out : Nat → Bool} : GoesOut c L src dst at_ by_ out ↔ ∃ i, i < L.length ∧ (∃ y, Jn L.length (folO c L out) (fun i => begB src at_ (leg L i)) (fun k => k == i) y) ∧ out i = false ∧ (leg L i).To = dst ∧ (leg L i).Arr ≤ by_ := by
  constructor
  · rintro ⟨x, hx, ho⟩
    obtain ⟨h0, h1, h2, h3, h4⟩ := jn_iff.1 hx
    have hp : 0 < x.length := List.length_pos_iff.2 h0
    have hm : ∀ k, k < x.length → out (x.getD k 0) = false := fun k hk => ho _ (by
      rw [List.getD_eq_getElem?_getD, List.getElem?_eq_getElem hk]
      exact List.getElem_mem hk)
    simp only [lastB, decide_eq_true_eq] at h4
    refine ⟨x.getD (x.length - 1) 0, h2 _ (by omega), ⟨x, jn_iff.2 ⟨h0, h1, h2, fun k hk => ?_, by simp⟩⟩, hm _ (by omega), h4.1, h4.2⟩
    simp only [folO, hm k (by omega), h3 k hk, Bool.not_false, Bool.and_self]
  · rintro ⟨i, hi, ⟨x, hx⟩, ho, hto, harr⟩
    obtain ⟨h0, h1, h2, h3, h4⟩ := jn_iff.1 hx
    have hp : 0 < x.length := List.length_pos_iff.2 h0
    have h4' : x.getD (x.length - 1) 0 = i := by simpa using h4
    refine ⟨x, jn_iff.2 ⟨h0, h1, h2, fun k hk => ?_, ?_⟩, fun j hj => ?_⟩
    · have := h3 k hk
      simp only [folO, Bool.and_eq_true] at this
      exact this.2
    · rw [h4']
      simp [lastB, hto, harr]
    · obtain ⟨k, hk, rfl⟩ := List.getElem_of_mem hj
      have e : x.getD k 0 = x[k] := by rw [List.getD_eq_getElem?_getD, List.getElem?_eq_getElem hk]; rfl
      by_cases hl : k + 1 < x.length
      · have := h3 k hl
        simp only [folO, Bool.and_eq_true, Bool.not_eq_true'] at this
        rw [← e]
        exact this.1
      · have : k = x.length - 1 := by omega
        rw [← e, this, h4']
        exact ho
theorem exact_zeroO {c : Int} {L : List Leg} {out first : Nat → Bool} {i : Nat} : Exact L.length (folO c L out) zeroW first 0 i ↔ ∃ y, Jn L.length (folO c L out) first (fun k => k == i) y :=
  ⟨fun ⟨y, hy, _⟩ => ⟨y, hy⟩, fun ⟨y, hy⟩ => ⟨y, hy, wsum_zero y⟩⟩
theorem goesOut_none {c : Int} {L : List Leg} {src dst at_ by_ : Int} {out : Nat → Bool} (h : ∀ i, i < L.length → out i = false) : GoesOut c L src dst at_ by_ out ↔ Goes c L src dst at_ by_ := by
  constructor
  · rintro ⟨x, hx, _⟩; exact ⟨x, hx⟩
  · rintro ⟨x, hx⟩
    refine ⟨x, hx, fun i hi => ?_⟩
    obtain ⟨k, hk, rfl⟩ := List.getElem_of_mem hi
    have := (jn_iff.1 hx).2.2.1 k hk
    rw [List.getD_eq_getElem?_getD, List.getElem?_eq_getElem hk] at this
    exact h _ this
theorem goesOut_one {c : Int} {L : List Leg} {src dst at_ by_ : Int} {d : Nat} {out : Nat → Bool} (h : ∀ i, i < L.length → out i = decide (i = d)) : GoesOut c L src dst at_ by_ out ↔ GoesBut c L src dst at_ by_ d := by
  constructor
  · rintro ⟨x, hx, ho⟩
    refine ⟨x, hx, fun hd => ?_⟩
    have h1 := ho d hd
    obtain ⟨k, hk, e⟩ := List.getElem_of_mem hd
    have := (jn_iff.1 hx).2.2.1 k hk
    rw [List.getD_eq_getElem?_getD, List.getElem?_eq_getElem hk] at this
    simp only [Option.getD_some, e] at this
    rw [h d this] at h1
    simp at h1
  · rintro ⟨x, hx, hd⟩
    refine ⟨x, hx, fun i hi => ?_⟩
    obtain ⟨k, hk, rfl⟩ := List.getElem_of_mem hi
    have := (jn_iff.1 hx).2.2.1 k hk
    rw [List.getD_eq_getElem?_getD, List.getElem?_eq_getElem hk] at this
    simp only [Option.getD_some] at this
    rw [h _ this]
    simp only [decide_eq_false_iff_not]
    intro e
    exact hd (e ▸ hi)

set_option maxRecDepth 100000 in
set_option maxHeartbeats 16000000 in
theorem reaches_calls (w : World) (ao : Option Addr) (cap : Nat) (L : List Leg) (c src dst at_ by_ n : Int) (ob off0 ocap : Nat) (outs : List Bool)
    (hL : LegsIn w ao L) (hlen : L.length ≤ 100) (hc : 0 ≤ c ∧ c ≤ 101) (hfine : ∀ k, k < L.length → Fine n (leg L k)) (hO : BoolsIn w (some ⟨ob, off0, none⟩) outs) (hOl : outs.length = L.length) :
    Calls Try.prog 64 #[.slice ao L.length cap, .int .i64 c, .int .i64 src, .int .i64 dst, .int .i64 at_, .int .i64 by_, .slice (some ⟨ob, off0, none⟩) L.length ocap] w (BoolRes w (GoesOut c L src dst at_ by_ (bth outs))) := by
  have HF := Lib.hid hfine
  clear hfine
  go_enter Try.func64, Try.ntmps64
  go_wp2_with fail
  refine (leaving_calls w ao cap L src at_ hL (by omega)).mono ?_
  rintro e w1 ⟨g, off, fcap, F, rfl, hoF, hFl, hF, hx1⟩
  have HFB := Lib.hid hF
  clear hF
  go_wp2_with fail
  go_loopg [16] (falses F + 1) (fun q again ws => ∃ (mb : Bool) (xs : List Bool), again = .bool mb ∧ Ext w ws ∧ Own ws w.heap.size 1 (.slice (some ⟨g, off, none⟩) L.length fcap) (bools xs) ∧ Hid (CloseHead L.length (folO c L (bth outs)) zeroW (bth F) 0 xs mb q))
  case atStart => exact ⟨true, F, rfl, hx1, hoF, Lib.hid ⟨⟨hFl, fun i hi h => exact_base hi h, fun i hi h => h⟩, fun h => by simp at h, by simp⟩⟩
  case round =>
    clear hoF hx1
    obtain ⟨mb, xs, rfl, hx, ho, HC⟩ := hrel
    cases mb with
    | false =>
      have HR := Lib.hid (HC.out.done zeroW_le)
      have hxl := HR.out.1
      go_wp2_with fail
      go_loopw [19] (fun ii ws => ∃ i : Nat, i ≤ L.length ∧ ii = .int .i64 i ∧ Ext w ws ∧ Own ws w.heap.size 1 (.slice (some ⟨g, off, none⟩) L.length fcap) (bools xs) ∧ Hid (∀ j, j < i → ¬ PAt L dst by_ outs xs j)) (fun ii _ => L.length - (intOf ii).toNat)
      case atStart => exact ⟨0, by omega, rfl, hx, ho, Lib.hid (fun j hj => by omega)⟩
      case round =>
        clear hx ho
        obtain ⟨i, hi2, rfl, hx, ho, HN⟩ := hrel
        have HEQ : Hid (GoesOut c L src dst at_ by_ (bth outs) ↔ ∃ i, i < L.length ∧ PAt L dst by_ outs xs i) := Lib.hid (by
          rw [goesOut_iff]
          refine exists_congr (fun i => and_congr_right (fun hi => ?_))
          unfold PAt
          rw [(HR.out.2 i hi).trans exact_zeroO]
          refine and_congr_left (fun _ => exists_congr (fun y => ?_))
          constructor
          · exact fun h => h.mono (fun k hk hb => by rw [HFB.out k hk]; exact hb) (fun _ _ h => h)
          · exact fun h => h.mono (fun k hk hb => by rw [HFB.out k hk] at hb; exact hb) (fun _ _ h => h))
        by_cases hlt : i < L.length
        · have hbi := ho.boolAt i (by omega)
          obtain ⟨ob', of', e, hol, hoc⟩ := (hO.ext hx) i (by omega)
          simp only [Option.some.injEq, Addr.mk.injEq, and_true] at e
          obtain ⟨rfl, rfl⟩ := e
          have hLs := hL.ext hx
          obtain ⟨lb, lf, hao, hlb, h0, h1, h2, h3, h4⟩ := hLs i hlt
          subst hao
          cases g1 : bth xs i with
          | false =>
            rw [g1] at hbi
            have HK : Hid (¬ PAt L dst by_ outs xs i) := Lib.hid (fun h => by have := h.1; rw [g1] at this; cases this)
            go_wp2_with fail
            exact ⟨⟨i + 1, by omega, rfl, hx, ho, Lib.hid (fun j hj => by
              rcases Nat.lt_or_ge j i with h | h
              · exact HN.out j h
              · rw [show j = i by omega]; exact HK.out)⟩, by simp only [intOf]; omega⟩
          | true =>
            rw [g1] at hbi
            cases g2 : bth outs i with
            | true =>
              rw [g2] at hoc
              have HK : Hid (¬ PAt L dst by_ outs xs i) := Lib.hid (fun h => by have := h.2.1; rw [g2] at this; cases this)
              go_wp2_with fail
              exact ⟨⟨i + 1, by omega, rfl, hx, ho, Lib.hid (fun j hj => by
                rcases Nat.lt_or_ge j i with h | h
                · exact HN.out j h
                · rw [show j = i by omega]; exact HK.out)⟩, by simp only [intOf]; omega⟩
            | false =>
              rw [g2] at hoc
              cases g3 : ((leg L i).To == dst) with
              | false =>
                have HK : Hid (¬ PAt L dst by_ outs xs i) := Lib.hid (fun h => by have := h.2.2.1; simp [this] at g3)
                go_wp2_with fail
                exact ⟨⟨i + 1, by omega, rfl, hx, ho, Lib.hid (fun j hj => by
                  rcases Nat.lt_or_ge j i with h | h
                  · exact HN.out j h
                  · rw [show j = i by omega]; exact HK.out)⟩, by simp only [intOf]; omega⟩
              | true =>
                cases g4 : decide ((leg L i).Arr ≤ by_) with
                | false =>
                  have HK : Hid (¬ PAt L dst by_ outs xs i) := Lib.hid (fun h => by have := h.2.2.2; simp at g4; omega)
                  go_wp2_with fail
                  exact ⟨⟨i + 1, by omega, rfl, hx, ho, Lib.hid (fun j hj => by
                    rcases Nat.lt_or_ge j i with h | h
                    · exact HN.out j h
                    · rw [show j = i by omega]; exact HK.out)⟩, by simp only [intOf]; omega⟩
                | true =>
                  have HP : Hid (PAt L dst by_ outs xs i) := Lib.hid ⟨g1, g2, by simpa using g3, by simpa using g4⟩
                  go_wp2_with fail
                  go_ret
                  exact ⟨true, rfl, ⟨fun _ => HEQ.out.2 ⟨i, hlt, HP.out⟩, fun _ => rfl⟩, hx⟩
        · obtain rfl : i = L.length := by omega
          go_wp2_with fail
          go_ret
          exact ⟨false, rfl, ⟨fun h => (by cases h), fun h => by
            obtain ⟨j, hj, hp⟩ := HEQ.out.1 h
            exact (HN.out j hj hp).elim⟩, hx⟩
    | true =>
      go_wp2_with fail
      go_loopw [17, 16] (fun ii again ws => ∃ (i : Nat) (mb : Bool) (ys : List Bool), i ≤ L.length ∧ ii = .int .i64 i ∧ again = .bool mb ∧ Ext w ws ∧ Own ws w.heap.size 1 (.slice (some ⟨g, off, none⟩) L.length fcap) (bools ys) ∧ Hid (CloseSweep L.length (folO c L (bth outs)) zeroW (bth F) 0 xs ys mb i 0)) (fun ii _ _ => L.length - (intOf ii).toNat)
      case atStart => exact ⟨0, false, xs, by omega, rfl, rfl, hx, ho, Lib.hid (.start HC.out.inn)⟩
      case round =>
        clear hx ho
        obtain ⟨i, mb, ys, hi2, rfl, rfl, hx, ho, HS⟩ := hrel
        by_cases hlt : i < L.length
        · go_wp2_with fail
          go_loopw [18, 16] (fun jj again ws => ∃ (j : Nat) (mb : Bool) (ys : List Bool), j ≤ L.length ∧ jj = .int .i64 j ∧ again = .bool mb ∧ Ext w ws ∧ Own ws w.heap.size 1 (.slice (some ⟨g, off, none⟩) L.length fcap) (bools ys) ∧ Hid (CloseSweep L.length (folO c L (bth outs)) zeroW (bth F) 0 xs ys mb i j)) (fun jj _ _ => L.length - (intOf jj).toNat)
          case atStart => exact ⟨0, mb, ys, by omega, rfl, rfl, hx, ho, HS⟩
          case round =>
            clear hx ho HS
            obtain ⟨j, mb, ys, hj2, rfl, rfl, hx, ho, HS⟩ := hrel
            by_cases hlt2 : j < L.length
            · have hyl := HS.out.inn.length
              have hbi := ho.boolAt i (by omega)
              have hbj := ho.boolAt j (by omega)
              have hgl := (ho.lt g rfl).2
              have hgb := (ho.lt g rfl).1
              have hLs := hL.ext hx
              obtain ⟨ob', of', e, hol, hoc⟩ := (hO.ext hx) i (by omega)
              simp only [Option.some.injEq, Addr.mk.injEq, and_true] at e
              obtain ⟨rfl, rfl⟩ := e
              obtain ⟨lb, lf, hao, hlb, -⟩ := hLs i hlt
              subst hao
              have harr : 0 ≤ (leg L i).Arr ∧ (leg L i).Arr ≤ 10000 := by have := HF.out i hlt; unfold Fine at this; omega
              cases h1 : bth ys i with
              | false =>
                rw [h1] at hbi
                go_wp2_with fail
                refine wp_region_after (by kernel_rfl) (by kernel_rfl) ?_
                intro hne
                have hci := After.cell hbi.1 hgl
                have hcj := After.cell hbj.1 hgl
                have hco := After.cell hoc hol
                have hLi := hLs.after hlt
                have hLj := hLs.after hlt2
                repeat (go_big_quiet_step (fail))
                refine wpQuiet_nil ?_
                intro w3 hx3
                have hxn := hx.trans hx3
                have hon := ho.ext hx3
                have HK := Lib.hid (HS.out.skip (fun h => by rw [h1] at h; cases h))
                clear h1
                go_wp2_with fail
                exact ⟨⟨j + 1, mb, ys, by omega, rfl, rfl, hxn, hon, Lib.hid HK.out⟩, by simp only [intOf]; omega⟩
              | true =>
                rw [h1] at hbi
                cases h0 : bth outs i with
                | true =>
                  rw [h0] at hoc
                  go_wp2_with fail
                  refine wp_region_after (by kernel_rfl) (by kernel_rfl) ?_
                  intro hne
                  have hci := After.cell hbi.1 hgl
                  have hcj := After.cell hbj.1 hgl
                  have hco := After.cell hoc hol
                  have hLi := hLs.after hlt
                  have hLj := hLs.after hlt2
                  repeat (go_big_quiet_step (fail))
                  refine wpQuiet_nil ?_
                  intro w3 hx3
                  have hxn := hx.trans hx3
                  have hon := ho.ext hx3
                  have HK := Lib.hid (HS.out.skip (fun _ h _ => by unfold folO at h; rw [h0] at h; cases h))
                  clear h1 h0
                  go_wp2_with fail
                  exact ⟨⟨j + 1, mb, ys, by omega, rfl, rfl, hxn, hon, Lib.hid HK.out⟩, by simp only [intOf]; omega⟩
                | false =>
                  rw [h0] at hoc
                  cases h2 : bth ys j with
                  | true =>
                    rw [h2] at hbj
                    go_wp2_with fail
                    refine wp_region_after (by kernel_rfl) (by kernel_rfl) ?_
                    intro hne
                    have hci := After.cell hbi.1 hgl
                    have hcj := After.cell hbj.1 hgl
                    have hco := After.cell hoc hol
                    have hLi := hLs.after hlt
                    have hLj := hLs.after hlt2
                    repeat (go_big_quiet_step (fail))
                    refine wpQuiet_nil ?_
                    intro w3 hx3
                    have hxn := hx.trans hx3
                    have hon := ho.ext hx3
                    have HK := Lib.hid (HS.out.skip (fun _ _ _ => h2))
                    clear h1 h2 h0
                    go_wp2_with fail
                    exact ⟨⟨j + 1, mb, ys, by omega, rfl, rfl, hxn, hon, Lib.hid HK.out⟩, by simp only [intOf]; omega⟩
                  | false =>
                    rw [h2] at hbj
                    cases hfl : folB c (leg L i) (leg L j) with
                    | false =>
                      go_wp2_with fail
                      refine wp_region_after (by kernel_rfl) (by kernel_rfl) ?_
                      intro hne
                      have hci := After.cell hbi.1 hgl
                      have hcj := After.cell hbj.1 hgl
                      have hco := After.cell hoc hol
                      have hLi := hLs.after hlt
                      have hLj := hLs.after hlt2
                      repeat (go_big_quiet_step ((go_at_call 56; exact Calls.after_eq (congrArg Value.bool hfl) (joins_calls _ (leg L i) (leg L j) c harr hc))))
                      refine wpQuiet_nil ?_
                      intro w3 hx3
                      have hxn := hx.trans hx3
                      have hon := ho.ext hx3
                      have HK := Lib.hid (HS.out.skip (fun _ h _ => by unfold folO folL at h; rw [hfl, Bool.and_false] at h; cases h))
                      clear h1 h2 hfl h0
                      go_wp2_with fail
                      exact ⟨⟨j + 1, mb, ys, by omega, rfl, rfl, hxn, hon, Lib.hid HK.out⟩, by simp only [intOf]; omega⟩
                    | true =>
                      go_wp2_with fail
                      refine wp_region_after (by kernel_rfl) (by kernel_rfl) ?_
                      intro hne
                      have hci := After.cell hbi.1 hgl
                      have hcj := After.cell hbj.1 hgl
                      have hco := After.cell hoc hol
                      have hLi := hLs.after hlt
                      have hLj := hLs.after hlt2
                      repeat (go_big_quiet_step ((go_at_call 56; exact Calls.after_eq (congrArg Value.bool hfl) (joins_calls _ (leg L i) (leg L j) c harr hc))))
                      refine wpQuiet_nil ?_
                      intro w3 hx3
                      have hxn := hx.trans hx3
                      have hon := ho.ext hx3
                      have HK := Lib.hid (HS.out.add hlt hlt2 h1 h2 (by unfold folO folL; rw [hfl, h0]; rfl) rfl)
                      have hbj3 := hon.boolAt j (by omega)
                      have hgl3 := (hon.lt g rfl).2
                      rw [h2] at hbj3
                      obtain ⟨hcj3, hfj3⟩ := hbj3
                      clear h1 h2 h0 hfl hci hcj hco hLi hLj
                      go_wp2_with fail
                      exact ⟨⟨j + 1, true, ys.set j true, by omega, rfl, rfl, hxn.setOwn _ _ hgb, hon.setBool j (by omega) true, Lib.hid HK.out⟩, by simp only [intOf]; omega⟩
            · obtain rfl : j = L.length := by omega
              go_wp2_with fail
              exact ⟨⟨i + 1, mb, ys, by omega, rfl, rfl, hx, ho, Lib.hid HS.out.row⟩, by simp only [intOf]; omega⟩
        · obtain rfl : i = L.length := by omega
          go_wp2_with fail
          have hh := HS.out.head HC.out
          go_roundg (gk - 1)
          case measure => exact hh.2
          case rel => exact ⟨mb, ys, rfl, hx, ho, Lib.hid hh.1⟩
end Go.Proofs.Ytmmjjfjbhogfgaa

/- Needed of the specification: which legs. -/
namespace Go.Proofs.Ytmmjjfjbhogfgaa
open Go.RowKit
attribute [local go_sem] Leg.val run_store_fn

theorem bth_replicate (m i : Nat) : bth (List.replicate m false) i = false := by
  unfold bth
  rw [List.getD_eq_getElem?_getD, List.getElem?_replicate]
  split <;> rfl
theorem replicate_back (m i : Nat) : ((List.replicate m false).set i true).set i false = List.replicate m false := by
  rw [List.set_set]
  refine List.ext_getElem (by simp) (fun j h1 h2 => ?_)
  rw [List.getElem_set]
  split <;> simp
theorem bth_one (m d i : Nat) (hd : d < m) : bth ((List.replicate m false).set d true) i = decide (i = d) := by
  rw [bth_set _ d i true (by simpa using hd)]
  split
  · rename_i e; simp [e]
  · rename_i e; rw [bth_replicate]; simp [e]
def RefNeedRes (w : World) (n : Int) (L : List Leg) (c src dst at_ by_ : Int) (e : Ending) (w' : World) : Prop :=
  ∃ ao cap R er, e = .returned (.tuple #[.slice ao R.length cap, .int .i64 er]) ∧ IntsIn w' ao (nats R) ∧ NeedOf n L c src dst at_ by_ R er ∧ Ext w w'

set_option maxRecDepth 100000 in
set_option maxHeartbeats 8000000 in
theorem refNeeded_calls (w : World) (n : Int) (ao : Option Addr) (cap : Nat) (L : List Leg) (c src dst at_ by_ : Int) (hL : LegsIn w ao L) (hlen : L.length ≤ 10000000) :
    Calls Try.prog 32 #[.int .i64 n, .slice ao L.length cap, .int .i64 c, .int .i64 src, .int .i64 dst, .int .i64 at_, .int .i64 by_] w (RefNeedRes w n L c src dst at_ by_) := by
  obtain ⟨i0, hi, hz0, hz1, hz2⟩ := info_parts info_int
  obtain ⟨j0, hj, hy0, hy1, hy2⟩ := info_parts info_bool
  go_enter Try.func32, Try.ntmps32
  go_wp2_with fail
  have hts := two_ints w 3 at_ by_
  have hx4 : Ext w (w.alloc (Obj.cells #[Value.int IntKind.i64 at_, Value.int IntKind.i64 by_] 3)) := (by repeat (first | exact Ext.refl _ | assumption | refine Ext.alloc ?_ _ | refine Ext.drewN ?_ _ | refine Ext.drew ?_))
  generalize (w.alloc (Obj.cells #[Value.int IntKind.i64 at_, Value.int IntKind.i64 by_] 3)) = w4 at *
  refine (good_calls w4 n ao cap L c src dst _ 2 [at_, by_] (hL.ext hx4) hlen hts (by simp)).mono ?_
  rintro e wC ⟨rfl, hx5⟩
  have hxC := hx4.trans hx5
  cases hne : (goodE n L c src dst [at_, by_] != 0) with
  | true =>
    have hg : goodE n L c src dst [at_, by_] ≠ 0 := by simpa using hne
    have HG := Lib.hid hg
    clear hg hts
    go_wp2_with fail
    go_ret2
    exact ⟨none, 0, [], _, rfl, fun k hk => by simp [nats] at hk, .inl ⟨HG.out, rfl, rfl⟩, hxC⟩
  | false =>
    have hg : goodE n L c src dst [at_, by_] = 0 := by simpa using hne
    have HG := Lib.hid hg
    have hgood := good_iff.1 hg
    have hlen2 := hgood.len
    have hc : 0 ≤ c ∧ c ≤ 101 := by have := hgood.change; omega
    have HF := Lib.hid hgood.fine
    clear hgood hts
    rw [hg] at hne ⊢
    clear hg
    cases hsd : (src == dst) with
    | true =>
      have hsd' : src = dst := by simpa using hsd
      have HS := Lib.hid hsd'
      clear hsd'
      cases hab : decide (by_ < at_) with
      | true =>
        go_wp2_with fail
        go_ret2
        exact ⟨none, 0, [], _, rfl, fun k hk => by simp [nats] at hk, .inr (.inl ⟨HG.out, HS.out, rfl, by rw [if_pos (by simpa using hab)]⟩), hxC⟩
      | false =>
        go_wp2_with fail
        go_ret2
        exact ⟨none, 0, [], _, rfl, fun k hk => by simp [nats] at hk, .inr (.inl ⟨HG.out, HS.out, rfl, by rw [if_neg (by simpa using hab)]⟩), hxC⟩
    | false =>
      have hsd' : src ≠ dst := by simpa using hsd
      have HS := Lib.hid hsd'
      clear hsd'
      have hLC := hL.ext hxC
      go_wp2_with (at_make; refine wpList_make_Own _ rfl _ _ 65 rfl 4 j0 (.bool false) Try.underlying65 hj hy0 hy1 rfl _ _ L.length rfl rfl rfl rfl (by rw [hy2]; omega) (by unfold maxLen; omega) ?_; intro g off cap1 w1 ho1 hx1)
      have ho1' : Own w1 wC.heap.size 1 (.slice (some ⟨g, off, none⟩) L.length cap1) (bools (List.replicate L.length false)) := by simpa [bools] using ho1
      clear ho1
      refine (reaches_calls w1 ao cap L c src dst at_ by_ n g off cap1 _ (hLC.ext hx1) (by omega) hc HF.out ho1'.boolsIn (by simp)).mono ?_
      rintro e w2 ⟨b, rfl, hb, hx2⟩
      have HB : Hid (b = true ↔ Goes c L src dst at_ by_) := Lib.hid (hb.trans (goesOut_none (fun i _ => bth_replicate _ i)))
      clear hb
      have hx12 := hx1.trans hx2
      have ho2 := ho1'.ext hx2
      cases b with
      | false =>
        have HN : Hid (¬ Goes c L src dst at_ by_) := Lib.hid (fun h => by have := HB.out.2 h; cases this)
        go_wp2_with fail
        go_ret2
        exact ⟨none, 0, [], _, rfl, fun k hk => by simp [nats] at hk, .inr (.inr (.inl ⟨HG.out, HS.out, HN.out, rfl, rfl⟩)), hxC.trans hx12⟩
      | true =>
        have HGO := Lib.hid (HB.out.1 rfl)
        have hgW := (ho2.lt g rfl)
        obtain ⟨W, hW⟩ : ∃ W, W = w2.heap.size := ⟨_, rfl⟩
        have hs12 := hx12.size
        go_wp2_with fail
        go_loopw [19, 18] (fun i ov wr => ∃ (k : Nat) (outv : Value) (R : List Nat), k ≤ L.length ∧ i = .int .i64 k ∧ outv = ov ∧ Ext wC wr ∧ W ≤ wr.heap.size ∧ Own wr wC.heap.size 1 (.slice (some ⟨g, off, none⟩) L.length cap1) (bools (List.replicate L.length false)) ∧ Own wr W 1 outv (ints (nats R)) ∧ R.length ≤ k ∧ Hid (NeedIn c L src dst at_ by_ k R)) (fun i _ _ => L.length - (intOf i).toNat)
        case atStart => exact ⟨0, _, [], by omega, rfl, rfl, hx12, by omega, ho2, Own.nil _ _ _, by simp, Lib.hid (NeedIn.start _ _ _ _ _ _)⟩
        case round =>
          clear ho2
          obtain ⟨k, outv, R, hk, rfl, rfl, hx, hWr, hoo, ho, hRk, HN⟩ := hrel
          by_cases hlt : k < L.length
          · have hbk := hoo.boolAt k (by simpa using hlt)
            rw [bth_replicate] at hbk
            have hgr := hoo.lt g rfl
            go_wp2_with fail
            have hoo3 := hoo.setBool k (by simpa using hlt) true
            have hx3 := hx.setOwn ⟨g, off + k, none⟩ (.bool true) hgr.1
            have ho3 := ho.keep (grownBy_setCell wr ⟨g, off + k, none⟩ (.bool true)) (by
              right
              intro e
              have := (ho.lt g e).1
              omega)
            have hs3 : (wr.setCell ⟨g, off + k, none⟩ (.bool true)).heap.size = wr.heap.size := by simp [World.setCell]
            generalize wr.setCell ⟨g, off + k, none⟩ (.bool true) = w3 at *
            refine (reaches_calls w3 ao cap L c src dst at_ by_ n g off cap1 _ (hLC.ext hx3) (by omega) hc HF.out hoo3.boolsIn (by simp)).mono ?_
            rintro e w5 ⟨b, rfl, hb, hx35⟩
            have HB2 : Hid (b = true ↔ GoesBut c L src dst at_ by_ k) := Lib.hid (hb.trans (goesOut_one (fun i _ => bth_one _ k i hlt)))
            clear hb
            have hoo5 := hoo3.ext hx35
            have ho5 := ho3.ext hx35
            have hx5 := hx3.trans hx35
            have hs5 := hx35.size
            have hbk5 := hoo5.boolAt k (by simpa using hlt)
            cases b with
            | true =>
              have HK := Lib.hid (HN.out.skip (HB2.out.1 rfl))
              obtain ⟨hck5, hfk5⟩ := hbk5
              go_wp2_with fail
              have hoo6 := hoo5.setBool k (by simpa using hlt) false
              rw [replicate_back] at hoo6
              have ho6 := ho5.keep (grownBy_setCell w5 ⟨g, off + k, none⟩ (.bool false)) (by
                right
                intro e
                have := (ho5.lt g e).1
                omega)
              exact ⟨⟨k + 1, _, R, by omega, rfl, rfl, hx5.setOwn _ _ hgr.1, by simp [World.setCell]; omega, hoo6, ho6, by omega, Lib.hid HK.out⟩, by simp only [intOf]; omega⟩
            | false =>
              have HK := Lib.hid (HN.out.add (fun h => by have := HB2.out.2 h; cases this))
              clear hbk5
              go_wp2_with (at_builtin; refine wpList_append_Own _ rfl _ _ 25 rfl 3 i0 (.int .i64 0) 1 8 Try.underlying25 hi hz0 hz1 hz2 rfl (by omega) W _ _ rfl (Own.ext ho5 ((Ext.refl _).alloc _)) (by simp; omega) _ 1 1 [.int .i64 (k : Int)] rfl rfl (one_cell _ _ _ _ rfl) (by simp [Value.oneCell']) (by simp [ints_length, nats_length]; unfold maxLen; omega) (by simp [ints_length, nats_length]; omega) ?_; intro v' w6 ho6 hg6 hb6; rw [ints_snoc, nats_snoc] at ho6; have hoo6 := (hoo5.ext ((Ext.refl w5).alloc (.cells #[.int .i64 (k : Int)] 3))).keep hg6 (by right; intro e; have := (ho5.lt g e.symm).1; omega); have hx6 : Ext wC w6 := (hx5.alloc _).onto hg6 (fun q hq => by have := (ho5.lt q hq).1; omega); have hs6 := hg6.size; simp only [World.size_alloc] at hs6; obtain ⟨hck6, hfk6⟩ := hoo6.boolAt k (by simpa using hlt))
              have hoo7 := hoo6.setBool k (by simpa using hlt) false
              rw [replicate_back] at hoo7
              have ho7 := ho6.keep (grownBy_setCell w6 ⟨g, off + k, none⟩ (.bool false)) (by
                right
                intro e
                have := (ho6.lt g e).1
                omega)
              exact ⟨⟨k + 1, _, R ++ [k], by omega, rfl, rfl, hx6.setOwn _ _ hgr.1, by simp [World.setCell]; omega, hoo7, ho7, by simp; omega, Lib.hid HK.out⟩, by simp only [intOf]; omega⟩
          · obtain rfl : k = L.length := by omega
            obtain ⟨yo, ycap, rfl, hyi, -⟩ := ho.intsShape
            rw [nats_length]
            go_wp2_with fail
            go_ret2
            exact ⟨yo, ycap, R, 0, rfl, hyi, .inr (.inr (.inr ⟨HG.out, HS.out, HGO.out, HN.out, rfl⟩)), hxC.trans hx⟩
end Go.Proofs.Ytmmjjfjbhogfgaa
