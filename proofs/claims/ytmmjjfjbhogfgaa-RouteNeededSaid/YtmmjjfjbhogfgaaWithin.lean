/- Needed: which legs are in some journey of a time; a timetable without a leg. -/
import Derived.Test.YtmmjjfjbhogfgaaLate
import Derived.Test.YtmmjjfjbhogfgaaAlive
namespace Go.Proofs.Ytmmjjfjbhogfgaa
open Go.RowKit
attribute [local go_sem] Leg.val run_store_fn

theorem within1_calls (w : World) (b1 b2 : Nat) (src at_ : Int) (l : Leg) (h1 : IntBox w b1 src) (h2 : IntBox w b2 at_) :
    Calls Try.prog 86 #[l.val, .pointer (some ⟨b1, 0, none⟩), .pointer (some ⟨b2, 0, none⟩)] w fun e w' => e = .returned (.bool (begB src at_ l)) ∧ Ext w w' := by
  obtain ⟨h1l, h1c⟩ := h1
  obtain ⟨h2l, h2c⟩ := h2
  go_enter Try.func86, Try.ntmps86
  go_wp2_with (go_at_call 48; refine (begins_calls _ l src at_).mono ?_; rintro e w' ⟨rfl, hx⟩)
  go_ret
  exact ⟨rfl, ((Ext.refl w).alloc _).trans hx⟩
theorem within2_calls (w : World) (b1 b2 : Nat) (dst a : Int) (l : Leg) (h1 : IntBox w b1 dst) (h2 : IntBox w b2 a) :
    Calls Try.prog 87 #[l.val, .pointer (some ⟨b1, 0, none⟩), .pointer (some ⟨b2, 0, none⟩)] w fun e w' => e = .returned (.bool (lastB dst a l)) ∧ Ext w w' := by
  obtain ⟨h1l, h1c⟩ := h1
  obtain ⟨h2l, h2c⟩ := h2
  go_enter Try.func87, Try.ntmps87
  cases hd : (l.To == dst) with
  | true =>
    go_wp2_with fail
    go_ret
    refine ⟨ret_bool ?_, (by repeat (first | exact Ext.refl _ | assumption | refine Ext.alloc ?_ _ | refine Ext.drewN ?_ _ | refine Ext.drew ?_))⟩
    simp at hd
    simp [lastB, hd]
  | false =>
    go_wp2_with fail
    go_ret
    refine ⟨ret_bool ?_, (by repeat (first | exact Ext.refl _ | assumption | refine Ext.alloc ?_ _ | refine Ext.drewN ?_ _ | refine Ext.drew ?_))⟩
    simp at hd
    simp [lastB, hd]
theorem pred_within1 (w : World) (b1 b2 : Nat) (src at_ : Int) (h1 : IntBox w b1 src) (h2 : IntBox w b2 at_) :
    Pred w 86 #[.pointer (some ⟨b1, 0, none⟩), .pointer (some ⟨b2, 0, none⟩)] (fun _ => True) (begB src at_) :=
  ⟨by intro args w'; simp [go_sem], fun w' l hx _ => within1_calls w' b1 b2 src at_ l (h1.ext hx) (h2.ext hx)⟩
theorem pred_within2 (w : World) (b1 b2 : Nat) (dst a : Int) (h1 : IntBox w b1 dst) (h2 : IntBox w b2 a) :
    Pred w 87 #[.pointer (some ⟨b1, 0, none⟩), .pointer (some ⟨b2, 0, none⟩)] (fun _ => True) (lastB dst a) :=
  ⟨by intro args w'; simp [go_sem], fun w' l hx _ => within2_calls w' b1 b2 dst a l (h1.ext hx) (h2.ext hx)⟩
theorem boxesI (w : World) (t : TypeId) (a b c d : Int) :
    Ext w ((((w.alloc (Obj.cells #[Value.int IntKind.i64 a] t)).alloc (Obj.cells #[Value.int IntKind.i64 b] t)).alloc (Obj.cells #[Value.int IntKind.i64 c] t)).alloc (Obj.cells #[Value.int IntKind.i64 d] t)) ∧
    IntBox ((((w.alloc (Obj.cells #[Value.int IntKind.i64 a] t)).alloc (Obj.cells #[Value.int IntKind.i64 b] t)).alloc (Obj.cells #[Value.int IntKind.i64 c] t)).alloc (Obj.cells #[Value.int IntKind.i64 d] t)) w.heap.size a ∧
    IntBox ((((w.alloc (Obj.cells #[Value.int IntKind.i64 a] t)).alloc (Obj.cells #[Value.int IntKind.i64 b] t)).alloc (Obj.cells #[Value.int IntKind.i64 c] t)).alloc (Obj.cells #[Value.int IntKind.i64 d] t)) (w.heap.size + 1) b ∧
    IntBox ((((w.alloc (Obj.cells #[Value.int IntKind.i64 a] t)).alloc (Obj.cells #[Value.int IntKind.i64 b] t)).alloc (Obj.cells #[Value.int IntKind.i64 c] t)).alloc (Obj.cells #[Value.int IntKind.i64 d] t)) (w.heap.size + 1 + 1) c ∧
    IntBox ((((w.alloc (Obj.cells #[Value.int IntKind.i64 a] t)).alloc (Obj.cells #[Value.int IntKind.i64 b] t)).alloc (Obj.cells #[Value.int IntKind.i64 c] t)).alloc (Obj.cells #[Value.int IntKind.i64 d] t)) (w.heap.size + 1 + 1 + 1) d := by
  obtain ⟨h1, h2, h3, h4, h5⟩ := boxes4 w t a b c d
  refine ⟨h1, h2, h3, h4, ?_⟩
  obtain ⟨b, off, e, hl, hc⟩ := h5 0 (by simp)
  simp only [Option.some.injEq, Addr.mk.injEq, and_true] at e
  obtain ⟨rfl, rfl⟩ := e
  exact ⟨hl, hc⟩

/-! Is there a true one? -/
theorem indexB_calls (w : World) (ao : Option Addr) (cap : Nat) (xs : List Bool) (h : BoolsIn w ao xs) (hlen : xs.length ≤ 10000000) :
    Calls Try.prog 88 #[.slice ao xs.length cap, .bool true] w fun e w' => (∃ r, e = .returned (.int .i64 r) ∧ IdxOf xs.length (bth xs) r) ∧ Ext w w' := by
  go_enter Try.func88, Try.ntmps88
  go_wp2_with fail
  go_loopw [8] (fun i wr => ∃ k : Nat, k ≤ xs.length ∧ i = .int .i64 k ∧ Ext w wr ∧ Hid (∀ j, j < k → bth xs j = false)) (fun i _ => xs.length - (intOf i).toNat)
  case atStart => exact ⟨0, by omega, rfl, Ext.refl _, Lib.hid (fun j hj => by omega)⟩
  case round =>
    obtain ⟨k, hk, rfl, hx, HN⟩ := hrel
    by_cases hlt : k < xs.length
    · obtain ⟨b, off, hao, hb, hc⟩ := (h.ext hx) k hlt
      subst hao
      cases hF : bth xs k with
      | true =>
        have HF := Lib.hid hF
        rw [hF] at hc
        clear hF
        go_wp2_with fail
        go_ret
        exact ⟨⟨_, rfl, .inr ⟨k, rfl, hlt, HF.out⟩⟩, hx⟩
      | false =>
        have HF := Lib.hid hF
        rw [hF] at hc
        clear hF
        go_wp2_with fail
        refine ⟨⟨k + 1, by omega, rfl, hx, Lib.hid (fun j hj => ?_)⟩, by simp only [intOf]; omega⟩
        rcases Nat.lt_or_ge j k with h | h
        · exact HN.out j h
        · rw [show j = k by omega]; exact HF.out
    · go_wp2_with fail
      go_ret
      exact ⟨⟨_, rfl, .inl ⟨rfl, fun j hj => HN.out j (by omega)⟩⟩, hx⟩
theorem containsB_calls (w : World) (ao : Option Addr) (cap : Nat) (xs : List Bool) (h : BoolsIn w ao xs) (hlen : xs.length ≤ 10000000) {m : Nat} (hm : xs.length = m) :
    Calls Try.prog 62 #[.slice ao m cap, .bool true] w fun e w' => e = .returned (.bool (anyB m (bth xs))) ∧ Ext w w' := by
  subst hm
  go_enter Try.func62, Try.ntmps62
  go_wp2_with (go_at_call 88; refine (indexB_calls _ ao cap xs h hlen).mono ?_; rintro e w' ⟨⟨r, rfl, hr⟩, hx⟩; have HR := Lib.hid hr; clear hr)
  go_ret
  exact ⟨ret_bool HR.out.any, hx⟩

/-! The legs that are in some journey. -/
def WithinRes (w : World) (m : Nat) (P : Nat → Prop) (e : Ending) (w' : World) : Prop :=
  ∃ v xs, e = .returned v ∧ Own w' w.heap.size 1 v (bools xs) ∧ xs.length = m ∧ (∀ i, i < m → (bth xs i = true ↔ P i)) ∧ Ext w w'
structure Both (m : Nat) (xs : List Bool) (zs : List Int) (ys : List Bool) (k : Nat) : Prop where
  len : ys.length = m
  low : ∀ i, i < k → i < m → bth ys i = (bth xs i && decide (0 < ith zs i))
  high : ∀ i, k ≤ i → i < m → bth ys i = bth xs i
theorem Both.step {m : Nat} {xs : List Bool} {zs : List Int} {ys : List Bool} {k : Nat} (h : Both m xs zs ys k) (hk : k < m) {u : Bool} (hu : u = (bth ys k && decide (0 < ith zs k))) : Both m xs zs (ys.set k u) (k + 1) := by
  refine ⟨by simpa using h.len, fun i hi hm => ?_, fun i hi hm => ?_⟩
  · rw [bth_set ys k i u (by rw [h.len]; exact hk)]
    split
    · rename_i e
      subst e
      rw [hu, h.high i (Nat.le_refl _) hm]
    · exact h.low i (by omega) hm
  · rw [bth_set ys k i u (by rw [h.len]; exact hk), if_neg (by omega)]
    exact h.high i (by omega) hm

set_option maxRecDepth 100000 in
set_option maxHeartbeats 4000000 in
theorem within_calls (w : World) (tb : Nat) (n : Int) (ao : Option Addr) (cap : Nat) (L : List Leg) (c src dst at_ by_ : Int) (hT : TableIn w tb n ao L.length cap c) (hL : LegsIn w ao L) (hlen : L.length ≤ 100) (hc : 0 ≤ c ∧ c ≤ 101) (hfine : ∀ k, k < L.length → Fine n (leg L k)) :
    Calls Try.prog 61 #[.pointer (some ⟨tb, 0, none⟩), .int .i64 src, .int .i64 dst, .int .i64 at_, .int .i64 by_] w
      (WithinRes w L.length (fun i => ComeTo c L (fun i => begB src at_ (leg L i)) i ∧ GoesTo c L (fun i => lastB dst by_ (leg L i)) i)) := by
  have HF := Lib.hid hfine
  clear hfine
  go_enter Try.func61, Try.ntmps61
  go_wp2_with fail
  obtain ⟨hx4, hb1, hb2, hb3, hb4⟩ := boxesI w 3 src dst at_ by_
  generalize (((w.alloc (Obj.cells #[Value.int IntKind.i64 src] 3)).alloc (Obj.cells #[Value.int IntKind.i64 dst] 3)).alloc (Obj.cells #[Value.int IntKind.i64 at_] 3)).alloc (Obj.cells #[Value.int IntKind.i64 by_] 3) = w4 at *
  refine (reached_calls w4 tb n ao cap L c _ _ _ _ (hT.ext hx4) (hL.ext hx4) hlen (pred_within1 w4 _ _ src at_ hb1 hb3) (fun _ _ => trivial) hc HF.out).mono ?_
  rintro e w5 ⟨v, xs, rfl, hoR, hR, hx5⟩
  have HR := Lib.hid hR
  have hxl := hR.1
  clear hR
  have hx05 := hx4.trans hx5
  obtain ⟨ro, rcap, rfl, hRin, -⟩ := hoR.boolsShape
  rw [hxl] at hoR ⊢
  go_wp2_with fail
  refine (steps_calls w5 tb n ao cap L c _ _ _ _ (hT.ext hx05) (hL.ext hx05) hlen (pred_within2 w5 _ _ dst by_ (hb2.ext hx5) (hb4.ext hx5)) (fun _ _ => trivial) hc HF.out).mono ?_
  rintro e w6 ⟨v2, zs, rfl, hoS, hS, hx6⟩
  have HS := Lib.hid hS
  have hzl := hS.length
  clear hS
  have hx06 := hx05.trans hx6
  obtain ⟨so, scap, rfl, hSin, -⟩ := hoS.intsShape
  rw [hzl] at hoS ⊢
  have hRin6 := hRin.ext hx6
  have hs4 := hx4.size
  have hs5 := hx5.size
  have hs6 := hx6.size
  go_wp2_with fail
  go_loopw [21] (fun ii ws => ∃ (i : Nat) (ys : List Bool), i ≤ L.length ∧ ii = .int .i64 i ∧ Ext w ws ∧ Own ws w4.heap.size 1 (.slice ro L.length rcap) (bools ys) ∧ Own ws w5.heap.size 1 (.slice so L.length scap) (ints zs) ∧ Hid (Both L.length xs zs ys i)) (fun ii _ => L.length - (intOf ii).toNat)
  case atStart => exact ⟨0, xs, by omega, rfl, hx06, hoR.ext hx6, hoS, Lib.hid ⟨hxl, fun i hi => by omega, fun i _ _ => rfl⟩⟩
  case round =>
    rename World => ws
    obtain ⟨i, ys, hi2, rfl, hx, ho, hos, HB⟩ := hrel
    by_cases hlt : i < L.length
    · obtain ⟨rb, rf, hro, hrb, -⟩ := hRin i (by omega)
      subst hro
      obtain ⟨sb, sf, hso, hsb, -⟩ := hSin i (by omega)
      subst hso
      have hyl := HB.out.len
      have hby := ho.boolAt i (by omega)
      have hiz := hos.intAt i (by omega)
      have hrl := ho.lt rb rfl
      have hsl := hos.lt sb rfl
      have hst := fun u => ho.setBool i (by omega) u
      have hkp := fun u => hos.keep (grownBy_setCell ws ⟨rb, rf + i, none⟩ u) (by right; simp [Value.ownBlock]; omega)
      cases h1 : bth ys i with
      | false =>
        rw [h1] at hby
        have HK := Lib.hid (HB.out.step hlt (u := false) (by rw [h1]; rfl))
        clear h1
        go_wp2_with fail
        exact ⟨⟨i + 1, _, by omega, rfl, hx.setOwn _ _ (by simp only; omega), hst _, hkp _, Lib.hid HK.out⟩, by simp only [intOf]; omega⟩
      | true =>
        rw [h1] at hby
        cases h2 : decide (0 < ith zs i) with
        | false =>
          have HK := Lib.hid (HB.out.step hlt (u := false) (by rw [h1, h2]; rfl))
          clear h1
          go_wp2_with fail
          exact ⟨⟨i + 1, _, by omega, rfl, hx.setOwn _ _ (by simp only; omega), hst _, hkp _, Lib.hid HK.out⟩, by simp only [intOf]; omega⟩
        | true =>
          have HK := Lib.hid (HB.out.step hlt (u := true) (by rw [h1, h2]; rfl))
          clear h1
          go_wp2_with fail
          exact ⟨⟨i + 1, _, by omega, rfl, hx.setOwn _ _ (by simp only; omega), hst _, hkp _, Lib.hid HK.out⟩, by simp only [intOf]; omega⟩
    · obtain rfl : i = L.length := by omega
      go_wp2_with fail
      go_ret
      refine ⟨_, ys, rfl, ho.rebase hs4, HB.out.len, fun i hi => ?_, hx⟩
      rw [HB.out.low i hi hi, Bool.and_eq_true, HR.out.2 i hi, decide_eq_true_eq, HS.out.goesTo i hi]
      exact Iff.rfl
end Go.Proofs.Ytmmjjfjbhogfgaa
