/- The searches of the library: IndexFunc and ContainsFunc over legs and over integers, Index and Contains over booleans; and the timetable's own check (of). -/
import Derived.Test.YtmmjjfjbhogfgaaOwn
import Derived.Test.YtmmjjfjbhogfgaaLeaf
namespace Go.Proofs.Ytmmjjfjbhogfgaa
open Go.RowKit
attribute [local go_sem] Leg.val run_store_fn

/-- A number at which p holds below n, or -1. -/
def IdxOf (n : Nat) (p : Nat → Bool) (r : Int) : Prop := (r = -1 ∧ ∀ k, k < n → p k = false) ∨ ∃ k : Nat, r = (k : Int) ∧ k < n ∧ p k = true
def anyB (n : Nat) (p : Nat → Bool) : Bool := (List.range n).any p
theorem anyB_true {n : Nat} {p : Nat → Bool} : anyB n p = true ↔ ∃ k, k < n ∧ p k = true := by simp [anyB]
theorem anyB_false {n : Nat} {p : Nat → Bool} : anyB n p = false ↔ ∀ k, k < n → p k = false := by simp [anyB]
theorem IdxOf.any {n : Nat} {p : Nat → Bool} {r : Int} (h : IdxOf n p r) : decide (0 ≤ r) = anyB n p := by
  rw [Bool.eq_iff_iff, anyB_true]
  rcases h with ⟨rfl, h⟩ | ⟨k, rfl, hk, hp⟩
  · simp; intro k hk; exact h k hk
  · simp only [Int.natCast_nonneg, decide_true, true_iff]; exact ⟨k, hk, hp⟩

structure PredI (w : World) (f : FuncId) (caps : Array Value) (F : Int → Bool) : Prop where
  enter : ∀ args w', Sem.run Try.prog (callFunc f args) w' = .ok (.enter f args) w'
  call : ∀ w' x, Ext w w' → Calls Try.prog f (#[.int .i64 x] ++ caps) w' fun e w'' => e = .returned (.bool (F x)) ∧ Ext w' w''

set_option maxRecDepth 100000 in
theorem indexFunc_calls (w : World) (ao : Option Addr) (cap : Nat) (L : List Leg) (f : FuncId) (caps : Array Value) (G : Leg → Prop) (F : Leg → Bool)
    (hL : LegsIn w ao L) (hlen : L.length ≤ 10000000) (hp : Pred w f caps G F) (hG : ∀ k, k < L.length → G (leg L k)) :
    Calls Try.prog 96 #[.slice ao L.length cap, .func (.func f) #[] caps] w fun e w' =>
      (∃ r, e = .returned (.int .i64 r) ∧ IdxOf L.length (fun k => F (leg L k)) r) ∧ Ext w w' := by
  have HG := Lib.hid hG
  clear hG
  have hent := hp.enter
  go_enter Try.func96, Try.ntmps96
  go_wp2_with fail
  go_loopw [8] (fun i wr => ∃ k : Nat, k ≤ L.length ∧ i = .int .i64 k ∧ Ext w wr ∧ Hid (∀ j, j < k → F (leg L j) = false)) (fun i _ => L.length - (intOf i).toNat)
  case atStart => exact ⟨0, by omega, rfl, Ext.refl _, Lib.hid (fun j hj => by omega)⟩
  case round =>
    obtain ⟨k, hk, rfl, hx, HN⟩ := hrel
    by_cases hlt : k < L.length
    · obtain ⟨b, off, hao, hb, h0, h1, h2, h3, h4⟩ := hL.ext hx k hlt
      subst hao
      go_wp2_with fail
      refine (hp.call _ (leg L k) hx (HG.out k hlt)).mono ?_
      rintro e w1 ⟨rfl, hx1⟩
      cases hF : F (leg L k) with
      | true =>
        have HF := Lib.hid hF
        clear hF
        go_wp2_with fail
        go_ret
        exact ⟨⟨_, rfl, .inr ⟨k, rfl, hlt, HF.out⟩⟩, hx.trans hx1⟩
      | false =>
        have HF := Lib.hid hF
        clear hF
        go_wp2_with fail
        refine ⟨⟨k + 1, by omega, rfl, hx.trans hx1, Lib.hid (fun j hj => ?_)⟩, by simp only [intOf]; omega⟩
        rcases Nat.lt_or_ge j k with h | h
        · exact HN.out j h
        · rw [show j = k by omega]; exact HF.out
    · go_wp2_with fail
      go_ret
      exact ⟨⟨_, rfl, .inl ⟨rfl, fun j hj => HN.out j (by omega)⟩⟩, hx⟩

theorem containsFunc_calls (w : World) (ao : Option Addr) (cap : Nat) (L : List Leg) (f : FuncId) (caps : Array Value) (G : Leg → Prop) (F : Leg → Bool)
    (hL : LegsIn w ao L) (hlen : L.length ≤ 10000000) (hp : Pred w f caps G F) (hG : ∀ k, k < L.length → G (leg L k)) :
    Calls Try.prog 79 #[.slice ao L.length cap, .func (.func f) #[] caps] w fun e w' =>
      e = .returned (.bool (anyB L.length (fun k => F (leg L k)))) ∧ Ext w w' := by
  have HG := Lib.hid hG
  clear hG
  go_enter Try.func79, Try.ntmps79
  go_wp2_with (go_at_call 96; refine (indexFunc_calls _ ao cap L f caps G F hL hlen hp HG.out).mono ?_; rintro e w' ⟨⟨r, rfl, hr⟩, hx⟩; have HR := Lib.hid hr; clear hr)
  go_ret
  exact ⟨ret_bool HR.out.any, hx⟩

set_option maxRecDepth 100000 in
theorem indexFuncI_calls (w : World) (ao : Option Addr) (cap : Nat) (L : List Int) (f : FuncId) (caps : Array Value) (F : Int → Bool)
    (hL : IntsIn w ao L) (hlen : L.length ≤ 10000000) (hp : PredI w f caps F) :
    Calls Try.prog 97 #[.slice ao L.length cap, .func (.func f) #[] caps] w fun e w' =>
      (∃ r, e = .returned (.int .i64 r) ∧ IdxOf L.length (fun k => F (ith L k)) r) ∧ Ext w w' := by
  have hent := hp.enter
  go_enter Try.func97, Try.ntmps97
  go_wp2_with fail
  go_loopw [8] (fun i wr => ∃ k : Nat, k ≤ L.length ∧ i = .int .i64 k ∧ Ext w wr ∧ Hid (∀ j, j < k → F (ith L j) = false)) (fun i _ => L.length - (intOf i).toNat)
  case atStart => exact ⟨0, by omega, rfl, Ext.refl _, Lib.hid (fun j hj => by omega)⟩
  case round =>
    obtain ⟨k, hk, rfl, hx, HN⟩ := hrel
    by_cases hlt : k < L.length
    · obtain ⟨b, off, hao, hb, h0⟩ := hL.ext hx k hlt
      subst hao
      go_wp2_with fail
      refine (hp.call _ (ith L k) hx).mono ?_
      rintro e w1 ⟨rfl, hx1⟩
      cases hF : F (ith L k) with
      | true =>
        have HF := Lib.hid hF
        clear hF
        go_wp2_with fail
        go_ret
        exact ⟨⟨_, rfl, .inr ⟨k, rfl, hlt, HF.out⟩⟩, hx.trans hx1⟩
      | false =>
        have HF := Lib.hid hF
        clear hF
        go_wp2_with fail
        refine ⟨⟨k + 1, by omega, rfl, hx.trans hx1, Lib.hid (fun j hj => ?_)⟩, by simp only [intOf]; omega⟩
        rcases Nat.lt_or_ge j k with h | h
        · exact HN.out j h
        · rw [show j = k by omega]; exact HF.out
    · go_wp2_with fail
      go_ret
      exact ⟨⟨_, rfl, .inl ⟨rfl, fun j hj => HN.out j (by omega)⟩⟩, hx⟩

theorem containsFuncI_calls (w : World) (ao : Option Addr) (cap : Nat) (L : List Int) (f : FuncId) (caps : Array Value) (F : Int → Bool)
    (hL : IntsIn w ao L) (hlen : L.length ≤ 10000000) (hp : PredI w f caps F) :
    Calls Try.prog 82 #[.slice ao L.length cap, .func (.func f) #[] caps] w fun e w' =>
      e = .returned (.bool (anyB L.length (fun k => F (ith L k)))) ∧ Ext w w' := by
  go_enter Try.func82, Try.ntmps82
  go_wp2_with (go_at_call 97; refine (indexFuncI_calls _ ao cap L f caps F hL hlen hp).mono ?_; rintro e w' ⟨⟨r, rfl, hr⟩, hx⟩; have HR := Lib.hid hr; clear hr)
  go_ret
  exact ⟨ret_bool HR.out.any, hx⟩

theorem of1_calls (w : World) (vb tb to_ : Nat) (n : Int) (l : Leg) (hv : w.cell? ⟨vb, 0, none⟩ = some (.func (.func 78) #[.pointer (some ⟨tb, to_, none⟩)] #[])) (hvb : vb < w.heap.size) (hb : tb < w.heap.size) (hn : w.cell? ⟨tb, to_, none⟩ = some (.int .i64 n)) :
    Calls Try.prog 80 #[l.val, .pointer (some ⟨vb, 0, none⟩)] w fun e w' => e = .returned (.bool (! fineB n l)) ∧ Ext w w' := by
  go_enter Try.func80, Try.ntmps80
  go_wp2_with fail
  refine (fine_calls _ tb to_ n l (Nat.lt_of_lt_of_le hb (Ext.size (a := w) (by repeat (first | exact Ext.refl _ | assumption | refine Ext.alloc ?_ _ | refine Ext.drewN ?_ _ | refine Ext.drew ?_)))) ((Ext.cell (a := w) (by repeat (first | exact Ext.refl _ | assumption | refine Ext.alloc ?_ _ | refine Ext.drewN ?_ _ | refine Ext.drew ?_)) hb).trans hn)).mono ?_
  rintro e w' ⟨rfl, hx⟩
  go_wp2_with fail
  go_ret
  exact ⟨rfl, ((Ext.refl w).alloc _).trans hx⟩

theorem of2_calls (w : World) (x : Int) :
    Calls Try.prog 83 #[.int .i64 x] w fun e w' => e = .returned (.bool (decide (x < 0 ∨ 10000 < x))) ∧ Ext w w' := by
  go_enter Try.func83, Try.ntmps83
  go_wp2_with fail
  all_goals
    go_ret
    refine ⟨ret_bool ?_, (by repeat (first | exact Ext.refl _ | assumption | refine Ext.alloc ?_ _ | refine Ext.drewN ?_ _ | refine Ext.drew ?_))⟩
    simp at *
    try omega

/-- A timetable lies there. -/
structure TableIn (w : World) (tb : Nat) (n : Int) (ao : Option Addr) (len cap : Nat) (c : Int) : Prop where
  lt : tb < w.heap.size
  n : w.cell? ⟨tb, 0, none⟩ = some (.int .i64 n)
  legs : w.cell? ⟨tb, 1, none⟩ = some (.slice ao len cap)
  change : w.cell? ⟨tb, 2, none⟩ = some (.int .i64 c)
theorem TableIn.ext {w w' : World} {tb : Nat} {n : Int} {ao : Option Addr} {len cap : Nat} {c : Int} (h : TableIn w tb n ao len cap c) (he : Ext w w') : TableIn w' tb n ao len cap c :=
  ⟨Nat.lt_of_lt_of_le h.lt he.size, (he.cell h.lt).trans h.n, (he.cell h.lt).trans h.legs, (he.cell h.lt).trans h.change⟩

def badTime (x : Int) : Bool := decide (x < 0 ∨ 10000 < x)
def badHead (n : Int) (L : List Leg) (c src dst : Int) : Bool :=
  anyB L.length (fun k => ! fineB n (leg L k)) || decide (c < 0) || decide (100 < c) || ! placeB n src || ! placeB n dst
/-- The error of a timetable, two places and times. -/
def goodE (n : Int) (L : List Leg) (c src dst : Int) (ts : List Int) : Int :=
  if n < 1 ∨ 8 < n then 2 else if 60 < L.length then 3 else if badHead n L c src dst = true then 2 else if anyB ts.length (fun k => badTime (ith ts k)) = true then 2 else 0

theorem pred_of1 (w : World) (vb tb to_ : Nat) (n : Int) (hv : w.cell? ⟨vb, 0, none⟩ = some (.func (.func 78) #[.pointer (some ⟨tb, to_, none⟩)] #[])) (hvb : vb < w.heap.size) (hb : tb < w.heap.size) (hn : w.cell? ⟨tb, to_, none⟩ = some (.int .i64 n)) :
    Pred w 80 #[.pointer (some ⟨vb, 0, none⟩)] (fun _ => True) (fun l => ! fineB n l) := by
  refine ⟨by intro args w'; simp [go_sem], fun w' l hx _ => ?_⟩
  have hs := hx.size
  exact of1_calls w' vb tb to_ n l ((hx.cell hvb).trans hv) (by omega) (by omega) ((hx.cell hb).trans hn)
theorem pred_of2 (w : World) : PredI w 83 #[] badTime :=
  ⟨by intro args w'; simp [go_sem], fun w' x _ => of2_calls w' x⟩

set_option maxRecDepth 100000 in
theorem of_calls (w : World) (n : Int) (ao : Option Addr) (cap : Nat) (L : List Leg) (c src dst : Int) (to_ : Option Addr) (tcap : Nat) (ts : List Int)
    (hL : LegsIn w ao L) (hlen : L.length ≤ 10000000) (ht : IntsIn w to_ ts) (htl : ts.length ≤ 10000000) :
    Calls Try.prog 46 #[.int .i64 n, .slice ao L.length cap, .int .i64 c, .int .i64 src, .int .i64 dst, .slice to_ ts.length tcap] w fun e w' =>
      Ext w w' ∧ ((goodE n L c src dst ts ≠ 0 ∧ e = .returned (.tuple #[.pointer none, .int .i64 (goodE n L c src dst ts)])) ∨
        (goodE n L c src dst ts = 0 ∧ ∃ tb, e = .returned (.tuple #[.pointer (some ⟨tb, 0, none⟩), .int .i64 0]) ∧ w.heap.size ≤ tb ∧ TableIn w' tb n ao L.length cap c)) := by
  go_enter Try.func46, Try.ntmps46
  go_wp2_with fail
  case' _ => skip
  rotate_left 2
  · have hx0 : Ext w ((w.alloc (Obj.cells #[Value.int IntKind.i64 n, Value.slice ao L.length cap, Value.int IntKind.i64 c] 81)).alloc (Obj.cells #[Value.func (Fn.func 78) #[Value.pointer (some { block := w.heap.size, off := 0 })] #[]] 71)) := (by repeat (first | exact Ext.refl _ | assumption | refine Ext.alloc ?_ _ | refine Ext.drewN ?_ _ | refine Ext.drew ?_))
    have hs1 : ((w.alloc (Obj.cells #[Value.int IntKind.i64 n, Value.slice ao L.length cap, Value.int IntKind.i64 c] 81)).alloc (Obj.cells #[Value.func (Fn.func 78) #[Value.pointer (some { block := w.heap.size, off := 0 })] #[]] 71)).heap.size = w.heap.size + 2 := by simp
    have hT : TableIn ((w.alloc (Obj.cells #[Value.int IntKind.i64 n, Value.slice ao L.length cap, Value.int IntKind.i64 c] 81)).alloc (Obj.cells #[Value.func (Fn.func 78) #[Value.pointer (some { block := w.heap.size, off := 0 })] #[]] 71)) w.heap.size n ao L.length cap c := by
      refine ⟨by omega, ?_, ?_, ?_⟩ <;> simp [go_sem]
    refine (containsFunc_calls _ ao cap L _ _ (fun _ => True) (fun l => ! fineB n l) (hL.ext hx0) hlen (pred_of1 _ _ w.heap.size 0 n ?_ (by omega) (by omega) hT.n) (fun _ _ => trivial)).mono ?_
    · simp [go_sem]
    rintro e w1 ⟨rfl, hx1⟩
    have hT1 := hT.ext hx1
    have hx2 := hx0.trans hx1
    cases hA : anyB L.length (fun k => ! fineB n (leg L k)) with
    | true =>
      have HA := Lib.hid hA
      clear hA
      go_wp2_with fail
      go_ret2
      have hg : goodE n L c src dst ts = 2 := by
        have := HA.out
        unfold goodE badHead
        rw [if_neg (by omega), if_neg (by omega), if_pos (by simp [this])]
      rw [hg]
      exact ⟨hx2, .inl ⟨by decide, rfl⟩⟩
    | false =>
      have HA := Lib.hid hA
      clear hA
      go_wp2_with (first
        | (go_at_call 81; refine (place_calls _ w.heap.size 0 n _ ?_).mono ?_; (exact hT1.n); rintro e w' ⟨rfl, rfl⟩)
        | (go_at_call 82; refine (containsFuncI_calls _ to_ tcap ts _ _ badTime (ht.ext hx2) htl (pred_of2 _)).mono ?_; rintro e w' ⟨rfl, hx3⟩; have hx4 := hx2.trans hx3; have hT4 := hT1.ext hx3))
      all_goals
        go_ret2
        have hA := HA.out
        clear hs1 hT hx0 hx1
        first
        | (refine ⟨by assumption, .inr ⟨?_, _, rfl, Nat.le_refl _, by assumption⟩⟩
           have hbh : ¬ badHead n L c src dst = true := by
             simp only [badHead, hA]
             simp_all
           unfold goodE
           rw [if_neg (by omega), if_neg (by omega), if_neg hbh, if_neg (by simp_all)])
        | (refine ⟨by assumption, .inl ?_⟩
           have hg : goodE n L c src dst ts = 2 := by
             unfold goodE
             rw [if_neg (by omega), if_neg (by omega)]
             by_cases hbh : badHead n L c src dst = true
             · rw [if_pos hbh]
             · rw [if_neg hbh, if_pos ?_]
               first
               | assumption
               | (exfalso; apply hbh; simp only [badHead, hA]; simp_all; done)
               | (exfalso; apply hbh; simp only [badHead, hA]; simp_all; omega)
           rw [hg]
           exact ⟨by decide, rfl⟩)
  · go_ret2
    have hg : goodE n L c src dst ts = 2 := by unfold goodE; rw [if_pos (by omega)]
    rw [hg]
    exact ⟨(by repeat (first | exact Ext.refl _ | assumption | refine Ext.alloc ?_ _ | refine Ext.drewN ?_ _ | refine Ext.drew ?_)), .inl ⟨by decide, rfl⟩⟩
  · go_ret2
    have hg : goodE n L c src dst ts = 2 := by unfold goodE; rw [if_pos (by omega)]
    rw [hg]
    exact ⟨(by repeat (first | exact Ext.refl _ | assumption | refine Ext.alloc ?_ _ | refine Ext.drewN ?_ _ | refine Ext.drew ?_)), .inl ⟨by decide, rfl⟩⟩
  · go_ret2
    have hg : goodE n L c src dst ts = 3 := by unfold goodE; rw [if_neg (by omega), if_pos (by omega)]
    rw [hg]
    exact ⟨(by repeat (first | exact Ext.refl _ | assumption | refine Ext.alloc ?_ _ | refine Ext.drewN ?_ _ | refine Ext.drew ?_)), .inl ⟨by decide, rfl⟩⟩

end Go.Proofs.Ytmmjjfjbhogfgaa
