/- Earliest: the arrival and the least of the shortest journeys. -/
import Derived.Test.YtmmjjfjbhogfgaaArrive
namespace Go.Proofs.Ytmmjjfjbhogfgaa
open Go.RowKit
attribute [local go_sem] Leg.val run_store_fn

/-- What a valid question is. -/
structure Good (nn : Int) (L : List Leg) (c src dst : Int) (ts : List Int) : Prop where
  n : 1 ≤ nn ∧ nn ≤ 8
  len : L.length ≤ 60
  fine : ∀ k, k < L.length → Fine nn (leg L k)
  change : 0 ≤ c ∧ c ≤ 100
  src : 0 ≤ src ∧ src < nn
  dst : 0 ≤ dst ∧ dst < nn
  times : ∀ k, k < ts.length → 0 ≤ ith ts k ∧ ith ts k ≤ 10000
theorem good_iff {n : Int} {L : List Leg} {c src dst : Int} {ts : List Int} : goodE n L c src dst ts = 0 ↔ Good n L c src dst ts := by
  unfold goodE
  constructor
  · intro h
    split at h
    · omega
    · rename_i h1
      split at h
      · omega
      · rename_i h2
        split at h
        · omega
        · rename_i h3
          split at h
          · omega
          · rename_i h4
            simp only [badHead, Bool.or_eq_true, not_or, Bool.not_eq_true, decide_eq_false_iff_not, Bool.not_eq_false', anyB_false] at h3 h4
            obtain ⟨⟨⟨⟨h5, h6⟩, h7⟩, h8⟩, h9⟩ := h3
            simp [placeB] at h8 h9
            refine ⟨by omega, by omega, fun k hk => ?_, by omega, h8, h9, fun k hk => ?_⟩
            · have := h5 k hk
              simp [fineB] at this
              unfold Fine
              omega
            · have := h4 k hk
              simp [badTime] at this
              omega
  · intro h
    have h1 := h.n; have h2 := h.len; have h3 := h.change
    rw [if_neg (by omega), if_neg (by omega), if_neg, if_neg]
    · simp only [Bool.not_eq_true, anyB_false]
      intro k hk
      have := h.times k hk
      simp [badTime]; omega
    · simp only [badHead, Bool.or_eq_true, not_or, Bool.not_eq_true, decide_eq_false_iff_not, Bool.not_eq_false', anyB_false]
      refine ⟨⟨⟨⟨fun k hk => ?_, by omega⟩, by omega⟩, by simp [placeB]; exact h.src⟩, by simp [placeB]; exact h.dst⟩
      have := h.fine k hk
      unfold Fine at this
      simp [fineB]; omega

/-- An integer lies at a block's beginning. -/
structure IntBox (w : World) (b : Nat) (x : Int) : Prop where
  lt : b < w.heap.size
  cell : w.cell? ⟨b, 0, none⟩ = some (.int .i64 x)
theorem IntBox.ext {w w' : World} {b : Nat} {x : Int} (h : IntBox w b x) (he : Ext w w') : IntBox w' b x :=
  ⟨Nat.lt_of_lt_of_le h.lt he.size, (he.cell h.lt).trans h.cell⟩

theorem early1_calls (w : World) (b1 b2 : Nat) (src at_ : Int) (l : Leg) (h1 : IntBox w b1 src) (h2 : IntBox w b2 at_) :
    Calls Try.prog 47 #[l.val, .pointer (some ⟨b1, 0, none⟩), .pointer (some ⟨b2, 0, none⟩)] w fun e w' => e = .returned (.bool (begB src at_ l)) ∧ Ext w w' := by
  obtain ⟨h1l, h1c⟩ := h1
  obtain ⟨h2l, h2c⟩ := h2
  go_enter Try.func47, Try.ntmps47
  go_wp2_with (go_at_call 48; refine (begins_calls _ l src at_).mono ?_; rintro e w' ⟨rfl, hx⟩)
  go_ret
  exact ⟨rfl, ((Ext.refl w).alloc _).trans hx⟩
def endB (dst a : Int) (l : Leg) : Bool := decide (l.To = dst ∧ l.Arr = a)
theorem early2_calls (w : World) (b1 b2 : Nat) (dst a : Int) (l : Leg) (h1 : IntBox w b1 dst) (h2 : IntBox w b2 a) :
    Calls Try.prog 51 #[l.val, .pointer (some ⟨b1, 0, none⟩), .pointer (some ⟨b2, 0, none⟩)] w fun e w' => e = .returned (.bool (endB dst a l)) ∧ Ext w w' := by
  obtain ⟨h1l, h1c⟩ := h1
  obtain ⟨h2l, h2c⟩ := h2
  go_enter Try.func51, Try.ntmps51
  cases hd : (l.To == dst) with
  | true =>
    go_wp2_with fail
    go_ret
    refine ⟨ret_bool ?_, (by repeat (first | exact Ext.refl _ | assumption | refine Ext.alloc ?_ _ | refine Ext.drewN ?_ _ | refine Ext.drew ?_))⟩
    simp at hd
    simp [endB, hd]
    rw [Bool.eq_iff_iff]; simp
  | false =>
    go_wp2_with fail
    go_ret
    refine ⟨ret_bool ?_, (by repeat (first | exact Ext.refl _ | assumption | refine Ext.alloc ?_ _ | refine Ext.drewN ?_ _ | refine Ext.drew ?_))⟩
    simp at hd
    simp [endB, hd]
theorem pred_early1 (w : World) (b1 b2 : Nat) (src at_ : Int) (h1 : IntBox w b1 src) (h2 : IntBox w b2 at_) :
    Pred w 47 #[.pointer (some ⟨b1, 0, none⟩), .pointer (some ⟨b2, 0, none⟩)] (fun _ => True) (begB src at_) :=
  ⟨by intro args w'; simp [go_sem], fun w' l hx _ => early1_calls w' b1 b2 src at_ l (h1.ext hx) (h2.ext hx)⟩
theorem pred_early2 (w : World) (b1 b2 : Nat) (dst a : Int) (h1 : IntBox w b1 dst) (h2 : IntBox w b2 a) :
    Pred w 51 #[.pointer (some ⟨b1, 0, none⟩), .pointer (some ⟨b2, 0, none⟩)] (fun _ => True) (endB dst a) :=
  ⟨by intro args w'; simp [go_sem], fun w' l hx _ => early2_calls w' b1 b2 dst a l (h1.ext hx) (h2.ext hx)⟩

/-- What Earliest answers. -/
def EarlyOf (n : Int) (L : List Leg) (c src dst at_ a : Int) (xs : List Nat) (e : Int) : Prop :=
  (goodE n L c src dst [at_] ≠ 0 ∧ a = 0 ∧ xs = [] ∧ e = goodE n L c src dst [at_]) ∨
  (goodE n L c src dst [at_] = 0 ∧ src = dst ∧ a = at_ ∧ xs = [] ∧ e = 0) ∨
  (goodE n L c src dst [at_] = 0 ∧ src ≠ dst ∧ a = 0 ∧ xs = [] ∧ e = 10 ∧ ArrAt L dst (ComeTo c L (fun i => begB src at_ (leg L i))) L.length (-1)) ∨
  (goodE n L c src dst [at_] = 0 ∧ src ≠ dst ∧ e = 0 ∧ 0 ≤ a ∧ ArrAt L dst (ComeTo c L (fun i => begB src at_ (leg L i))) L.length a ∧
    Least L.length (folL c L) (fun i => begB src at_ (leg L i)) (fun i => endB dst a (leg L i)) xs)
def EarlyRes (w : World) (n : Int) (L : List Leg) (c src dst at_ : Int) (e : Ending) (w' : World) : Prop :=
  ∃ a v xs er, e = .returned (.tuple #[.int .i64 a, v, .int .i64 er]) ∧ Own w' w.heap.size 1 v (ints (nats xs)) ∧ EarlyOf n L c src dst at_ a xs er ∧ Ext w w'

theorem one_int (w : World) (t : TypeId) (x : Int) : IntsIn (w.alloc (.cells #[.int .i64 x] t)) (some ⟨w.heap.size, 0, none⟩) [x] := by
  intro k hk
  obtain rfl : k = 0 := by simpa using hk
  exact ⟨w.heap.size, 0, rfl, by simp, by simp [go_sem, ith]⟩

theorem boxes4 (w : World) (t : TypeId) (a b c d : Int) :
    Ext w ((((w.alloc (Obj.cells #[Value.int IntKind.i64 a] t)).alloc (Obj.cells #[Value.int IntKind.i64 b] t)).alloc (Obj.cells #[Value.int IntKind.i64 c] t)).alloc (Obj.cells #[Value.int IntKind.i64 d] t)) ∧
    IntBox ((((w.alloc (Obj.cells #[Value.int IntKind.i64 a] t)).alloc (Obj.cells #[Value.int IntKind.i64 b] t)).alloc (Obj.cells #[Value.int IntKind.i64 c] t)).alloc (Obj.cells #[Value.int IntKind.i64 d] t)) w.heap.size a ∧
    IntBox ((((w.alloc (Obj.cells #[Value.int IntKind.i64 a] t)).alloc (Obj.cells #[Value.int IntKind.i64 b] t)).alloc (Obj.cells #[Value.int IntKind.i64 c] t)).alloc (Obj.cells #[Value.int IntKind.i64 d] t)) (w.heap.size + 1) b ∧
    IntBox ((((w.alloc (Obj.cells #[Value.int IntKind.i64 a] t)).alloc (Obj.cells #[Value.int IntKind.i64 b] t)).alloc (Obj.cells #[Value.int IntKind.i64 c] t)).alloc (Obj.cells #[Value.int IntKind.i64 d] t)) (w.heap.size + 1 + 1) c ∧
    IntsIn ((((w.alloc (Obj.cells #[Value.int IntKind.i64 a] t)).alloc (Obj.cells #[Value.int IntKind.i64 b] t)).alloc (Obj.cells #[Value.int IntKind.i64 c] t)).alloc (Obj.cells #[Value.int IntKind.i64 d] t)) (some ⟨w.heap.size + 1 + 1 + 1, 0, none⟩) [d] := by
  have B : ∀ (w : World) (x : Int), IntBox (w.alloc (Obj.cells #[Value.int IntKind.i64 x] t)) w.heap.size x := fun w x => ⟨by simp, by simp [go_sem]⟩
  have E : ∀ (w : World) (x : Int), Ext w (w.alloc (Obj.cells #[Value.int IntKind.i64 x] t)) := fun w x => (Ext.refl w).alloc _
  refine ⟨(by repeat (first | exact Ext.refl _ | assumption | refine Ext.alloc ?_ _ | refine Ext.drewN ?_ _ | refine Ext.drew ?_)), (((B w a).ext (E _ b)).ext (E _ c)).ext (E _ d), ?_, ?_, ?_⟩
  · have := ((B (w.alloc (Obj.cells #[Value.int IntKind.i64 a] t)) b).ext (E _ c)).ext (E _ d)
    simpa using this
  · have := (B ((w.alloc (Obj.cells #[Value.int IntKind.i64 a] t)).alloc (Obj.cells #[Value.int IntKind.i64 b] t)) c).ext (E _ d)
    simpa using this
  · have := one_int (((w.alloc (Obj.cells #[Value.int IntKind.i64 a] t)).alloc (Obj.cells #[Value.int IntKind.i64 b] t)).alloc (Obj.cells #[Value.int IntKind.i64 c] t)) t d
    simpa using this

set_option maxRecDepth 100000 in
set_option maxHeartbeats 2000000 in
theorem earliest_calls (w : World) (n : Int) (ao : Option Addr) (cap : Nat) (L : List Leg) (c src dst at_ : Int) (hL : LegsIn w ao L) (hlen : L.length ≤ 10000000) :
    Calls Try.prog 21 #[.int .i64 n, .slice ao L.length cap, .int .i64 c, .int .i64 src, .int .i64 dst, .int .i64 at_] w (EarlyRes w n L c src dst at_) := by
  go_enter Try.func21, Try.ntmps21
  go_wp2_with fail
  obtain ⟨hx4, hb1, hb2, hb3, hts⟩ := boxes4 w 3 src dst at_ at_
  generalize (((w.alloc (Obj.cells #[Value.int IntKind.i64 src] 3)).alloc (Obj.cells #[Value.int IntKind.i64 dst] 3)).alloc (Obj.cells #[Value.int IntKind.i64 at_] 3)).alloc (Obj.cells #[Value.int IntKind.i64 at_] 3) = w4 at *
  refine (of_calls w4 n ao cap L c src dst _ 1 [at_] (hL.ext hx4) hlen hts (by simp)).mono ?_
  rintro e w5 ⟨hx5, ⟨hg, rfl⟩ | ⟨hg, tb, rfl, htb, hT⟩⟩
  · have hne : (goodE n L c src dst [at_] != 0) = true := by simpa using hg
    have HG := Lib.hid hg
    clear hg
    go_wp2_with fail
    go_ret3
    exact ⟨0, _, [], _, rfl, Own.nil _ _ _, .inl ⟨HG.out, rfl, rfl, rfl⟩, hx4.trans hx5⟩
  · have HG := Lib.hid hg
    have hgood := good_iff.1 hg
    have hlen2 := hgood.len
    have hch := hgood.change
    have HF := Lib.hid hgood.fine
    clear hg hgood
    obtain ⟨hb1l, hb1c⟩ := hb1.ext hx5
    obtain ⟨hb2l, hb2c⟩ := hb2.ext hx5
    obtain ⟨hb3l, hb3c⟩ := hb3.ext hx5
    have hxw := hx4.trans hx5
    cases hsd : (src == dst) with
    | true =>
      have hsd' : src = dst := by simpa using hsd
      have HS := Lib.hid hsd'
      clear hsd'
      go_wp2_with fail
      go_ret3
      exact ⟨at_, _, [], _, rfl, Own.nil _ _ _, .inr (.inl ⟨HG.out, HS.out, rfl, rfl, rfl⟩), hxw⟩
    | false =>
      have hsd' : src ≠ dst := by simpa using hsd
      have HS := Lib.hid hsd'
      clear hsd'
      have hp1 := pred_early1 w5 w.heap.size (w.heap.size + 1 + 1) src at_ ⟨hb1l, hb1c⟩ ⟨hb3l, hb3c⟩
      go_wp2_with fail
      refine (arrival_calls w5 tb n ao cap L c _ _ _ _ dst hT (hL.ext hxw) (by omega) hp1 (fun _ _ => trivial) (by omega) HF.out).mono ?_
      rintro e w6 ⟨a, rfl, hA, hx6⟩
      have HA := Lib.hid hA
      have hab := hA.bound
      clear hA
      by_cases ha : a = -1
      · subst ha
        go_wp2_with fail
        go_ret3
        exact ⟨0, _, [], _, rfl, Own.nil _ _ _, .inr (.inr (.inl ⟨HG.out, HS.out, rfl, rfl, rfl, HA.out⟩)), (hxw.trans hx6).alloc _⟩
      · have ha0 : 0 ≤ a := by omega
        have hd : decide (a < 0) = false := by simp; omega
        go_wp2_with fail
        obtain ⟨hx7, hb7⟩ : Ext w6 (w6.alloc (Obj.cells #[Value.int IntKind.i64 a] 3)) ∧ IntBox (w6.alloc (Obj.cells #[Value.int IntKind.i64 a] 3)) w6.heap.size a :=
          ⟨(Ext.refl _).alloc _, by simp, by simp [go_sem]⟩
        generalize w6.alloc (Obj.cells #[Value.int IntKind.i64 a] 3) = w7 at *
        have hx67 := hx6.trans hx7
        have hxw7 := hxw.trans hx67
        have hp2 := pred_early2 w7 (w.heap.size + 1) w6.heap.size dst a (IntBox.ext ⟨hb2l, hb2c⟩ hx67) hb7
        refine (shortest_calls w7 tb n ao cap L c _ _ _ _ _ _ _ _ (hT.ext hx67) (hL.ext hxw7) (by omega) (hp1.ext hx67) hp2 (fun _ _ => trivial) (fun _ _ => trivial) (by omega) HF.out).mono ?_
        rintro e w8 ⟨hx8, ⟨v, xs, rfl, ho, hl⟩ | ⟨rfl, hn⟩⟩
        · have hb8 := hb7.ext hx8
          obtain ⟨hb8l, hb8c⟩ := hb8
          have HL := Lib.hid hl
          clear hl
          go_wp2_with fail
          go_ret3
          exact ⟨a, v, xs, 0, rfl, ho.rebase hxw7.size, .inr (.inr (.inr ⟨HG.out, HS.out, rfl, ha0, HA.out, HL.out⟩)), hxw7.trans hx8⟩
        · exfalso
          rcases HA.out with ⟨h, _⟩ | ⟨_, ⟨i, hi, ⟨y, hy⟩, h1, h2⟩, _⟩
          · exact ha h
          · exact hn y (hy.of_end (by simp [endB, h1, h2]))
end Go.Proofs.Ytmmjjfjbhogfgaa
