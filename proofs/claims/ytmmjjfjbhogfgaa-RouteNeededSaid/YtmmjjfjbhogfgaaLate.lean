/- Latest: the time and the least of the shortest journeys. -/
import Derived.Test.YtmmjjfjbhogfgaaEarly
namespace Go.Proofs.Ytmmjjfjbhogfgaa
open Go.RowKit
attribute [local go_sem] Leg.val run_store_fn

/-- A cell of one's own that holds an integer. -/
structure BoxAt (w : World) (b : Nat) (x : Int) : Prop where
  lt : b < w.heap.size
  cell : w.cell? ⟨b, 0, none⟩ = some (.int .i64 x)
  free : w.frozen? ⟨b, 0, none⟩ = false
theorem BoxAt.ext {w w' : World} {b : Nat} {x : Int} (h : BoxAt w b x) (he : Ext w w') : BoxAt w' b x :=
  ⟨Nat.lt_of_lt_of_le h.lt he.size, (he.cell h.lt).trans h.cell, (he.frozen h.lt).trans h.free⟩
theorem BoxAt.boxed (w : World) (t : TypeId) (x : Int) : BoxAt (w.alloc (.cells #[.int .i64 x] t)) w.heap.size x :=
  ⟨by simp, by simp [go_sem], by simp [go_sem]⟩
theorem BoxAt.set {w : World} {b : Nat} {x : Int} (h : BoxAt w b x) (y : Int) : BoxAt (w.setCell ⟨b, 0, none⟩ (.int .i64 y)) b y :=
  ⟨by simpa [World.setCell] using h.lt, World.cell?_setCell_same w _ _ h.cell, by rw [World.frozen?_setCell]; exact h.free⟩
theorem BoxAt.int {w : World} {b : Nat} {x : Int} (h : BoxAt w b x) : IntBox w b x := ⟨h.lt, h.cell⟩

def lastB (dst by_ : Int) (l : Leg) : Bool := decide (l.To = dst ∧ l.Arr ≤ by_)
def depB (src d : Int) (l : Leg) : Bool := decide (l.From = src ∧ l.Dep = d)
theorem late1_calls (w : World) (b1 b2 : Nat) (dst a : Int) (l : Leg) (h1 : IntBox w b1 dst) (h2 : IntBox w b2 a) :
    Calls Try.prog 57 #[l.val, .pointer (some ⟨b1, 0, none⟩), .pointer (some ⟨b2, 0, none⟩)] w fun e w' => e = .returned (.bool (lastB dst a l)) ∧ Ext w w' := by
  obtain ⟨h1l, h1c⟩ := h1
  obtain ⟨h2l, h2c⟩ := h2
  go_enter Try.func57, Try.ntmps57
  cases hd : (l.To == dst) with
  | true =>
    go_wp2_with fail
    go_ret
    refine ⟨ret_bool ?_, (by repeat (first | exact Ext.refl _ | assumption | refine Ext.alloc ?_ _ | refine Ext.drewN ?_ _ | refine Ext.drew ?_))⟩
    simp at hd
    simp [lastB, hd]
  | false =>
    go_wp2_with fail
    go_ret
    refine ⟨ret_bool ?_, (by repeat (first | exact Ext.refl _ | assumption | refine Ext.alloc ?_ _ | refine Ext.drewN ?_ _ | refine Ext.drew ?_))⟩
    simp at hd
    simp [lastB, hd]
theorem late2_calls (w : World) (b1 b2 : Nat) (src a : Int) (l : Leg) (h1 : IntBox w b1 src) (h2 : IntBox w b2 a) :
    Calls Try.prog 59 #[l.val, .pointer (some ⟨b1, 0, none⟩), .pointer (some ⟨b2, 0, none⟩)] w fun e w' => e = .returned (.bool (depB src a l)) ∧ Ext w w' := by
  obtain ⟨h1l, h1c⟩ := h1
  obtain ⟨h2l, h2c⟩ := h2
  go_enter Try.func59, Try.ntmps59
  cases hd : (l.From == src) with
  | true =>
    go_wp2_with fail
    go_ret
    refine ⟨ret_bool ?_, (by repeat (first | exact Ext.refl _ | assumption | refine Ext.alloc ?_ _ | refine Ext.drewN ?_ _ | refine Ext.drew ?_))⟩
    simp at hd
    simp [depB, hd]
    rw [Bool.eq_iff_iff]; simp
  | false =>
    go_wp2_with fail
    go_ret
    refine ⟨ret_bool ?_, (by repeat (first | exact Ext.refl _ | assumption | refine Ext.alloc ?_ _ | refine Ext.drewN ?_ _ | refine Ext.drew ?_))⟩
    simp at hd
    simp [depB, hd]
theorem pred_late1 (w : World) (b1 b2 : Nat) (dst a : Int) (h1 : IntBox w b1 dst) (h2 : IntBox w b2 a) :
    Pred w 57 #[.pointer (some ⟨b1, 0, none⟩), .pointer (some ⟨b2, 0, none⟩)] (fun _ => True) (lastB dst a) :=
  ⟨by intro args w'; simp [go_sem], fun w' l hx _ => late1_calls w' b1 b2 dst a l (h1.ext hx) (h2.ext hx)⟩
theorem pred_late2 (w : World) (b1 b2 : Nat) (src a : Int) (h1 : IntBox w b1 src) (h2 : IntBox w b2 a) :
    Pred w 59 #[.pointer (some ⟨b1, 0, none⟩), .pointer (some ⟨b2, 0, none⟩)] (fun _ => True) (depB src a) :=
  ⟨by intro args w'; simp [go_sem], fun w' l hx _ => late2_calls w' b1 b2 src a l (h1.ext hx) (h2.ext hx)⟩

/-- The latest leaving by one of the legs that are marked, among the first k ones. -/
def DepAt (L : List Leg) (src : Int) (P : Nat → Prop) (k : Nat) (a : Int) : Prop :=
  (a = -1 ∧ ∀ i, i < k → ¬ (P i ∧ (leg L i).From = src)) ∨
  (0 ≤ a ∧ (∃ i, i < k ∧ P i ∧ (leg L i).From = src ∧ a = (leg L i).Dep) ∧ ∀ i, i < k → P i → (leg L i).From = src → (leg L i).Dep ≤ a)
theorem DepAt.skip {L : List Leg} {src : Int} {P : Nat → Prop} {k : Nat} {a : Int} (h : DepAt L src P k a) (hn : ¬ (P k ∧ (leg L k).From = src)) : DepAt L src P (k + 1) a := by
  rcases h with ⟨rfl, h⟩ | ⟨h0, ⟨i, hi, h1⟩, h2⟩
  · refine .inl ⟨rfl, fun i hi => ?_⟩
    rcases Nat.lt_or_ge i k with h' | h'
    · exact h i h'
    · obtain rfl : i = k := by omega
      exact hn
  · refine .inr ⟨h0, ⟨i, by omega, h1⟩, fun j hj hp ht => ?_⟩
    rcases Nat.lt_or_ge j k with h' | h'
    · exact h2 j h' hp ht
    · obtain rfl : j = k := by omega
      exact (hn ⟨hp, ht⟩).elim
theorem DepAt.keep {L : List Leg} {src : Int} {P : Nat → Prop} {k : Nat} {a : Int} (h : DepAt L src P k a) (h0 : 0 ≤ (leg L k).Dep) (hle : (leg L k).Dep ≤ a) : DepAt L src P (k + 1) a := by
  rcases h with ⟨rfl, h⟩ | ⟨h0, ⟨i, hi, h1⟩, h2⟩
  · omega
  · refine .inr ⟨h0, ⟨i, by omega, h1⟩, fun j hj hp ht => ?_⟩
    rcases Nat.lt_or_ge j k with h' | h'
    · exact h2 j h' hp ht
    · obtain rfl : j = k := by omega
      exact hle
theorem DepAt.take {L : List Leg} {src : Int} {P : Nat → Prop} {k : Nat} {a : Int} (h : DepAt L src P k a) (hp : P k) (ht : (leg L k).From = src) (h0 : 0 ≤ (leg L k).Dep) (hlt : a < (leg L k).Dep) : DepAt L src P (k + 1) (leg L k).Dep := by
  refine .inr ⟨h0, ⟨k, by omega, hp, ht, rfl⟩, fun j hj hpj htj => ?_⟩
  rcases Nat.lt_or_ge j k with h' | h'
  · rcases h with ⟨rfl, h⟩ | ⟨_, _, h2⟩
    · exact (h j h' ⟨hpj, htj⟩).elim
    · have := h2 j h' hpj htj
      omega
  · obtain rfl : j = k := by omega
    omega
theorem DepAt.bound {L : List Leg} {src : Int} {P : Nat → Prop} {k : Nat} {a : Int} (h : DepAt L src P k a) : a = -1 ∨ 0 ≤ a := by
  rcases h with ⟨rfl, _⟩ | ⟨h, _⟩
  · exact .inl rfl
  · exact .inr h
theorem DepAt.congr {L : List Leg} {src : Int} {P P' : Nat → Prop} {k : Nat} {a : Int} (h : DepAt L src P k a) (hp : ∀ i, i < k → (P i ↔ P' i)) : DepAt L src P' k a := by
  rcases h with ⟨rfl, h⟩ | ⟨h0, ⟨i, hi, h1, h3⟩, h2⟩
  · exact .inl ⟨rfl, fun i hi hh => h i hi ⟨(hp i hi).2 hh.1, hh.2⟩⟩
  · exact .inr ⟨h0, ⟨i, hi, (hp i hi).1 h1, h3⟩, fun j hj hpj => h2 j hj ((hp j hj).2 hpj)⟩
theorem DepAt.uniq {L : List Leg} {src : Int} {P : Nat → Prop} {k : Nat} {a b : Int} (h : DepAt L src P k a) (h' : DepAt L src P k b) : a = b := by
  rcases h with ⟨rfl, h⟩ | ⟨h0, ⟨i, hi, h1, h3, h4⟩, h2⟩
  · rcases h' with ⟨rfl, _⟩ | ⟨h0, ⟨i, hi, h1, h3, h4⟩, h2⟩
    · rfl
    · exact (h i hi ⟨h1, h3⟩).elim
  · rcases h' with ⟨rfl, h⟩ | ⟨h0', ⟨i', hi', h1', h3', h4'⟩, h2'⟩
    · exact (h i hi ⟨h1, h3⟩).elim
    · have := h2 i' hi' h1' h3'
      have := h2' i hi h1 h3
      omega
/-- A journey can go on from leg i to the end. -/
def GoesTo (c : Int) (L : List Leg) (last : Nat → Bool) (i : Nat) : Prop := ∃ x, Path L.length (folL c L) last (i :: x)
theorem Steps.goesTo {c : Int} {L : List Leg} {last : Nat → Bool} {xs : List Int} (h : Steps L.length (folL c L) last xs) (i : Nat) (hi : i < L.length) : 0 < ith xs i ↔ GoesTo c L last i := by
  constructor
  · intro h0
    obtain ⟨x, hp, _⟩ := h.sound i hi h0
    exact ⟨x, hp⟩
  · rintro ⟨x, hp⟩
    exact (h.least i x hp).1

/-- What Latest answers. -/
def LateOf (n : Int) (L : List Leg) (c src dst by_ a : Int) (xs : List Nat) (e : Int) : Prop :=
  (goodE n L c src dst [by_] ≠ 0 ∧ a = 0 ∧ xs = [] ∧ e = goodE n L c src dst [by_]) ∨
  (goodE n L c src dst [by_] = 0 ∧ src = dst ∧ a = by_ ∧ xs = [] ∧ e = 0) ∨
  (goodE n L c src dst [by_] = 0 ∧ src ≠ dst ∧ a = 0 ∧ xs = [] ∧ e = 10 ∧ DepAt L src (GoesTo c L (fun i => lastB dst by_ (leg L i))) L.length (-1)) ∨
  (goodE n L c src dst [by_] = 0 ∧ src ≠ dst ∧ e = 0 ∧ 0 ≤ a ∧ DepAt L src (GoesTo c L (fun i => lastB dst by_ (leg L i))) L.length a ∧
    Least L.length (folL c L) (fun i => depB src a (leg L i)) (fun i => lastB dst by_ (leg L i)) xs)
def LateRes (w : World) (n : Int) (L : List Leg) (c src dst by_ : Int) (e : Ending) (w' : World) : Prop :=
  ∃ a v xs er, e = .returned (.tuple #[.int .i64 a, v, .int .i64 er]) ∧ Own w' w.heap.size 1 v (ints (nats xs)) ∧ LateOf n L c src dst by_ a xs er ∧ Ext w w'

set_option maxRecDepth 100000 in
set_option maxHeartbeats 2000000 in
theorem latest_calls (w : World) (n : Int) (ao : Option Addr) (cap : Nat) (L : List Leg) (c src dst by_ : Int) (hL : LegsIn w ao L) (hlen : L.length ≤ 10000000) :
    Calls Try.prog 29 #[.int .i64 n, .slice ao L.length cap, .int .i64 c, .int .i64 src, .int .i64 dst, .int .i64 by_] w (LateRes w n L c src dst by_) := by
  go_enter Try.func29, Try.ntmps29
  go_wp2_with fail
  obtain ⟨hx4, hb1, hb2, hb3, hts⟩ := boxes4 w 3 src dst by_ by_
  generalize (((w.alloc (Obj.cells #[Value.int IntKind.i64 src] 3)).alloc (Obj.cells #[Value.int IntKind.i64 dst] 3)).alloc (Obj.cells #[Value.int IntKind.i64 by_] 3)).alloc (Obj.cells #[Value.int IntKind.i64 by_] 3) = w4 at *
  refine (of_calls w4 n ao cap L c src dst _ 1 [by_] (hL.ext hx4) hlen hts (by simp)).mono ?_
  rintro e w5 ⟨hx5, ⟨hg, rfl⟩ | ⟨hg, tb, rfl, htb, hT⟩⟩
  · have hne : (goodE n L c src dst [by_] != 0) = true := by simpa using hg
    have HG := Lib.hid hg
    clear hg
    go_wp2_with fail
    go_ret3
    exact ⟨0, _, [], _, rfl, Own.nil _ _ _, .inl ⟨HG.out, rfl, rfl, rfl⟩, hx4.trans hx5⟩
  · have HG := Lib.hid hg
    have hgood := good_iff.1 hg
    have hlen2 := hgood.len
    have hch := hgood.change
    have HF := Lib.hid hgood.fine
    clear hg hgood
    obtain ⟨hb1l, hb1c⟩ := hb1.ext hx5
    obtain ⟨hb2l, hb2c⟩ := hb2.ext hx5
    obtain ⟨hb3l, hb3c⟩ := hb3.ext hx5
    have hxw := hx4.trans hx5
    cases hsd : (src == dst) with
    | true =>
      have hsd' : src = dst := by simpa using hsd
      have HS := Lib.hid hsd'
      clear hsd'
      go_wp2_with fail
      go_ret3
      exact ⟨by_, _, [], _, rfl, Own.nil _ _ _, .inr (.inl ⟨HG.out, HS.out, rfl, rfl, rfl⟩), hxw⟩
    | false =>
      have hsd' : src ≠ dst := by simpa using hsd
      have HS := Lib.hid hsd'
      clear hsd'
      have hp1 := pred_late1 w5 (w.heap.size + 1) (w.heap.size + 1 + 1) dst by_ ⟨hb2l, hb2c⟩ ⟨hb3l, hb3c⟩
      go_wp2_with fail
      have hbx6 := BoxAt.boxed w5 3 (-1)
      have hx56 := (Ext.refl w5).alloc (Obj.cells #[Value.int IntKind.i64 (-1)] 3)
      have hs6 : (w5.alloc (Obj.cells #[Value.int IntKind.i64 (-1)] 3)).heap.size = w5.heap.size + 1 := by simp
      generalize w5.alloc (Obj.cells #[Value.int IntKind.i64 (-1)] 3) = w6 at *
      refine (steps_calls w6 tb n ao cap L c _ _ _ _ (hT.ext hx56) (hL.ext (hxw.trans hx56)) (by omega) (hp1.ext hx56) (fun _ _ => trivial) (by omega) HF.out).mono ?_
      rintro e w7 ⟨v, xs, rfl, ho, hSt, hx7⟩
      rw [hs6] at ho
      have HSt := Lib.hid hSt
      have hxl := hSt.length
      clear hSt
      have hx57 := hx56.trans hx7
      obtain ⟨so, scap, rfl, hSin, hsb⟩ := ho.intsShape
      rw [hxl] at ho ⊢
      have hs7 := hx7.size
      go_wp2_with fail
      go_loopw [49] (fun i wr => ∃ (k : Nat) (a : Int), k ≤ L.length ∧ i = .int .i64 k ∧ Ext w5 wr ∧ w5.heap.size + 1 ≤ wr.heap.size ∧ BoxAt wr w5.heap.size a ∧ Own wr (w5.heap.size + 1) 1 (.slice so L.length scap) (ints xs) ∧ Hid (DepAt L src (fun i => 0 < ith xs i) k a)) (fun i _ => L.length - (intOf i).toNat)
      case atStart => exact ⟨0, -1, by omega, rfl, hx57, by omega, hbx6.ext hx7, ho, Lib.hid (.inl ⟨rfl, fun i hi => by omega⟩)⟩
      case round =>
        obtain ⟨k, a, hk, rfl, hx, hWr, hbx, hor, HD⟩ := hrel
        have hxwr := hxw.trans hx
        obtain ⟨hbl, hbc, hbf⟩ := id hbx
        have hTn := (hT.ext hx).legs
        have htbr := (hT.ext hx).lt
        obtain ⟨r1l, r1c⟩ := IntBox.ext ⟨hb1l, hb1c⟩ hx
        by_cases hlt : k < L.length
        · obtain ⟨b2, lo2, hao2, hbr, h0r, h1r, h2r, h3r, h4r⟩ := hL.ext hxwr k hlt
          subst hao2
          obtain ⟨sb, so', hso, hsb', -⟩ := hSin k (by omega)
          subst hso
          have hsbl := (hor.lt sb rfl)
          obtain ⟨hck, -⟩ := hor.intAt k (by omega)
          have hdep : 0 ≤ (leg L k).Dep := by
            have := HF.out k hlt
            unfold Fine at this
            omega
          cases hd : decide (0 < ith xs k) with
          | false =>
            have HK := Lib.hid (HD.out.skip (by simp at hd; rintro ⟨h, _⟩; omega))
            try clear hto
            go_wp2_with fail
            exact ⟨⟨k + 1, a, by omega, rfl, hx.alloc _, by simp; omega, hbx.ext ((Ext.refl _).alloc _), hor.ext ((Ext.refl _).alloc _), Lib.hid HK.out⟩, by simp only [intOf]; omega⟩
          | true =>
            by_cases hto : (leg L k).From = src
            · have hto' : ((leg L k).From == src) = true := by simp [hto]
              cases hd2 : decide (a < (leg L k).Dep) with
              | false =>
                have HK := Lib.hid (HD.out.keep hdep (by simp at hd2; omega))
                try clear hto
                go_wp2_with fail
                exact ⟨⟨k + 1, a, by omega, rfl, hx.alloc _, by simp; omega, hbx.ext ((Ext.refl _).alloc _), hor.ext ((Ext.refl _).alloc _), Lib.hid HK.out⟩, by simp only [intOf]; omega⟩
              | true =>
                have HK := Lib.hid (HD.out.take (by simpa using hd) hto hdep (by simpa using hd2))
                clear hto
                go_wp2_with fail
                have hbx2 := hbx.set (leg L k).Dep
                have hor2 := hor.keep (grownBy_setCell wr ⟨w5.heap.size, 0, none⟩ (.int .i64 (leg L k).Dep)) (by right; simp [Value.ownBlock]; omega)
                have hx2 := hx.setOwn ⟨w5.heap.size, 0, none⟩ (.int .i64 (leg L k).Dep) (Nat.le_refl _)
                have hs2 := hbx2.lt
                have hE := (Ext.refl (wr.setCell ⟨w5.heap.size, 0, none⟩ (.int .i64 (leg L k).Dep))).alloc (leg L k).box
                have hs3 := hE.size
                exact ⟨⟨k + 1, (leg L k).Dep, by omega, rfl, hx2.trans hE, Nat.le_trans hs2 hs3, hbx2.ext hE, hor2.ext hE, Lib.hid HK.out⟩, by simp only [intOf]; omega⟩
            · have hto' : ((leg L k).From == src) = false := by simp [hto]
              have HK := Lib.hid (HD.out.skip (by simp [hto]))
              try clear hto
              go_wp2_with fail
              exact ⟨⟨k + 1, a, by omega, rfl, hx.alloc _, by simp; omega, hbx.ext ((Ext.refl _).alloc _), hor.ext ((Ext.refl _).alloc _), Lib.hid HK.out⟩, by simp only [intOf]; omega⟩
        · obtain rfl : k = L.length := by omega
          have hDD : DepAt L src (GoesTo c L (fun i => lastB dst by_ (leg L i))) L.length a := HD.out.congr (fun i hi => HSt.out.goesTo i hi)
          have HDD := Lib.hid hDD
          have hab := hDD.bound
          clear hDD
          by_cases ha : a = -1
          · subst ha
            go_wp2_with fail
            go_ret3
            exact ⟨0, _, [], _, rfl, Own.nil _ _ _, .inr (.inr (.inl ⟨HG.out, HS.out, rfl, rfl, rfl, HDD.out⟩)), hxwr⟩
          · have ha0 : 0 ≤ a := by omega
            have hd : decide (a < 0) = false := by simp; omega
            go_wp2_with fail
            have hp2 := pred_late2 wr w.heap.size w5.heap.size src a ⟨r1l, r1c⟩ hbx.int
            refine (shortest_calls wr tb n ao cap L c _ _ _ _ _ _ _ _ (hT.ext hx) (hL.ext hxwr) (by omega) hp2 (hp1.ext hx) (fun _ _ => trivial) (fun _ _ => trivial) (by omega) HF.out).mono ?_
            rintro e w8 ⟨hx8, ⟨v, ys, rfl, ho8, hl⟩ | ⟨rfl, hn⟩⟩
            · obtain ⟨hb8l, hb8c, -⟩ := hbx.ext hx8
              have HL := Lib.hid hl
              clear hl
              go_wp2_with fail
              go_ret3
              exact ⟨a, v, ys, 0, rfl, ho8.rebase hxwr.size, .inr (.inr (.inr ⟨HG.out, HS.out, rfl, ha0, HDD.out, HL.out⟩)), hxwr.trans hx8⟩
            · exfalso
              rcases HDD.out with ⟨h, _⟩ | ⟨_, ⟨i, hi, ⟨y, hy⟩, h1, h2⟩, _⟩
              · exact ha h
              · exact hn (i :: y) ⟨i, y, rfl, by simp [depB, h1, h2], hy⟩
end Go.Proofs.Ytmmjjfjbhogfgaa
