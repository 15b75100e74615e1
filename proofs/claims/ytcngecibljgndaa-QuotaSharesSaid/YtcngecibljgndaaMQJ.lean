/- The tableau: as data and in memory; the step of a pivot. -/
import Derived.Test.YtcngecibljgndaaMQA
namespace Go.Proofs.Ytcngecibljgndaa
open Go.RowKit Go.Shelf

structure Tab where
  sets : Nat
  n : Nat
  rows : List (List Int)
  goal : List Int
  basis : List Int
  den : Int
def Tab.wide (T : Tab) : Nat := T.sets + T.n + 1
def Tab.row (T : Tab) (i : Nat) : List Int := T.rows.getD i []
def Tab.ent (T : Tab) (i j : Nat) : Int := ith (T.row i) j
/-- The step of a pivot at one row. -/
def stepRow (own : List Int) (d den : Int) (j : Nat) (r : List Int) : List Int := (List.range r.length).map fun k => (ith r k * d - ith r j * ith own k).tdiv den
/-- All is small enough, and of one shape. -/
def smL (m : Nat) (l : List Int) : Bool := l.length == m && l.all fun x => decide (-1000000000 ≤ x ∧ x ≤ 1000000000)
def Tab.sm (T : Tab) : Bool := decide (1 ≤ T.rows.length ∧ T.rows.length ≤ 100 ∧ T.sets ≤ 1000 ∧ T.n ≤ 100 ∧ T.basis.length = T.rows.length ∧ T.den ≠ 0 ∧ -1000000000 ≤ T.den ∧ T.den ≤ 1000000000) && T.rows.all (smL T.wide) && smL T.wide T.goal && T.basis.all fun x => decide (0 ≤ x ∧ x ≤ 100000)
structure SmL (m : Nat) (l : List Int) : Prop where
  len : l.length = m
  ent : ∀ k, k < m → -1000000000 ≤ ith l k ∧ ith l k ≤ 1000000000
theorem smL_iff {m : Nat} {l : List Int} (h : smL m l = true) : SmL m l := by
  simp only [smL, Bool.and_eq_true, beq_iff_eq, List.all_eq_true, decide_eq_true_eq] at h
  refine ⟨h.1, fun k hk => ?_⟩
  have e : ith l k = l[k]'(by omega) := by simp [ith, show k < l.length by omega]
  rw [e]
  exact h.2 _ (List.getElem_mem _)
structure Tab.Sm (T : Tab) : Prop where
  one : 1 ≤ T.rows.length
  many : T.rows.length ≤ 100
  sets : T.sets ≤ 1000
  n : T.n ≤ 100
  bas : T.basis.length = T.rows.length
  den0 : T.den ≠ 0
  den : -1000000000 ≤ T.den ∧ T.den ≤ 1000000000
  row : ∀ i, i < T.rows.length → SmL T.wide (T.row i)
  goal : SmL T.wide T.goal
  basIn : ∀ i, i < T.rows.length → 0 ≤ ith T.basis i ∧ ith T.basis i ≤ 100000
theorem Tab.sm_iff {T : Tab} (h : T.sm = true) : T.Sm := by
  simp only [Tab.sm, Bool.and_eq_true, decide_eq_true_eq, List.all_eq_true] at h
  obtain ⟨⟨⟨⟨h1, h2, h3, h4, h5, h6, h7, h8⟩, h9⟩, h10⟩, h11⟩ := h
  refine ⟨h1, h2, h3, h4, h5, h6, ⟨h7, h8⟩, fun i hi => ?_, smL_iff h10, fun i hi => ?_⟩
  · have e : T.row i = T.rows[i] := by simp [Tab.row, hi]
    rw [e]
    exact smL_iff (h9 _ (List.getElem_mem _))
  · have e : ith T.basis i = T.basis[i]'(by omega) := by simp [ith, show i < T.basis.length by omega]
    rw [e]
    exact h11 _ (List.getElem_mem _)

/-- Where a tableau lies. -/
structure Ats where
  t : Nat
  rg : Nat
  rc : Nat
  bg : Nat
  bc : Nat
  gb : Nat
  rb : Nat → Nat
structure TabAt (w : World) (B : Nat) (A : Ats) (T : Tab) : Prop where
  tIn : B ≤ A.t ∧ A.t < w.heap.size
  rgIn : B ≤ A.rg ∧ A.rg < w.heap.size
  bgIn : B ≤ A.bg ∧ A.bg < w.heap.size
  gbIn : B ≤ A.gb ∧ A.gb < w.heap.size
  c0 : w.cell? ⟨A.t, 0, none⟩ = some (.int .i64 T.sets)
  c1 : w.cell? ⟨A.t, 1, none⟩ = some (.int .i64 T.n)
  c2 : w.cell? ⟨A.t, 2, none⟩ = some (.slice (some ⟨A.rg, 0, none⟩) T.rows.length A.rc)
  c3 : w.cell? ⟨A.t, 3, none⟩ = some (.slice (some ⟨A.gb, 0, none⟩) T.wide T.wide)
  c4 : w.cell? ⟨A.t, 4, none⟩ = some (.slice (some ⟨A.bg, 0, none⟩) T.rows.length A.bc)
  c5 : w.cell? ⟨A.t, 5, none⟩ = some (.int .i64 T.den)
  free : ∀ k, 2 ≤ k → k ≤ 5 → w.frozen? ⟨A.t, k, none⟩ = false
  rowC : ∀ i, i < T.rows.length → w.cell? ⟨A.rg, i, none⟩ = some (.slice (some ⟨A.rb i, 0, none⟩) T.wide T.wide) ∧ w.frozen? ⟨A.rg, i, none⟩ = false
  entC : ∀ i j, i < T.rows.length → j < T.wide → w.cell? ⟨A.rb i, j, none⟩ = some (.int .i64 (T.ent i j)) ∧ w.frozen? ⟨A.rb i, j, none⟩ = false
  goalC : ∀ j, j < T.wide → w.cell? ⟨A.gb, j, none⟩ = some (.int .i64 (ith T.goal j)) ∧ w.frozen? ⟨A.gb, j, none⟩ = false
  basC : ∀ i, i < T.rows.length → w.cell? ⟨A.bg, i, none⟩ = some (.int .i64 (ith T.basis i)) ∧ w.frozen? ⟨A.bg, i, none⟩ = false
  rbIn : ∀ i, i < T.rows.length → B ≤ A.rb i ∧ A.rb i < w.heap.size
  rbNe : ∀ i, i < T.rows.length → A.rb i ≠ A.t ∧ A.rb i ≠ A.rg ∧ A.rb i ≠ A.bg ∧ A.rb i ≠ A.gb
  rbAp : ∀ i j, i < T.rows.length → j < T.rows.length → i ≠ j → A.rb i ≠ A.rb j
  ap : A.t ≠ A.rg ∧ A.t ≠ A.bg ∧ A.t ≠ A.gb ∧ A.rg ≠ A.bg ∧ A.rg ≠ A.gb ∧ A.bg ≠ A.gb
  caps : T.rows.length ≤ A.rc ∧ A.rc ≤ 9223372036854775807 ∧ T.rows.length ≤ A.bc ∧ A.bc ≤ 9223372036854775807
/-- A world that has grown, and in which another block may have changed. -/
theorem TabAt.grown {w w' : World} {B : Nat} {A : Ats} {T : Tab} {row : Option Nat} (h : TabAt w B A T) (hg : w.grownBy w' row) (hr : ∀ k, row = some k → k ≠ A.t ∧ k ≠ A.rg ∧ k ≠ A.bg ∧ k ≠ A.gb ∧ ∀ i, i < T.rows.length → k ≠ A.rb i) : TabAt w' B A T := by
  have hs := hg.size
  have nt : some A.t ≠ row := fun e => (hr _ e.symm).1 rfl
  have nr : some A.rg ≠ row := fun e => (hr _ e.symm).2.1 rfl
  have nb : some A.bg ≠ row := fun e => (hr _ e.symm).2.2.1 rfl
  have ng : some A.gb ≠ row := fun e => (hr _ e.symm).2.2.2.1 rfl
  have nx : ∀ i, i < T.rows.length → some (A.rb i) ≠ row := fun i hi e => (hr _ e.symm).2.2.2.2 i hi rfl
  have ct : ∀ k, w'.cell? ⟨A.t, k, none⟩ = w.cell? ⟨A.t, k, none⟩ := fun k => grownBy_cell (p := ⟨A.t, k, none⟩) hg h.tIn.2 nt
  exact ⟨⟨h.tIn.1, by have := h.tIn.2; omega⟩, ⟨h.rgIn.1, by have := h.rgIn.2; omega⟩, ⟨h.bgIn.1, by have := h.bgIn.2; omega⟩, ⟨h.gbIn.1, by have := h.gbIn.2; omega⟩,
    (ct 0).trans h.c0, (ct 1).trans h.c1, (ct 2).trans h.c2, (ct 3).trans h.c3, (ct 4).trans h.c4, (ct 5).trans h.c5,
    fun k h1 h2 => (grownBy_frozen (p := ⟨A.t, k, none⟩) hg h.tIn.2 nt).trans (h.free k h1 h2),
    fun i hi => ⟨(grownBy_cell (p := ⟨A.rg, i, none⟩) hg h.rgIn.2 nr).trans (h.rowC i hi).1, (grownBy_frozen (p := ⟨A.rg, i, none⟩) hg h.rgIn.2 nr).trans (h.rowC i hi).2⟩,
    fun i j hi hj => ⟨(grownBy_cell (p := ⟨A.rb i, j, none⟩) hg (h.rbIn i hi).2 (nx i hi)).trans (h.entC i j hi hj).1, (grownBy_frozen (p := ⟨A.rb i, j, none⟩) hg (h.rbIn i hi).2 (nx i hi)).trans (h.entC i j hi hj).2⟩,
    fun j hj => ⟨(grownBy_cell (p := ⟨A.gb, j, none⟩) hg h.gbIn.2 ng).trans (h.goalC j hj).1, (grownBy_frozen (p := ⟨A.gb, j, none⟩) hg h.gbIn.2 ng).trans (h.goalC j hj).2⟩,
    fun i hi => ⟨(grownBy_cell (p := ⟨A.bg, i, none⟩) hg h.bgIn.2 nb).trans (h.basC i hi).1, (grownBy_frozen (p := ⟨A.bg, i, none⟩) hg h.bgIn.2 nb).trans (h.basC i hi).2⟩,
    fun i hi => ⟨(h.rbIn i hi).1, Nat.lt_of_lt_of_le (h.rbIn i hi).2 hs⟩, h.rbNe, h.rbAp, h.ap, h.caps⟩
theorem TabAt.ext {w w' : World} {B : Nat} {A : Ats} {T : Tab} (h : TabAt w B A T) (hx : Ext w w') : TabAt w' B A T := h.grown (hx.grown none) (fun k e => by simp at e)
theorem ith_map_range' (f : Nat → Int) (n k : Nat) (h : k < n) : ith ((List.range n).map f) k = f k := by simp [ith, h]
theorem stepRow_at (own : List Int) (d den : Int) (j : Nat) (r : List Int) (k : Nat) (h : k < r.length) : ith (stepRow own d den j r) k = (ith r k * d - ith r j * ith own k).tdiv den := ith_map_range' _ _ _ h

/-- A world that has grown, and in which blocks of which X holds may have changed. -/
structure ExtX (X : Nat → Prop) (w w' : World) : Prop where
  os : w'.os = w.os
  tape : w'.tape = w.tape
  output : w'.output = w.output
  size : w.heap.size ≤ w'.heap.size
  block : ∀ k, k < w.heap.size → ¬ X k → w'.heap[k]? = w.heap[k]?
theorem ExtX.of (X : Nat → Prop) {w w' : World} (h : Ext w w') : ExtX X w w' := ⟨h.os, h.tape, h.output, h.size, fun k hk _ => h.block k hk⟩
theorem ExtX.toExt {w w' : World} (h : ExtX (fun _ => False) w w') : Ext w w' := ⟨h.os, h.tape, h.output, h.size, fun k hk => h.block k hk (fun f => f)⟩
theorem ExtX.trans {X : Nat → Prop} {a b c : World} (h : ExtX X a b) (k : Ext b c) : ExtX X a c :=
  ⟨k.os.trans h.os, k.tape.trans h.tape, k.output.trans h.output, Nat.le_trans h.size k.size, fun i hi hX => (k.block i (Nat.lt_of_lt_of_le hi h.size)).trans (h.block i hi hX)⟩
theorem ExtX.drew {X : Nat → Prop} {a b : World} (h : ExtX X a b) : ExtX X a b.drew := h.trans ((Ext.refl b).drew)
theorem ExtX.alloc {X : Nat → Prop} {a b : World} (h : ExtX X a b) (o : Obj) : ExtX X a (b.alloc o) := h.trans ((Ext.refl b).alloc o)
theorem ExtX.onto {X : Nat → Prop} {w w1 w2 : World} {row : Option Nat} (h : ExtX X w w1) (hg : w1.grownBy w2 row) (hr : ∀ k, row = some k → w.heap.size ≤ k ∨ X k) : ExtX X w w2 :=
  ⟨hg.os.trans h.os, hg.tape.trans h.tape, hg.output.trans h.output, Nat.le_trans h.size hg.size, fun i hi hX => (hg.block i (Nat.lt_of_lt_of_le hi h.size) (fun e => by
    rcases hr i e.symm with h1 | h1
    · omega
    · exact hX h1)).trans (h.block i hi hX)⟩
theorem ExtX.setOwn {X : Nat → Prop} {w w1 : World} (h : ExtX X w w1) (p : Addr) (u : Value) (hb : w.heap.size ≤ p.block ∨ X p.block) : ExtX X w (w1.setCell p u) :=
  h.onto (grownBy_setCell w1 p u) (fun k hk => by simp only [Option.some.injEq] at hk; subst hk; exact hb)
/-- The blocks of a tableau are new, or among those that may change. -/
structure OnX (X : Nat → Prop) (N : Nat) (A : Ats) (m : Nat) : Prop where
  t : N ≤ A.t ∨ X A.t
  rg : N ≤ A.rg ∨ X A.rg
  bg : N ≤ A.bg ∨ X A.bg
  gb : N ≤ A.gb ∨ X A.gb
  rb : ∀ i, i < m → N ≤ A.rb i ∨ X (A.rb i)
theorem OnX.of (X : Nat → Prop) {N : Nat} {w : World} {B : Nat} {A : Ats} {T : Tab} (h : TabAt w B A T) (h0 : N ≤ B) : OnX X N A T.rows.length :=
  ⟨.inl (Nat.le_trans h0 h.tIn.1), .inl (Nat.le_trans h0 h.rgIn.1), .inl (Nat.le_trans h0 h.bgIn.1), .inl (Nat.le_trans h0 h.gbIn.1), fun i hi => .inl (Nat.le_trans h0 (h.rbIn i hi).1)⟩

/-- What the step's closure has captured. -/
structure CapsP (w : World) (bj bd bo bt ob oo oc : Nat) (t : Nat) (m j : Nat) (d den : Int) (own : List Int) : Prop where
  cj : w.cell? ⟨bj, 0, none⟩ = some (.int .i64 j) ∧ bj < w.heap.size
  cd : w.cell? ⟨bd, 0, none⟩ = some (.int .i64 d) ∧ bd < w.heap.size
  co : w.cell? ⟨bo, 0, none⟩ = some (.slice (some ⟨ob, oo, none⟩) m oc) ∧ bo < w.heap.size
  ct : w.cell? ⟨bt, 0, none⟩ = some (.pointer (some ⟨t, 0, none⟩)) ∧ bt < w.heap.size
  c5 : w.cell? ⟨t, 5, none⟩ = some (.int .i64 den) ∧ t < w.heap.size
  own : ∀ k, k < m → w.cell? ⟨ob, oo + k, none⟩ = some (.int .i64 (ith own k))
  ob : ob < w.heap.size
theorem CapsP.grown {w w' : World} {bj bd bo bt ob oo oc t m j : Nat} {d den : Int} {own : List Int} {R : Nat} (h : CapsP w bj bd bo bt ob oo oc t m j d den own) (hg : w.grownBy w' (some R)) (hR : R ≠ bj ∧ R ≠ bd ∧ R ≠ bo ∧ R ≠ bt ∧ R ≠ ob ∧ R ≠ t) : CapsP w' bj bd bo bt ob oo oc t m j d den own := by
  have hs := hg.size
  have c : ∀ b k, b < w.heap.size → R ≠ b → w'.cell? ⟨b, k, none⟩ = w.cell? ⟨b, k, none⟩ := fun b k hb hne => grownBy_cell (p := ⟨b, k, none⟩) hg hb (fun e => hne (by simpa using e.symm))
  exact ⟨⟨(c _ _ h.cj.2 hR.1).trans h.cj.1, by have := h.cj.2; omega⟩, ⟨(c _ _ h.cd.2 hR.2.1).trans h.cd.1, by have := h.cd.2; omega⟩, ⟨(c _ _ h.co.2 hR.2.2.1).trans h.co.1, by have := h.co.2; omega⟩, ⟨(c _ _ h.ct.2 hR.2.2.2.1).trans h.ct.1, by have := h.ct.2; omega⟩, ⟨(c _ _ h.c5.2 hR.2.2.2.2.2).trans h.c5.1, by have := h.c5.2; omega⟩, fun k hk => (c _ _ h.ob hR.2.2.2.2.1).trans (h.own k hk), by have := h.ob; omega⟩

theorem mul_small {a b : Int} (ha : -1000000000 ≤ a ∧ a ≤ 1000000000) (hb : -1000000000 ≤ b ∧ b ≤ 1000000000) : -1000000000000000000 ≤ a * b ∧ a * b ≤ 1000000000000000000 := by
  have h : (a * b).natAbs ≤ 1000000000 * 1000000000 := by rw [Int.natAbs_mul]; exact Nat.mul_le_mul (by omega) (by omega)
  omega
theorem tdiv_small {a b : Int} (ha : -2000000000000000000 ≤ a ∧ a ≤ 2000000000000000000) : -2000000000000000000 ≤ a.tdiv b ∧ a.tdiv b ≤ 2000000000000000000 := by
  have h : (a.tdiv b).natAbs ≤ a.natAbs := by rw [Int.natAbs_tdiv]; exact Nat.div_le_self _ _
  omega

/-- What the step leaves. -/
def StepRes (w : World) (R m : Nat) (r : List Int) (e : Ending) (w' : World) : Prop := (∃ v, e = .returned v) ∧ w.grownBy w' (some R) ∧ ∀ k, k < m → w'.cell? ⟨R, k, none⟩ = some (.int .i64 (ith r k)) ∧ w'.frozen? ⟨R, k, none⟩ = false

set_option maxRecDepth 100000 in
set_option maxHeartbeats 2000000 in
theorem step_calls (w : World) (bj bd bo bt ob oo oc t R m j : Nat) (d den : Int) (own r : List Int) (hC : CapsP w bj bd bo bt ob oo oc t m j d den own) (hR : R ≠ bj ∧ R ≠ bd ∧ R ≠ bo ∧ R ≠ bt ∧ R ≠ ob ∧ R ≠ t)
    (hr : ∀ k, k < m → w.cell? ⟨R, k, none⟩ = some (.int .i64 (ith r k)) ∧ w.frozen? ⟨R, k, none⟩ = false) (hj : j < m) (hm : m ≤ 2000) (hoc : m ≤ oc) (hrs : SmL m r) (hos : SmL m own) (hds : -1000000000 ≤ d ∧ d ≤ 1000000000) (hn0 : den ≠ 0) :
    Calls Try.prog 125 #[.slice (some ⟨R, 0, none⟩) m m, .pointer (some ⟨bj, 0, none⟩), .pointer (some ⟨bd, 0, none⟩), .pointer (some ⟨bo, 0, none⟩), .pointer (some ⟨bt, 0, none⟩)] w (StepRes w R m (stepRow own d den j r)) := by
  have hrj := (hr j hj).1
  have hcj := hC.cj.1
  have HR := Lib.hid hr
  have HRS := Lib.hid hrs
  have HOS := Lib.hid hos
  have hrl := hrs.len
  clear hr hrs hos
  go_enter Try.func125, Try.ntmps125
  go_wp2_with fail
  clear hrj hcj
  go_loopw [14] (fun i wr => ∃ k : Nat, k ≤ m ∧ i = .int .i64 k ∧ w.grownBy wr (some R) ∧ Hid (∀ q, q < m → wr.cell? ⟨R, q, none⟩ = some (.int .i64 (if q < k then ith (stepRow own d den j r) q else ith r q)) ∧ wr.frozen? ⟨R, q, none⟩ = false)) (fun i _ => m - (intOf i).toNat)
  case atStart => exact ⟨0, by omega, rfl, (Ext.refl _).grown _, Lib.hid (fun q hq => by simpa using HR.out q hq)⟩
  case round =>
    obtain ⟨k, hk, rfl, hg, HX⟩ := hrel
    have hCr := hC.grown hg hR
    by_cases hlt : k < m
    · obtain ⟨hck, hfk⟩ := HX.out k hlt
      rw [if_neg (by omega)] at hck
      have h1 := hCr.cd.1
      have h2 := hCr.co.1
      have h3 := hCr.ct.1
      have h4 := hCr.c5.1
      have h5 := hCr.own k hlt
      have b1 := mul_small (HRS.out.ent k hlt) hds
      have b2 := mul_small (HRS.out.ent j hj) (HOS.out.ent k hlt)
      have b3 := tdiv_small (a := ith r k * d - ith r j * ith own k) (b := den) (by omega)
      have hw1 : IntKind.i64.wrap (ith r k * d) = ith r k * d := by rw [IntKind.wrap_i64]; omega
      have hw2 : IntKind.i64.wrap (ith r j * ith own k) = ith r j * ith own k := by rw [IntKind.wrap_i64]; omega
      have hw3 : IntKind.i64.wrap (ith r k * d - ith r j * ith own k) = ith r k * d - ith r j * ith own k := by rw [IntKind.wrap_i64]; omega
      have hw4 : IntKind.i64.wrap ((ith r k * d - ith r j * ith own k).tdiv den) = (ith r k * d - ith r j * ith own k).tdiv den := by rw [IntKind.wrap_i64]; omega
      clear b1 b2 b3
      go_wp2_with fail
      go_region
      go_wp2_with fail
      have hse : ith (stepRow own d den j r) k = (ith r k * d - ith r j * ith own k).tdiv den := stepRow_at own d den j r k (by omega)
      refine ⟨⟨k + 1, by omega, rfl, grownBy_ext (grownBy_trans hg (grownBy_setCell wr ⟨R, k, none⟩ _)) (by repeat (first | exact Ext.refl _ | assumption | refine Ext.alloc ?_ _ | refine Ext.drewN ?_ _ | refine Ext.drew ?_)), Lib.hid (fun q hq => ⟨?_, ?_⟩)⟩, by simp only [intOf]; omega⟩
      · rw [World.cell?_drew]
        by_cases e : q = k
        · subst e
          rw [if_pos (by omega), hse]
          exact World.cell?_setCell_same _ _ _ hck
        · rw [World.cell?_setCell_other _ _ _ _ (fun e2 => e (by simp only [Addr.mk.injEq, and_true, true_and] at e2; exact e2.symm)), (HX.out q hq).1]
          by_cases h2 : q < k
          · rw [if_pos h2, if_pos (by omega)]
          · rw [if_neg h2, if_neg (by omega)]
      · rw [World.frozen?_drew, World.frozen?_setCell]
        exact (HX.out q hq).2
    · obtain rfl : k = m := by omega
      go_wp2_with fail
      go_end0
      refine ⟨⟨_, rfl⟩, hg, fun q hq => ?_⟩
      have := HX.out q hq
      rw [if_pos hq] at this
      exact this

/-- The tableau, when the rows below k have been stepped. -/
def stepTo (T : Tab) (i j k : Nat) : Tab := { T with rows := (List.range T.rows.length).map fun q => if q < k ∧ q ≠ i then stepRow (T.row i) (T.ent i j) T.den j (T.row q) else T.row q }
def pivotP (T : Tab) (i j : Nat) : Tab := { stepTo T i j T.rows.length with goal := stepRow (T.row i) (T.ent i j) T.den j T.goal, basis := T.basis.set i j, den := T.ent i j }
theorem stepTo_len (T : Tab) (i j k : Nat) : (stepTo T i j k).rows.length = T.rows.length := by simp [stepTo]
theorem stepTo_row (T : Tab) (i j k q : Nat) (h : q < T.rows.length) : (stepTo T i j k).row q = if q < k ∧ q ≠ i then stepRow (T.row i) (T.ent i j) T.den j (T.row q) else T.row q := by simp [stepTo, Tab.row, h]

/-- Two tableaux that differ in one row. -/
structure OneRow (T T' : Tab) (k : Nat) : Prop where
  sets : T'.sets = T.sets
  n : T'.n = T.n
  goal : T'.goal = T.goal
  basis : T'.basis = T.basis
  den : T'.den = T.den
  len : T'.rows.length = T.rows.length
  row : ∀ q, q < T.rows.length → q ≠ k → T'.row q = T.row q
theorem TabAt.setRow {w w' : World} {B : Nat} {A : Ats} {T T' : Tab} {k : Nat} (h : TabAt w B A T) (ho : OneRow T T' k) (hk : k < T.rows.length) (hg : w.grownBy w' (some (A.rb k)))
    (hc : ∀ j, j < T.wide → w'.cell? ⟨A.rb k, j, none⟩ = some (.int .i64 (T'.ent k j)) ∧ w'.frozen? ⟨A.rb k, j, none⟩ = false) : TabAt w' B A T' := by
  have hw : T'.wide = T.wide := by simp [Tab.wide, ho.sets, ho.n]
  have hs := hg.size
  have hne := h.rbNe k hk
  have c : ∀ b o, b < w.heap.size → b ≠ A.rb k → w'.cell? ⟨b, o, none⟩ = w.cell? ⟨b, o, none⟩ := fun b o hb hn => grownBy_cell (p := ⟨b, o, none⟩) hg hb (fun e => hn (by simpa using e))
  have f : ∀ b o, b < w.heap.size → b ≠ A.rb k → w'.frozen? ⟨b, o, none⟩ = w.frozen? ⟨b, o, none⟩ := fun b o hb hn => grownBy_frozen (p := ⟨b, o, none⟩) hg hb (fun e => hn (by simpa using e))
  have nt := fun e => hne.1 (Eq.symm e)
  have nr := fun e => hne.2.1 (Eq.symm e)
  have nb := fun e => hne.2.2.1 (Eq.symm e)
  have ng := fun e => hne.2.2.2 (Eq.symm e)
  have t2 := h.tIn.2
  have r2 := h.rgIn.2
  have b2 := h.bgIn.2
  have g2 := h.gbIn.2
  refine ⟨⟨h.tIn.1, by omega⟩, ⟨h.rgIn.1, by omega⟩, ⟨h.bgIn.1, by omega⟩, ⟨h.gbIn.1, by omega⟩, ?_, ?_, ?_, ?_, ?_, ?_, fun q h1 h2 => (f _ _ t2 nt).trans (h.free q h1 h2), ?_, ?_, ?_, ?_, ?_, ?_, ?_, h.ap, by rw [ho.len]; exact h.caps⟩
  · rw [ho.sets]; exact (c _ _ t2 nt).trans h.c0
  · rw [ho.n]; exact (c _ _ t2 nt).trans h.c1
  · rw [ho.len]; exact (c _ _ t2 nt).trans h.c2
  · rw [hw]; exact (c _ _ t2 nt).trans h.c3
  · rw [ho.len]; exact (c _ _ t2 nt).trans h.c4
  · rw [ho.den]; exact (c _ _ t2 nt).trans h.c5
  · rw [ho.len, hw]; exact fun i hi => ⟨(c _ _ r2 nr).trans (h.rowC i hi).1, (f _ _ r2 nr).trans (h.rowC i hi).2⟩
  · rw [ho.len, hw]
    intro i j hi hj
    by_cases e : i = k
    · subst e; exact hc j hj
    · have e2 : T'.ent i j = T.ent i j := by simp only [Tab.ent, ho.row i hi e]
      rw [e2]
      have hx := (h.rbIn i hi).2
      have hy := h.rbAp i k hi hk e
      exact ⟨(c _ _ hx hy).trans (h.entC i j hi hj).1, (f _ _ hx hy).trans (h.entC i j hi hj).2⟩
  · rw [hw, ho.goal]; exact fun j hj => ⟨(c _ _ g2 ng).trans (h.goalC j hj).1, (f _ _ g2 ng).trans (h.goalC j hj).2⟩
  · rw [ho.len, ho.basis]; exact fun i hi => ⟨(c _ _ b2 nb).trans (h.basC i hi).1, (f _ _ b2 nb).trans (h.basC i hi).2⟩
  · rw [ho.len]; exact fun i hi => ⟨(h.rbIn i hi).1, Nat.lt_of_lt_of_le (h.rbIn i hi).2 hs⟩
  · rw [ho.len]; exact h.rbNe
  · rw [ho.len]; exact h.rbAp
/-- The goal has changed. -/
theorem TabAt.setGoal {w w' : World} {B : Nat} {A : Ats} {T : Tab} {g : List Int} (h : TabAt w B A T) (hg : w.grownBy w' (some A.gb))
    (hc : ∀ j, j < T.wide → w'.cell? ⟨A.gb, j, none⟩ = some (.int .i64 (ith g j)) ∧ w'.frozen? ⟨A.gb, j, none⟩ = false) : TabAt w' B A { T with goal := g } := by
  have hs := hg.size
  have c : ∀ b o, b < w.heap.size → b ≠ A.gb → w'.cell? ⟨b, o, none⟩ = w.cell? ⟨b, o, none⟩ := fun b o hb hn => grownBy_cell (p := ⟨b, o, none⟩) hg hb (fun e => hn (by simpa using e))
  have f : ∀ b o, b < w.heap.size → b ≠ A.gb → w'.frozen? ⟨b, o, none⟩ = w.frozen? ⟨b, o, none⟩ := fun b o hb hn => grownBy_frozen (p := ⟨b, o, none⟩) hg hb (fun e => hn (by simpa using e))
  have nt := h.ap.2.2.1
  have nr := h.ap.2.2.2.2.1
  have nb := h.ap.2.2.2.2.2
  have t2 := h.tIn.2
  have r2 := h.rgIn.2
  have b2 := h.bgIn.2
  have g2 := h.gbIn.2
  exact ⟨⟨h.tIn.1, by omega⟩, ⟨h.rgIn.1, by omega⟩, ⟨h.bgIn.1, by omega⟩, ⟨h.gbIn.1, by omega⟩, (c _ _ t2 nt).trans h.c0, (c _ _ t2 nt).trans h.c1, (c _ _ t2 nt).trans h.c2, (c _ _ t2 nt).trans h.c3, (c _ _ t2 nt).trans h.c4, (c _ _ t2 nt).trans h.c5,
    fun q h1 h2 => (f _ _ t2 nt).trans (h.free q h1 h2), fun i hi => ⟨(c _ _ r2 nr).trans (h.rowC i hi).1, (f _ _ r2 nr).trans (h.rowC i hi).2⟩,
    fun i j hi hj => ⟨(c _ _ (h.rbIn i hi).2 (h.rbNe i hi).2.2.2).trans (h.entC i j hi hj).1, (f _ _ (h.rbIn i hi).2 (h.rbNe i hi).2.2.2).trans (h.entC i j hi hj).2⟩, hc,
    fun i hi => ⟨(c _ _ b2 nb).trans (h.basC i hi).1, (f _ _ b2 nb).trans (h.basC i hi).2⟩, fun i hi => ⟨(h.rbIn i hi).1, Nat.lt_of_lt_of_le (h.rbIn i hi).2 hs⟩, h.rbNe, h.rbAp, h.ap, h.caps⟩
theorem TabAt.setBasis {w : World} {B : Nat} {A : Ats} {T : Tab} (h : TabAt w B A T) {i : Nat} (hi : i < T.rows.length) (hl : T.basis.length = T.rows.length) (u : Int) :
    TabAt (w.setCell ⟨A.bg, i, none⟩ (.int .i64 u)) B A { T with basis := T.basis.set i u } := by
  have c : ∀ b o, b ≠ A.bg → (w.setCell ⟨A.bg, i, none⟩ (.int .i64 u)).cell? ⟨b, o, none⟩ = w.cell? ⟨b, o, none⟩ := fun b o hn => World.cell?_setCell_other _ _ _ _ (fun e => hn (by simp only [Addr.mk.injEq] at e; exact e.1.symm))
  have f : ∀ b o, (w.setCell ⟨A.bg, i, none⟩ (.int .i64 u)).frozen? ⟨b, o, none⟩ = w.frozen? ⟨b, o, none⟩ := fun b o => by rw [World.frozen?_setCell]
  have e : (w.setCell ⟨A.bg, i, none⟩ (.int .i64 u)).heap.size = w.heap.size := by simp [World.setCell]
  have nt := h.ap.2.1
  have nr := h.ap.2.2.2.1
  have ng := fun e => h.ap.2.2.2.2.2 (Eq.symm e)
  refine ⟨by rw [e]; exact h.tIn, by rw [e]; exact h.rgIn, by rw [e]; exact h.bgIn, by rw [e]; exact h.gbIn, (c _ _ nt).trans h.c0, (c _ _ nt).trans h.c1, (c _ _ nt).trans h.c2, (c _ _ nt).trans h.c3, (c _ _ nt).trans h.c4, (c _ _ nt).trans h.c5,
    fun q h1 h2 => (f _ _).trans (h.free q h1 h2), fun q hq => ⟨(c _ _ nr).trans (h.rowC q hq).1, (f _ _).trans (h.rowC q hq).2⟩,
    fun q j hq hj => ⟨(c _ _ (h.rbNe q hq).2.2.1).trans (h.entC q j hq hj).1, (f _ _).trans (h.entC q j hq hj).2⟩, fun j hj => ⟨(c _ _ ng).trans (h.goalC j hj).1, (f _ _).trans (h.goalC j hj).2⟩,
    fun q hq => ⟨?_, (f _ _).trans (h.basC q hq).2⟩, fun q hq => by rw [e]; exact h.rbIn q hq, h.rbNe, h.rbAp, h.ap, h.caps⟩
  simp only []
  rw [ith_set _ _ _ _ (by omega)]
  by_cases e2 : q = i
  · subst e2
    rw [if_pos rfl]; exact World.cell?_setCell_same _ _ _ (h.basC q hq).1
  · rw [if_neg e2, World.cell?_setCell_other _ _ _ _ (fun e3 => e2 (by simp only [Addr.mk.injEq, and_true, true_and] at e3; exact e3.symm))]
    exact (h.basC q hq).1
theorem TabAt.setDen {w : World} {B : Nat} {A : Ats} {T : Tab} (h : TabAt w B A T) (u : Int) : TabAt (w.setCell ⟨A.t, 5, none⟩ (.int .i64 u)) B A { T with den := u } := by
  have c : ∀ b o, b ≠ A.t → (w.setCell ⟨A.t, 5, none⟩ (.int .i64 u)).cell? ⟨b, o, none⟩ = w.cell? ⟨b, o, none⟩ := fun b o hn => World.cell?_setCell_other _ _ _ _ (fun e => hn (by simp only [Addr.mk.injEq] at e; exact e.1.symm))
  have ct : ∀ o, o ≠ 5 → (w.setCell ⟨A.t, 5, none⟩ (.int .i64 u)).cell? ⟨A.t, o, none⟩ = w.cell? ⟨A.t, o, none⟩ := fun o hn => World.cell?_setCell_other _ _ _ _ (fun e => hn (by simp only [Addr.mk.injEq, and_true, true_and] at e; exact e.symm))
  have f : ∀ b o, (w.setCell ⟨A.t, 5, none⟩ (.int .i64 u)).frozen? ⟨b, o, none⟩ = w.frozen? ⟨b, o, none⟩ := fun b o => by rw [World.frozen?_setCell]
  have e : (w.setCell ⟨A.t, 5, none⟩ (.int .i64 u)).heap.size = w.heap.size := by simp [World.setCell]
  have nr := fun e => h.ap.1 (Eq.symm e)
  have nb := fun e => h.ap.2.1 (Eq.symm e)
  have ng := fun e => h.ap.2.2.1 (Eq.symm e)
  exact ⟨by rw [e]; exact h.tIn, by rw [e]; exact h.rgIn, by rw [e]; exact h.bgIn, by rw [e]; exact h.gbIn, (ct _ (by omega)).trans h.c0, (ct _ (by omega)).trans h.c1, (ct _ (by omega)).trans h.c2, (ct _ (by omega)).trans h.c3, (ct _ (by omega)).trans h.c4, World.cell?_setCell_same _ _ _ h.c5,
    fun q h1 h2 => (f _ _).trans (h.free q h1 h2), fun q hq => ⟨(c _ _ nr).trans (h.rowC q hq).1, (f _ _).trans (h.rowC q hq).2⟩,
    fun q j hq hj => ⟨(c _ _ (h.rbNe q hq).1).trans (h.entC q j hq hj).1, (f _ _).trans (h.entC q j hq hj).2⟩, fun j hj => ⟨(c _ _ ng).trans (h.goalC j hj).1, (f _ _).trans (h.goalC j hj).2⟩,
    fun q hq => ⟨(c _ _ nb).trans (h.basC q hq).1, (f _ _).trans (h.basC q hq).2⟩, fun q hq => by rw [e]; exact h.rbIn q hq, h.rbNe, h.rbAp, h.ap, h.caps⟩
end Go.Proofs.Ytcngecibljgndaa
