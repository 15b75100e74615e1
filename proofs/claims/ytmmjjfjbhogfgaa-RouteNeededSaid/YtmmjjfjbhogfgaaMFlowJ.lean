/- The specification's net is made: two rows of rows in one box. -/
import Derived.Test.YtmmjjfjbhogfgaaMFlowB
import Derived.Test.YtmmjjfjbhogfgaaMFlowH
import Derived.Test.YtmmjjfjbhogfgaaMNeedC
import Derived.Deep.RegionLaw
import Derived.BigRegion
namespace Go.Proofs.Ytmmjjfjbhogfgaa
open Go.RowKit
attribute [local go_sem] Leg.val run_store_fn

/-- One of the two: a field of the box that holds k rows. -/
structure Half (w : World) (W fb s n k : Nat) (ov : Value) (rb : Nat → Nat) (z : Value) : Prop where
  cell : w.cell? ⟨fb, s, none⟩ = some ov
  free : w.frozen? ⟨fb, s, none⟩ = false
  own : Own w W 1 ov (rowVals n rb k)
  grid : Grid w W n k rb (fun _ _ => z)
  away : ∀ j, j < k → ov.ownBlock ≠ some (rb j)
theorem Half.ext {w w' : World} {W fb s n k : Nat} {ov : Value} {rb : Nat → Nat} {z : Value} (h : Half w W fb s n k ov rb z) (hl : fb < w.heap.size) (hx : Ext w w') : Half w' W fb s n k ov rb z :=
  ⟨(hx.cell hl).trans h.cell, (hx.frozen hl).trans h.free, h.own.ext hx, h.grid.ext hx, h.away⟩
theorem Half.step {w w2 w5 : World} {W fb s n k : Nat} {ov v' : Value} {rb : Nat → Nat} {z : Value} (h : Half w W fb s n k ov rb z) (hfb : fb < W) (hW : W ≤ w.heap.size) (hx : Ext w w2) (hs2 : w.heap.size < w2.heap.size)
    (hrow : ∀ j, j < n → w2.cell? ⟨w.heap.size, j, none⟩ = some z ∧ w2.frozen? ⟨w.heap.size, j, none⟩ = false) (hg5 : w2.grownBy w5 ov.ownBlock) (ho5 : Own w5 W 1 v' (rowVals n rb k ++ [.slice (some ⟨w.heap.size, 0, none⟩) n n]))
    (hb5 : ∀ q, v'.ownBlock = some q → ov.ownBlock = some q ∨ w2.heap.size ≤ q) :
    Half (w5.setCell ⟨fb, s, none⟩ v') W fb s n (k + 1) v' (fun i => if i = k then w.heap.size else rb i) z := by
  have hlow : ∀ q, ov.ownBlock = some q → W ≤ q ∧ q < w.heap.size := h.own.lt
  have hs := hx.size
  have hne : some fb ≠ ov.ownBlock := fun e => by have := (hlow fb e.symm).1; omega
  have hG2 := h.grid.snoc hx (b := w.heap.size) (Nat.le_refl _) hs2 hW hrow
  have hc5 := (grownBy_cell hg5 (p := ⟨fb, s, none⟩) (by simp only; omega) hne).trans ((hx.cell (p := ⟨fb, s, none⟩) (by simp only; omega)).trans h.cell)
  have hf5 := (grownBy_frozen hg5 (p := ⟨fb, s, none⟩) (by simp only; omega) hne).trans ((hx.frozen (p := ⟨fb, s, none⟩) (by simp only; omega)).trans h.free)
  have hG5 := hG2.grown hg5 (fun i hi e => by
    by_cases ei : i = k
    · rw [if_pos ei] at e
      have := (hlow _ e.symm).2
      omega
    · rw [if_neg ei] at e
      exact h.away i (by omega) e.symm)
  have hG6 := hG5.grown (grownBy_setCell w5 ⟨fb, s, none⟩ v') (fun i hi e => by
    have := (hG2.low i hi).1
    simp only [Option.some.injEq] at e
    omega)
  rw [rowVals_snoc] at ho5
  have ho6 := ho5.keep (grownBy_setCell w5 ⟨fb, s, none⟩ v') (by
    right
    intro e
    have := (ho5.lt fb e).1
    omega)
  refine ⟨World.cell?_setCell_same _ _ _ hc5, by rw [World.frozen?_setCell]; exact hf5, ho6, hG6, fun j hj e => ?_⟩
  have hj2 := (hG2.low j hj).2
  rcases hb5 _ e with e1 | e1
  · by_cases ej : j = k
    · rw [if_pos ej] at e1
      have := (hlow _ e1).2
      omega
    · rw [if_neg ej] at e1
      exact h.away j (by omega) e1
  · by_cases ej : j = k
    · rw [if_pos ej] at e1
      omega
    · rw [if_neg ej] at e1
      have := (h.grid.low j (by omega)).2
      omega
theorem Half.keep {w w2 w5 : World} {W fb s s' n k : Nat} {ov u : Value} {rb : Nat → Nat} {z : Value} {row : Option Nat} (h : Half w W fb s n k ov rb z) (hfb : fb < W) (hW : W ≤ w.heap.size) (hs' : s' ≠ s) (hx : Ext w w2) (hg5 : w2.grownBy w5 row)
    (hlow : ∀ q, row = some q → W ≤ q) (h1 : ∀ q, row = some q → ov.ownBlock ≠ some q) (h2 : ∀ j, j < k → row ≠ some (rb j)) : Half (w5.setCell ⟨fb, s', none⟩ u) W fb s n k ov rb z := by
  have hs := hx.size
  have hne : some fb ≠ row := fun e => by have := hlow fb e.symm; omega
  have ho2 := h.own.ext hx
  have ho5 := ho2.keep hg5 (by
    cases hr : row with
    | none =>
      cases ho : ov.ownBlock with
      | none => exact .inl rfl
      | some q => exact .inr (by simp)
    | some q => exact .inr (h1 q hr))
  have ho6 := ho5.keep (grownBy_setCell w5 ⟨fb, s', none⟩ u) (by
    right
    intro e
    have := (ho5.lt fb e).1
    omega)
  have hG5 := (h.grid.ext hx).grown hg5 (fun j hj e => h2 j hj e.symm)
  have hG6 := hG5.grown (grownBy_setCell w5 ⟨fb, s', none⟩ u) (fun j hj e => by
    have := (h.grid.low j hj).1
    simp only [Option.some.injEq] at e
    omega)
  refine ⟨?_, ?_, ho6, hG6, h.away⟩
  · rw [World.cell?_setCell_other _ _ _ _ (by simp only [ne_eq, Addr.mk.injEq, true_and, and_true]; exact hs')]
    exact (grownBy_cell hg5 (p := ⟨fb, s, none⟩) (by simp only; omega) hne).trans ((hx.cell (p := ⟨fb, s, none⟩) (by simp only; omega)).trans h.cell)
  · rw [World.frozen?_setCell]
    exact (grownBy_frozen hg5 (p := ⟨fb, s, none⟩) (by simp only; omega) hne).trans ((hx.frozen (p := ⟨fb, s, none⟩) (by simp only; omega)).trans h.free)
/-- The two do not meet. -/
structure Cross (ka kb : Nat) (va vb : Value) (ra rb : Nat → Nat) : Prop where
  rows : ∀ i j, i < ka → j < kb → ra i ≠ rb j
  ab : ∀ i, i < ka → vb.ownBlock ≠ some (ra i)
  ba : ∀ j, j < kb → va.ownBlock ≠ some (rb j)
  tops : ∀ q, va.ownBlock = some q → vb.ownBlock ≠ some q
theorem Cross.swap {ka kb : Nat} {va vb : Value} {ra rb : Nat → Nat} (h : Cross ka kb va vb ra rb) : Cross kb ka vb va rb ra :=
  ⟨fun i j hi hj e => h.rows j i hj hi e.symm, h.ba, h.ab, fun q e e2 => h.tops q e2 e⟩
theorem Cross.left {ka kb S : Nat} {va vb v' : Value} {ra rb : Nat → Nat} (h : Cross ka kb va vb ra rb) (hb : ∀ q, v'.ownBlock = some q → va.ownBlock = some q ∨ S ≤ q) (hv : ∀ q, vb.ownBlock = some q → q < S) (hr : ∀ j, j < kb → rb j < S) : Cross (ka + 1) kb v' vb (fun i => if i = ka then S else ra i) rb := by
  refine ⟨fun i j hi hj => ?_, fun i hi e => ?_, fun j hj e => ?_, fun q e e2 => ?_⟩
  · have := hr j hj
    by_cases ei : i = ka
    · simp only [ei, if_true]; omega
    · simp only [ei, if_false]; exact h.rows i j (by omega) hj
  · by_cases ei : i = ka
    · simp only [ei, if_true] at e
      have := hv _ e; omega
    · simp only [ei, if_false] at e; exact h.ab i (by omega) e
  · have := hr j hj
    rcases hb _ e with e1 | e1
    · exact h.ba j hj e1
    · omega
  · rcases hb _ e with e1 | e1
    · exact h.tops q e1 e2
    · have := hv _ e2; omega

theorem made_bools (n : Nat) : madeCells (Value.bool false).cells n = Array.replicate n (.bool false) := by
  refine Array.ext (by simp [madeCells]) (fun i h1 h2 => ?_)
  simp [madeCells, Value.cells, Nat.mod_one]
theorem make_bools (n : Nat) (hn : n ≤ 100000) (W : World) : (Instr.makeSlice 65 (.int .i64 n) (.int .i64 n)).run Try.prog W = .ok (.slice (some ⟨W.heap.size, 0, none⟩) n n) (W.alloc (.cells (Array.replicate n (.bool false)) 4)) := by
  obtain ⟨i0, hi, hz0, hz1, hz2⟩ := info_parts info_bool
  have := run_make (P := Try.prog) W 65 4 i0 (.bool false) Try.underlying65 hi hz0 .i64 .i64 n n (by omega) (Int.le_refl _) (by rw [hz2]; omega) (by omega)
  rw [hz1, Nat.mul_one, made_bools] at this
  simpa using this
theorem info_rowB : (Try.prog.info? 65).map (fun i => (i.zero, i.size, i.bytes)) = some (some (.slice none 0 0), 1, 24) := by kernel_rfl
theorem rows_twoV (w : World) (n : Nat) (z : Value) (t t2 : TypeId) : Ext w ((w.alloc (Obj.cells (Array.replicate n z) t)).alloc (Obj.cells #[Value.slice (some { block := w.heap.size, off := 0 }) n n] t2)).drew ∧ ∀ j, j < n →
    ((w.alloc (Obj.cells (Array.replicate n z) t)).alloc (Obj.cells #[Value.slice (some { block := w.heap.size, off := 0 }) n n] t2)).drew.cell? ⟨w.heap.size, j, none⟩ = some z ∧
    ((w.alloc (Obj.cells (Array.replicate n z) t)).alloc (Obj.cells #[Value.slice (some { block := w.heap.size, off := 0 }) n n] t2)).drew.frozen? ⟨w.heap.size, j, none⟩ = false := by
  refine ⟨(by repeat (first | exact Ext.refl _ | assumption | refine Ext.alloc ?_ _ | refine Ext.drewN ?_ _ | refine Ext.drew ?_)), fun j hj => ⟨?_, ?_⟩⟩
  · simp [go_sem, hj]
  · simp [go_sem]
end Go.Proofs.Ytmmjjfjbhogfgaa

/- Apart of the specification: the net is made. -/
namespace Go.Proofs.Ytmmjjfjbhogfgaa
open Go.RowKit
attribute [local go_sem] Leg.val run_store_fn

def BArc (S : Nat → Nat → Prop) (av : Nat → Nat → Bool) : Prop := ∀ u v, av u v = true ↔ S u v
theorem BArc.put {S : Nat → Nat → Prop} {av : Nat → Nat → Bool} (h : BArc S av) {i j : Nat} {b : Bool} (hf : ¬ S i j) : BArc (fun u v => (u = i ∧ v = j ∧ b = true) ∨ S u v) (fun p q => if p = i ∧ q = j then b else av p q) := by
  intro u v
  by_cases e : u = i ∧ v = j
  · obtain ⟨rfl, rfl⟩ := e
    simp only [and_self, if_true, true_and]
    exact ⟨fun h => .inl h, fun h => h.elim id (fun h => (hf h).elim)⟩
  · simp only [if_neg e]
    rw [h u v]
    exact ⟨fun h => .inr h, fun h => h.elim (fun h => (e ⟨h.1, h.2.1⟩).elim) id⟩
theorem BArc.on {S : Nat → Nat → Prop} {av : Nat → Nat → Bool} (h : BArc S av) (i j : Nat) : BArc (fun u v => (u = i ∧ v = j) ∨ S u v) (fun p q => if p = i ∧ q = j then true else av p q) := by
  intro u v
  by_cases e : u = i ∧ v = j
  · simp only [if_pos e, true_iff]
    exact .inl e
  · simp only [if_neg e]
    rw [h u v]
    exact ⟨fun h => .inr h, fun h => h.elim (fun h => (e h).elim) id⟩
theorem BArc.congr {S S' : Nat → Nat → Prop} {av : Nat → Nat → Bool} (h : BArc S av) (hs : ∀ u v, S' u v ↔ S u v) : BArc S' av := fun u v => (h u v).trans (hs u v).symm
theorem NetS.setA {w : World} {base ga oa gb ob n : Nat} {ra rb : Nat → Nat} {a : Nat → Nat → Bool} {B : Nat → Nat → Int} (h : NetS w base ga oa gb ob n ra rb a B) {i j : Nat} (hi : i < n) (hj : j < n) (hf : ra i ≠ ga ∧ ra i ≠ gb) (u : Bool) :
    NetS (w.setCell ⟨ra i, j, none⟩ (.bool u)) base ga oa gb ob n ra rb (fun p q => if p = i ∧ q = j then u else a p q) B := by
  refine ⟨by simpa [World.setCell] using h.topA, by simpa [World.setCell] using h.topB, ?_, h.gridB.grown (grownBy_setCell _ _ _) (fun k hk e => (h.free k hk).2.2 i hi (by simp only [Option.some.injEq] at e; exact e)), fun k hk => ?_, fun k hk => ?_, h.free⟩
  · have := h.gridA.set hi hj (.bool u)
    refine ⟨this.low, this.apart, fun p q hp hq => ⟨?_, (this.cell p q hp hq).2⟩⟩
    rw [(this.cell p q hp hq).1]
    split <;> rfl
  · rw [World.cell?_setCell_other _ _ _ _ (fun e => hf.1 (by simp only [Addr.mk.injEq] at e; exact e.1))]; exact h.cellA k hk
  · rw [World.cell?_setCell_other _ _ _ _ (fun e => hf.2 (by simp only [Addr.mk.injEq] at e; exact e.1))]; exact h.cellB k hk
/-- What does not change while arcs are laid. -/
structure Keeps (w : World) (fb ga oa ca gb ob cb n g off : Nat) (F : List Bool) : Prop where
  lt : fb < w.heap.size
  c0 : w.cell? ⟨fb, 0, none⟩ = some (.slice (some ⟨ga, oa, none⟩) n ca)
  c1 : w.cell? ⟨fb, 1, none⟩ = some (.slice (some ⟨gb, ob, none⟩) n cb)
  first : BoolsIn w (some ⟨g, off, none⟩) F
theorem Keeps.ext {w w' : World} {fb ga oa ca gb ob cb n g off : Nat} {F : List Bool} (h : Keeps w fb ga oa ca gb ob cb n g off F) (hx : Ext w w') : Keeps w' fb ga oa ca gb ob cb n g off F :=
  ⟨Nat.lt_of_lt_of_le h.lt hx.size, (hx.cell h.lt).trans h.c0, (hx.cell h.lt).trans h.c1, h.first.ext hx⟩
theorem Keeps.set {w : World} {fb ga oa ca gb ob cb n g off : Nat} {F : List Bool} (h : Keeps w fb ga oa ca gb ob cb n g off F) {b j : Nat} {u : Value} (h1 : b ≠ fb) (h2 : b ≠ g) : Keeps (w.setCell ⟨b, j, none⟩ u) fb ga oa ca gb ob cb n g off F := by
  refine ⟨by simpa [World.setCell] using h.lt, ?_, ?_, h.first.grown (grownBy_setCell _ _ _) (fun a ha e => by cases ha; simp only [Option.some.injEq] at e; exact h2 e.symm)⟩
  · rw [World.cell?_setCell_other _ _ _ _ (fun e => h1 (by simp only [Addr.mk.injEq] at e; exact e.1))]; exact h.c0
  · rw [World.cell?_setCell_other _ _ _ _ (fun e => h1 (by simp only [Addr.mk.injEq] at e; exact e.1))]; exact h.c1

/-- What the specification's Apart answers. -/
def ApartOfS (n : Int) (L : List Leg) (c src dst at_ by_ : Int) (k : Nat) (e : Int) : Prop :=
  (goodE n L c src dst [at_, by_] ≠ 0 ∧ k = 0 ∧ e = goodE n L c src dst [at_, by_]) ∨
  (goodE n L c src dst [at_, by_] = 0 ∧ src = dst ∧ k = 0 ∧ e = (if by_ < at_ then 10 else 0)) ∨
  (goodE n L c src dst [at_, by_] = 0 ∧ src ≠ dst ∧ ¬ Goes c L src dst at_ by_ ∧ k = 0 ∧ e = 10) ∨
  (goodE n L c src dst [at_, by_] = 0 ∧ src ≠ dst ∧ Goes c L src dst at_ by_ ∧ e = 0 ∧ MostOfS (2 * L.length + 2) (ArcsAll c L src dst at_ by_) k)
theorem ApartOf.same {n : Int} {L : List Leg} {c src dst at_ by_ : Int} {k k' : Nat} {e e' : Int} (h : ApartOf n L c src dst at_ by_ k e) (h' : ApartOfS n L c src dst at_ by_ k' e') : k = k' ∧ e = e' := by
  rcases h with ⟨h1, rfl, rfl⟩ | ⟨h1, h2, rfl, rfl⟩ | ⟨h1, h2, h3, rfl, rfl⟩ | ⟨h1, h2, h3, rfl, C, hC, hM⟩ <;> rcases h' with ⟨g1, rfl, rfl⟩ | ⟨g1, g2, rfl, rfl⟩ | ⟨g1, g2, g3, rfl, rfl⟩ | ⟨g1, g2, g3, rfl, gM⟩
  all_goals first
    | exact ⟨rfl, rfl⟩
    | exact (h1 g1).elim
    | exact (g1 h1).elim
    | exact (h2 g2).elim
    | exact (g2 h2).elim
    | exact (h3 g3).elim
    | exact (g3 h3).elim
    | skip
  have := most_same (fun i hi hf => by
    have h4 := (good_iff.1 h1).fine i hi
    unfold Fine at h4
    simp only [folL, folB, Bool.and_eq_true, decide_eq_true_eq] at hf
    omega) hC hM gM
  exact ⟨by omega, rfl⟩
theorem needS_err {n : Int} {L : List Leg} {c src dst at_ by_ : Int} {R : List Nat} {e : Int} (h : NeedOf n L c src dst at_ by_ R e) (he : e ≠ 0) : ApartOfS n L c src dst at_ by_ 0 e := by
  rcases h with ⟨h1, _, h3⟩ | ⟨h1, h2, _, h3⟩ | ⟨h1, h2, h3, _, h4⟩ | ⟨_, _, _, _, h4⟩
  · exact .inl ⟨h1, rfl, h3⟩
  · exact .inr (.inl ⟨h1, h2, rfl, h3⟩)
  · exact .inr (.inr (.inl ⟨h1, h2, h3, rfl, h4⟩))
  · exact (he h4).elim
theorem needS_same {n : Int} {L : List Leg} {c src dst at_ by_ : Int} {R : List Nat} {e : Int} (h : NeedOf n L c src dst at_ by_ R e) (he : e = 0) (hs : src = dst) : ApartOfS n L c src dst at_ by_ 0 0 := by
  rcases h with ⟨h1, _, h3⟩ | ⟨h1, h2, _, h3⟩ | ⟨_, h2, _⟩ | ⟨_, h2, _⟩
  · exact (h1 (by omega)).elim
  · exact .inr (.inl ⟨h1, h2, rfl, by omega⟩)
  · exact (h2 hs).elim
  · exact (h2 hs).elim
theorem needS_goes {n : Int} {L : List Leg} {c src dst at_ by_ : Int} {R : List Nat} {e : Int} (h : NeedOf n L c src dst at_ by_ R e) (he : e = 0) (hs : src ≠ dst) : Good n L c src dst [at_, by_] ∧ Goes c L src dst at_ by_ := by
  rcases h with ⟨h1, _, h3⟩ | ⟨h1, h2, _, h3⟩ | ⟨_, h2, _, _, h3⟩ | ⟨h1, h2, h3, _⟩
  · exact (h1 (by omega)).elim
  · exact (hs h2).elim
  · omega
  · exact ⟨good_iff.1 h1, h3⟩
def ApartSRes (w : World) (n : Int) (L : List Leg) (c src dst at_ by_ : Int) (e : Ending) (w' : World) : Prop :=
  ∃ (k : Nat) (er : Int), e = .returned (.tuple #[.int .i64 k, .int .i64 er]) ∧ ApartOfS n L c src dst at_ by_ k er ∧ Ext w w'

set_option maxRecDepth 100000 in
set_option maxHeartbeats 16000000 in
theorem refApart_calls (w : World) (n : Int) (ao : Option Addr) (cap : Nat) (L : List Leg) (c src dst at_ by_ : Int) (hL : LegsIn w ao L) (hlen : L.length ≤ 10000000) :
    Calls Try.prog 34 #[.int .i64 n, .slice ao L.length cap, .int .i64 c, .int .i64 src, .int .i64 dst, .int .i64 at_, .int .i64 by_] w (ApartSRes w n L c src dst at_ by_) := by
  obtain ⟨i0, hi, hz0, hz1, hz2⟩ := info_parts info_row
  obtain ⟨j0, hj, hy0, hy1, hy2⟩ := info_parts info_rowB
  have hu1 := Try.underlying88
  have hu2 := Try.underlying76
  go_enter Try.func34, Try.ntmps34
  go_wp2_with fail
  refine (refNeeded_calls w n ao cap L c src dst at_ by_ hL hlen).mono ?_
  rintro e w1 ⟨ro, rcap, R, er, rfl, hri, hNd, hx1⟩
  have HN := Lib.hid hNd
  clear hNd hri
  by_cases he : er = 0
  · subst he
    cases hsd : (src == dst) with
    | true =>
      have HA := Lib.hid (needS_same HN.out rfl (by simpa using hsd))
      go_wp2_with fail
      go_ret2
      exact ⟨0, 0, rfl, HA.out, hx1⟩
    | false =>
      have hnd : src ≠ dst := by simpa using hsd
      have HND := Lib.hid hnd
      obtain ⟨hgood, hgoes⟩ := needS_goes HN.out rfl hnd
      have HGO := Lib.hid hgoes
      have HGD := Lib.hid hgood
      have hlen2 := hgood.len
      clear hnd hgood hgoes
      go_wp2_with fail
      have hx12 : Ext w1 (w1.alloc (Obj.cells #[Value.slice none 0 0, Value.slice none 0 0] 93)) := (by repeat (first | exact Ext.refl _ | assumption | refine Ext.alloc ?_ _ | refine Ext.drewN ?_ _ | refine Ext.drew ?_))
      have hc0 : (w1.alloc (Obj.cells #[Value.slice none 0 0, Value.slice none 0 0] 93)).cell? ⟨w1.heap.size, 0, none⟩ = some (.slice none 0 0) ∧ (w1.alloc (Obj.cells #[Value.slice none 0 0, Value.slice none 0 0] 93)).frozen? ⟨w1.heap.size, 0, none⟩ = false := ⟨by simp [go_sem], by simp [go_sem]⟩
      have hc1 : (w1.alloc (Obj.cells #[Value.slice none 0 0, Value.slice none 0 0] 93)).cell? ⟨w1.heap.size, 1, none⟩ = some (.slice none 0 0) ∧ (w1.alloc (Obj.cells #[Value.slice none 0 0, Value.slice none 0 0] 93)).frozen? ⟨w1.heap.size, 1, none⟩ = false := ⟨by simp [go_sem], by simp [go_sem]⟩
      have hs2 : w1.heap.size < (w1.alloc (Obj.cells #[Value.slice none 0 0, Value.slice none 0 0] 93)).heap.size := by simp
      generalize (w1.alloc (Obj.cells #[Value.slice none 0 0, Value.slice none 0 0] 93)) = w2 at *
      obtain ⟨fb, hfb⟩ : ∃ fb, fb = w1.heap.size := ⟨_, rfl⟩
      have hfb0 : w1.heap.size ≤ fb := by omega
      rw [← hfb] at hc0 hc1 hs2 ⊢
      clear hfb
      obtain ⟨W, hW⟩ : ∃ W, W = w2.heap.size := ⟨_, rfl⟩
      have hfW : fb < W := by omega
      obtain ⟨N, hND⟩ : ∃ N, N = 2 * L.length + 2 := ⟨_, rfl⟩
      have HNE := Lib.hid hND
      have hN1 : 2 * L.length + 2 ≤ N := by omega
      have hN2 : N ≤ 2 * L.length + 2 := by omega
      have hcast : (2 : Int) * (L.length : Int) + 2 = (N : Int) := by omega
      have hmB : ∀ W, (Instr.makeSlice 65 (.int .i64 (2 * (L.length : Int) + 2)) (.int .i64 (2 * (L.length : Int) + 2))).run Try.prog W = .ok (.slice (some ⟨W.heap.size, 0, none⟩) N N) (W.alloc (.cells (Array.replicate N (.bool false)) 4)) := fun W => by rw [hcast]; exact make_bools N (by omega) W
      have hmI : ∀ W, (Instr.makeSlice 25 (.int .i64 (2 * (L.length : Int) + 2)) (.int .i64 (2 * (L.length : Int) + 2))).run Try.prog W = .ok (.slice (some ⟨W.heap.size, 0, none⟩) N N) (W.alloc (.cells (Array.replicate N (.int .i64 0)) 3)) := fun W => by rw [hcast]; exact make_ints N (by omega) W
      have hw1 : IntKind.i64.wrap (2 * (L.length : Int)) = 2 * (L.length : Int) := by rw [IntKind.wrap_i64]; omega
      have hw2 : IntKind.i64.wrap (2 * (L.length : Int) + 2) = 2 * (L.length : Int) + 2 := by rw [IntKind.wrap_i64]; omega
      clear hcast hND
      have hWl : W ≤ w2.heap.size := by omega
      clear hW
      have hxW := hx12
      go_loopw [19] (fun i wr => ∃ (k : Nat) (va vb : Value) (ra rb : Nat → Nat), k ≤ N ∧ i = .int .i64 k ∧ Ext w1 wr ∧ W ≤ wr.heap.size ∧ Half wr W fb 0 N k va ra (.bool false) ∧ Half wr W fb 1 N k vb rb (.int .i64 0) ∧ Hid (Cross k k va vb ra rb)) (fun i _ => N - (intOf i).toNat)
      case atStart => exact ⟨0, _, _, fun _ => 0, fun _ => 0, by omega, rfl, hx12, hWl, ⟨hc0.1, hc0.2, Own.nil _ _ _, ⟨fun i hi => by omega, fun i j hi => by omega, fun i j hi => by omega⟩, fun j hj => by omega⟩, ⟨hc1.1, hc1.2, Own.nil _ _ _, ⟨fun i hi => by omega, fun i j hi => by omega, fun i j hi => by omega⟩, fun j hj => by omega⟩, Lib.hid ⟨fun i j hi => by omega, fun i hi => by omega, fun j hj => by omega, fun q hq => by simp [Value.ownBlock] at hq⟩⟩
      case round =>
        clear hc0 hc1 hx12 hxW hWl hs2
        obtain ⟨k, va, vb, ra, rb, hk, rfl, hx, hWr, hHA, hHB, HX⟩ := hrel
        by_cases hlt : k < N
        · have hfbl : fb < wr.heap.size := by omega
          have hcA : ∀ W2, Ext wr W2 → W2.cell? ⟨fb, 0, none⟩ = some va ∧ W2.frozen? ⟨fb, 0, none⟩ = false ∧ fb < W2.heap.size := fun W2 h => ⟨(h.cell hfbl).trans hHA.cell, (h.frozen hfbl).trans hHA.free, Nat.lt_of_lt_of_le hfbl h.size⟩
          have hc := hHA.cell
          have ho := hHA.own
          have hneA : some (⟨fb, 0, none⟩ : Addr).block ≠ va.ownBlock := fun e => by have := (ho.lt fb e.symm).1; omega
          go_wp2_with fail
          go_region_law (refine step_append_Own _ (by rfl) _ _ 76 (by rfl) 65 j0 (.slice none 0 0) 1 24 hu2 hj hy0 hy1 hy2 rfl (by omega) W _ (rowVals N ra k) (by rfl) (Own.ext ho (by repeat (first | exact Ext.refl _ | assumption | refine Ext.alloc ?_ _ | refine Ext.drewN ?_ _ | refine Ext.drew ?_))) (by simp <;> omega) ⟨wr.heap.size + 1, 0, none⟩ 1 1 [.slice (some ⟨wr.heap.size, 0, none⟩) N N] (by rfl) (by rfl) (one_cellD _ _ _ _ (by simp)) (by simp [Value.oneCell']) (by simp [rowVals_length]; unfold maxLen; omega) (by simp [rowVals_length]; omega) ?_; intro v' w5 ho5 hg5 hb5; have hc5 := (grownBy_cell hg5 (p := ⟨fb, 0, none⟩) (hcA _ (by repeat (first | exact Ext.refl _ | assumption | refine Ext.alloc ?_ _ | refine Ext.drewN ?_ _ | refine Ext.drew ?_))).2.2 (hneA)).trans (hcA _ (by repeat (first | exact Ext.refl _ | assumption | refine Ext.alloc ?_ _ | refine Ext.drewN ?_ _ | refine Ext.drew ?_))).1; have hf5 := (grownBy_frozen hg5 (p := ⟨fb, 0, none⟩) (hcA _ (by repeat (first | exact Ext.refl _ | assumption | refine Ext.alloc ?_ _ | refine Ext.drewN ?_ _ | refine Ext.drew ?_))).2.2 (hneA)).trans (hcA _ (by repeat (first | exact Ext.refl _ | assumption | refine Ext.alloc ?_ _ | refine Ext.drewN ?_ _ | refine Ext.drew ?_))).2.1; obtain ⟨no, nn, nc, rfl, -⟩ := ho5.shapeCap; have HB5 := Lib.hid hb5; clear hb5)
          all_goals
            obtain ⟨hxr, hrow⟩ := rows_twoV wr N (.bool false) 4 65
            have hsz : ((wr.alloc (Obj.cells (Array.replicate N (Value.bool false)) 4)).alloc (Obj.cells #[Value.slice (some { block := wr.heap.size, off := 0 }) N N] 65)).drew.heap.size = wr.heap.size + 2 := by simp
            have hvl : ∀ q, va.ownBlock = some q → W ≤ q := fun q h => (hHA.own.lt q h).1
            have hA6 := hHA.step hfW hWr hxr (by rw [hsz]; omega) hrow hg5 ho5 HB5.out
            have hB6 := hHB.keep (s' := 0) (u := .slice no nn nc) hfW hWr (by decide) hxr hg5 hvl (fun q h e => HX.out.tops q h e) (fun j hj e => HX.out.ba j hj e)
            have HX6 := Lib.hid (HX.out.left (S := wr.heap.size) (v' := .slice no nn nc) (fun q h => by rcases HB5.out q h with h | h; exact .inl h; rw [hsz] at h; exact .inr (by omega)) (fun q h => (hHB.own.lt q h).2) (fun j hj => (hHB.grid.low j hj).2))
            have hx6 : Ext w1 (w5.setCell ⟨fb, 0, none⟩ (.slice no nn nc)) := ((hx.trans hxr).onto hg5 (fun q hq => by have := hvl q hq; omega)).setOwn _ _ hfb0
            have hs6 : W ≤ (w5.setCell ⟨fb, 0, none⟩ (.slice no nn nc)).heap.size := by have := hg5.size; rw [hsz] at this; simp [World.setCell]; omega
            clear hHA hHB HX hg5 ho5 HB5 hc5 hf5 hcA hc ho hneA hxr hrow hsz hfbl hx hWr hvl
            generalize (w5.setCell ⟨fb, 0, none⟩ (.slice no nn nc)) = w6 at *
            generalize (.slice no nn nc : Value) = va' at *
            have hfbl : fb < w6.heap.size := by omega
            have hcA : ∀ W2, Ext w6 W2 → W2.cell? ⟨fb, 1, none⟩ = some vb ∧ W2.frozen? ⟨fb, 1, none⟩ = false ∧ fb < W2.heap.size := fun W2 h => ⟨(h.cell hfbl).trans hB6.cell, (h.frozen hfbl).trans hB6.free, Nat.lt_of_lt_of_le hfbl h.size⟩
            have hc := hB6.cell
            have ho := hB6.own
            have hneA : some (⟨fb, 1, none⟩ : Addr).block ≠ vb.ownBlock := fun e => by have := (ho.lt fb e.symm).1; omega
            go_wp2_with fail
            go_region_law (refine step_append_Own _ (by rfl) _ _ 88 (by rfl) 25 i0 (.slice none 0 0) 1 24 hu1 hi hz0 hz1 hz2 rfl (by omega) W _ (rowVals N rb k) (by rfl) (Own.ext ho (by repeat (first | exact Ext.refl _ | assumption | refine Ext.alloc ?_ _ | refine Ext.drewN ?_ _ | refine Ext.drew ?_))) (by simp <;> omega) ⟨w6.heap.size + 1, 0, none⟩ 1 1 [.slice (some ⟨w6.heap.size, 0, none⟩) N N] (by rfl) (by rfl) (one_cellD _ _ _ _ (by simp)) (by simp [Value.oneCell']) (by simp [rowVals_length]; unfold maxLen; omega) (by simp [rowVals_length]; omega) ?_; intro v' w5 ho5 hg5 hb5; have hc5 := (grownBy_cell hg5 (p := ⟨fb, 1, none⟩) (hcA _ (by repeat (first | exact Ext.refl _ | assumption | refine Ext.alloc ?_ _ | refine Ext.drewN ?_ _ | refine Ext.drew ?_))).2.2 (hneA)).trans (hcA _ (by repeat (first | exact Ext.refl _ | assumption | refine Ext.alloc ?_ _ | refine Ext.drewN ?_ _ | refine Ext.drew ?_))).1; have hf5 := (grownBy_frozen hg5 (p := ⟨fb, 1, none⟩) (hcA _ (by repeat (first | exact Ext.refl _ | assumption | refine Ext.alloc ?_ _ | refine Ext.drewN ?_ _ | refine Ext.drew ?_))).2.2 (hneA)).trans (hcA _ (by repeat (first | exact Ext.refl _ | assumption | refine Ext.alloc ?_ _ | refine Ext.drewN ?_ _ | refine Ext.drew ?_))).2.1; obtain ⟨no, nn, nc, rfl, -⟩ := ho5.shapeCap; have HB5 := Lib.hid hb5; clear hb5)
          all_goals
            obtain ⟨hxr, hrow⟩ := rows_twoV w6 N (.int .i64 0) 3 25
            have hsz : ((w6.alloc (Obj.cells (Array.replicate N (Value.int .i64 0)) 3)).alloc (Obj.cells #[Value.slice (some { block := w6.heap.size, off := 0 }) N N] 25)).drew.heap.size = w6.heap.size + 2 := by simp
            have hvl : ∀ q, vb.ownBlock = some q → W ≤ q := fun q h => (hB6.own.lt q h).1
            have hB7 := hB6.step hfW hs6 hxr (by rw [hsz]; omega) hrow hg5 ho5 HB5.out
            have hA7 := hA6.keep (s' := 1) (u := .slice no nn nc) hfW hs6 (by decide) hxr hg5 hvl (fun q h e => HX6.out.swap.tops q h e) (fun j hj e => HX6.out.swap.ba j hj e)
            have HX7 := Lib.hid ((HX6.out.swap.left (S := w6.heap.size) (v' := .slice no nn nc) (fun q h => by rcases HB5.out q h with h | h; exact .inl h; rw [hsz] at h; exact .inr (by omega)) (fun q h => (hA6.own.lt q h).2) (fun j hj => (hA6.grid.low j hj).2)).swap)
            have hx7 : Ext w1 (w5.setCell ⟨fb, 1, none⟩ (.slice no nn nc)) := ((hx6.trans hxr).onto hg5 (fun q hq => by have := hvl q hq; omega)).setOwn _ _ hfb0
            have hs7 : W ≤ (w5.setCell ⟨fb, 1, none⟩ (.slice no nn nc)).heap.size := by have := hg5.size; rw [hsz] at this; simp [World.setCell]; omega
            go_wp2_with fail
            exact ⟨⟨k + 1, _, _, _, _, by omega, rfl, hx7, hs7, hA7, hB7, Lib.hid HX7.out⟩, by simp only [intOf]; omega⟩
        · obtain rfl : N = k := by omega
          have hNp : 0 < N := by omega
          obtain ⟨ga, oa, ca, rfl, hga⟩ : ∃ ga oa ca, va = .slice (some ⟨ga, oa, none⟩) N ca ∧ ga < wr.heap.size := by
            have hshape := hHA.own.shape (by omega)
            rw [rowVals_length, Nat.div_one] at hshape
            rcases hshape with ⟨_, h⟩ | ⟨g, off, gcap, h, hgb, hgl, _, _⟩
            · have := congrArg List.length h
              rw [rowVals_length] at this
              simp at this
              omega
            · exact ⟨g, off, gcap, h, hgl⟩
          obtain ⟨gb, ob, cb, rfl, hgb⟩ : ∃ gb ob cb, vb = .slice (some ⟨gb, ob, none⟩) N cb ∧ gb < wr.heap.size := by
            have hshape := hHB.own.shape (by omega)
            rw [rowVals_length, Nat.div_one] at hshape
            rcases hshape with ⟨_, h⟩ | ⟨g, off, gcap, h, hgb, hgl, _, _⟩
            · have := congrArg List.length h
              rw [rowVals_length] at this
              simp at this
              omega
            · exact ⟨g, off, gcap, h, hgl⟩
          have hW1 : w1.heap.size ≤ W := by omega
          have hNS : NetS wr w1.heap.size ga oa gb ob N ra rb (fun _ _ => false) (fun _ _ => 0) := by
            refine ⟨hga, hgb, ⟨fun i hi => ⟨Nat.le_trans hW1 (hHA.grid.low i hi).1, (hHA.grid.low i hi).2⟩, hHA.grid.apart, hHA.grid.cell⟩, ⟨fun i hi => ⟨Nat.le_trans hW1 (hHB.grid.low i hi).1, (hHB.grid.low i hi).2⟩, hHB.grid.apart, hHB.grid.cell⟩, fun i hi => ?_, fun i hi => ?_, fun i hi => ⟨fun e => HX.out.ba i hi (by rw [e]; rfl), fun e => hHB.away i hi (by rw [e]; rfl), fun j hj e => HX.out.rows j i hj hi e.symm⟩⟩
            · have h1 := (hHA.own.cellAt i (by rw [rowVals_length]; exact hi)).1
              rw [rowVals_at _ _ hi] at h1
              exact h1
            · have h1 := (hHB.own.cellAt i (by rw [rowVals_length]; exact hi)).1
              rw [rowVals_at _ _ hi] at h1
              exact h1
          have hfr : ∀ i, i < N → (ra i ≠ ga ∧ ra i ≠ gb) ∧ ra i ≠ fb ∧ ra i < wr.heap.size := fun i hi => ⟨⟨fun e => hHA.away i hi (by rw [e]; rfl), fun e => HX.out.ab i hi (by rw [e]; rfl)⟩, by have := (hHA.grid.low i hi).1; omega, (hHA.grid.low i hi).2⟩
          have HFR := Lib.hid hfr
          have HRB : Hid (∀ i, i < N → fb < rb i) := Lib.hid (fun i hi => by have := (hHB.grid.low i hi).1; omega)
          have hbc0 := hHA.cell
          have hbc1 := hHB.cell
          have hbl : fb < wr.heap.size := by omega
          clear hHA hHB HX hfr hga hgb hmB hmI
          have hLr := hL.ext (hx1.trans hx)
          go_wp2_with fail
          refine (leaving_calls wr ao cap L src at_ hLr (by omega)).mono ?_
          rintro e w4 ⟨g, off, fcap, F, rfl, hoF, hFl, hF, hx4⟩
          have HF := Lib.hid hF
          clear hF
          have hgS := (hoF.lt g rfl).1
          have hKp : Keeps w4 fb ga oa ca gb ob cb N g off F := ⟨Nat.lt_of_lt_of_le hbl hx4.size, (hx4.cell hbl).trans hbc0, (hx4.cell hbl).trans hbc1, hoF.boolsIn⟩
          have hN4 := hNS.ext hx4
          have hx14 := hx.trans hx4
          have HG : Hid (∀ i, i < N → ra i ≠ g) := Lib.hid (fun i hi => by have := (HFR.out i hi).2.2; omega)
          clear hoF hbc0 hbc1 hbl hNS hLr hx hx4 hgS
          go_wp2_with fail
          go_loopw [21] (fun ii ws => ∃ (i : Nat) (av : Nat → Nat → Bool), i ≤ L.length ∧ ii = .int .i64 i ∧ Ext w1 ws ∧ Keeps ws fb ga oa ca gb ob cb N g off F ∧ NetS ws w1.heap.size ga oa gb ob N ra rb av (fun _ _ => 0) ∧ Hid (BArc (Arcs L.length (fun _ => True) (fun i => begB src at_ (leg L i) = true) (fun i => lastB dst by_ (leg L i) = true) (fun i j => folL c L i j = true) i) av)) (fun ii _ => L.length - (intOf ii).toNat)
          case atStart => exact ⟨0, _, by omega, rfl, hx14, hKp, hN4, Lib.hid (fun u v => ⟨fun h => (by cases h), fun ⟨i, hi, _⟩ => (by omega)⟩)⟩
          case round =>
            rename World => ws
            clear hKp hN4 hx14
            obtain ⟨i, av, hi2, rfl, hx, hKp, hNr, HC⟩ := hrel
            by_cases hlt2 : i < L.length
            · have hfl := hKp.lt
              have hc0 := hKp.c0
              obtain ⟨g', off', e, hgl, hFc⟩ := hKp.first i (by omega)
              simp only [Option.some.injEq, Addr.mk.injEq, and_true] at e
              obtain ⟨rfl, rfl⟩ := e
              have htA := hNr.topA
              have hcA := hNr.cellA 0 (by omega)
              rw [Nat.add_zero] at hcA
              obtain ⟨hg1, hg2⟩ := hNr.gridA.cell 0 (2 * i + 2) (by omega) (by omega)
              have hlA := hNr.gridA.low 0 (by omega)
              have hq1 : IntKind.i64.wrap (2 * (i : Int)) = 2 * (i : Int) := by rw [IntKind.wrap_i64]; omega
              have hq2 : IntKind.i64.wrap (2 * (i : Int) + 2) = 2 * (i : Int) + 2 := by rw [IntKind.wrap_i64]; omega
              have hq3 : (2 * (i : Int) + 2).toNat = 2 * i + 2 := by omega
              have hq4 : 2 * (i : Int) + 2 < (N : Int) := by omega
              have hq5 : (0 : Int) ≤ 2 * (i : Int) + 2 := by omega
              have hq6 : (0 : Int) < (N : Int) := by omega
              have hq7 : (i : Int) < (L.length : Int) := by omega
              go_wp2_with fail
              go_region
              all_goals
                have hNa := (hNr.setA (i := 0) (j := 2 * i + 2) (by omega) (by omega) (HFR.out 0 (by omega)).1 (bth F i)).ext ((Ext.refl _).drew)
                have hKa := (hKp.set (b := ra 0) (j := 2 * i + 2) (u := .bool (bth F i)) (HFR.out 0 (by omega)).2.1 (HG.out 0 (by omega))).ext ((Ext.refl _).drew)
                have hxa := (hx.setOwn ⟨ra 0, 2 * i + 2, none⟩ (.bool (bth F i)) hlA.1).drew
                have HCa := Lib.hid ((HC.out.put (i := 0) (j := 2 * i + 2) (b := bth F i) (by
                  rintro ⟨i', hi', _, h | ⟨_, h⟩ | ⟨_, h⟩ | ⟨l, _, _, _, h⟩⟩ <;> omega)).congr (S' := fun u v => (u = 0 ∧ v = 2 * i + 2 ∧ begB src at_ (leg L i) = true) ∨ Arcs L.length (fun _ => True) (fun i => begB src at_ (leg L i) = true) (fun i => lastB dst by_ (leg L i) = true) (fun i j => folL c L i j = true) i u v) (fun u v => by rw [HF.out i hlt2]))
                generalize (ws.setCell ⟨ra 0, 2 * i + 2, none⟩ (.bool (bth F i))).drew = wa at *
                clear hfl hc0 hgl hFc htA hcA hg1 hg2 hlA hKp hNr HC hx
                have hfl := hKa.lt
                have hc0 := hKa.c0
                have htA := hNa.topA
                have hcA := hNa.cellA (2 * i + 2) (by omega)
                obtain ⟨hg1, hg2⟩ := hNa.gridA.cell (2 * i + 2) (2 * i + 3) (by omega) (by omega)
                have hlA := hNa.gridA.low (2 * i + 2) (by omega)
                go_wp2_with fail
                have hNb := hNa.setA (i := 2 * i + 2) (j := 2 * i + 3) (by omega) (by omega) (HFR.out _ (by omega)).1 true
                have hKb := hKa.set (b := ra (2 * i + 2)) (j := 2 * i + 3) (u := .bool true) (HFR.out _ (by omega)).2.1 (HG.out _ (by omega))
                have hxb := hxa.setOwn ⟨ra (2 * i + 2), 2 * i + 3, none⟩ (.bool true) hlA.1
                have HCb := Lib.hid (HCa.out.on (2 * i + 2) (2 * i + 3))
                generalize wa.setCell ⟨ra (2 * i + 2), 2 * i + 3, none⟩ (.bool true) = wb at *
                clear hfl hc0 htA hcA hg1 hg2 hlA hKa hNa HCa hxa
                have hfl := hKb.lt
                have hc0 := hKb.c0
                have htA := hNb.topA
                have hcA := hNb.cellA (2 * i + 3) (by omega)
                obtain ⟨hg1, hg2⟩ := hNb.gridA.cell (2 * i + 3) 1 (by omega) (by omega)
                have hlA := hNb.gridA.low (2 * i + 3) (by omega)
                obtain ⟨lb, lf, hao, hlb, h0, h1, h2, h3, h4⟩ := (hL.ext (hx1.trans hxb)) i hlt2
                have hr1 : IntKind.i64.wrap (2 * (i : Int) + 3) = 2 * (i : Int) + 3 := by rw [IntKind.wrap_i64]; omega
                have hr2 : (2 * (i : Int) + 3).toNat = 2 * i + 3 := by omega
                have hr3 : 2 * (i : Int) + 3 < (N : Int) := by omega
                have hr4 : (0 : Int) ≤ 2 * (i : Int) + 3 := by omega
                have hr5 : (1 : Int) < (N : Int) := by omega
                have hfresh : ¬ ((2 * i + 3 = 2 * i + 2 ∧ 1 = 2 * i + 3) ∨ (2 * i + 3 = 0 ∧ 1 = 2 * i + 2 ∧ begB src at_ (leg L i) = true) ∨ Arcs L.length (fun _ => True) (fun i => begB src at_ (leg L i) = true) (fun i => lastB dst by_ (leg L i) = true) (fun i j => folL c L i j = true) i (2 * i + 3) 1) := by
                  rintro (h | h | ⟨i', hi', _, h | ⟨_, h⟩ | ⟨_, h⟩ | ⟨l, _, _, _, h⟩⟩) <;> omega
                have HFS := Lib.hid hfresh
                clear hfresh
                subst hao
                cases hto : ((leg L i).To == dst) with
                | false =>
                  have hla : lastB dst by_ (leg L i) = false := by
                    have : (leg L i).To ≠ dst := by simpa using hto
                    simp [lastB, this]
                  have HLA := Lib.hid hla
                  clear hla
                  go_wp2_with fail
                  go_region
                  all_goals
                    have hNc := (hNb.setA (i := 2 * i + 3) (j := 1) (by omega) (by omega) (HFR.out _ (by omega)).1 false).ext ((Ext.refl _).drew)
                    have hKc := (hKb.set (b := ra (2 * i + 3)) (j := 1) (u := .bool false) (HFR.out _ (by omega)).2.1 (HG.out _ (by omega))).ext ((Ext.refl _).drew)
                    have hxc := (hxb.setOwn ⟨ra (2 * i + 3), 1, none⟩ (.bool false) hlA.1).drew
                    have HCc := Lib.hid ((HCb.out.put (i := 2 * i + 3) (j := 1) (b := false) HFS.out).congr (S' := fun u v => Arcs L.length (fun _ => True) (fun i => begB src at_ (leg L i) = true) (fun i => lastB dst by_ (leg L i) = true) (fun i j => folL c L i j = true) i u v ∨ ArcTo (fun _ => True) (fun i => begB src at_ (leg L i) = true) (fun i => lastB dst by_ (leg L i) = true) (fun i j => folL c L i j = true) i 0 u v) (fun u v => by
                      constructor
                      · rintro (h | ⟨h1, h2⟩ | ⟨h1, h2, h3⟩ | ⟨h1, h2, h3⟩ | ⟨l, hl, _⟩)
                        · exact .inr (.inr (.inr h))
                        · exact .inr (.inl ⟨by omega, by omega⟩)
                        · exact .inr (.inr (.inl ⟨by omega, by omega, h1⟩))
                        · exact .inl ⟨by omega, by omega, HLA.out.symm.trans h1⟩
                        · omega
                      · rintro (⟨h1, h2, h3⟩ | ⟨h1, h2⟩ | ⟨h1, h2, h3⟩ | h)
                        · exact .inr (.inr (.inr (.inl ⟨HLA.out.trans h3, by omega, by omega⟩)))
                        · exact .inr (.inl ⟨by omega, by omega⟩)
                        · exact .inr (.inr (.inl ⟨h3, by omega, by omega⟩))
                        · exact .inl h))
                    generalize (wb.setCell ⟨ra (2 * i + 3), 1, none⟩ (.bool false)).drew = wc at *
                    clear hfl hc0 htA hcA hg1 hg2 hlA hKb hNb HCb hxb hlb h0 h1 h2 h3 h4
                    go_wp2_with fail
                    go_loopw [22] (fun jj ws => ∃ (j : Nat) (av : Nat → Nat → Bool), j ≤ L.length ∧ jj = .int .i64 j ∧ Ext w1 ws ∧ Keeps ws fb ga oa ca gb ob cb N g off F ∧ NetS ws w1.heap.size ga oa gb ob N ra rb av (fun _ _ => 0) ∧ Hid (BArc (fun u v => Arcs L.length (fun _ => True) (fun i => begB src at_ (leg L i) = true) (fun i => lastB dst by_ (leg L i) = true) (fun i j => folL c L i j = true) i u v ∨ ArcTo (fun _ => True) (fun i => begB src at_ (leg L i) = true) (fun i => lastB dst by_ (leg L i) = true) (fun i j => folL c L i j = true) i j u v) av)) (fun jj _ => L.length - (intOf jj).toNat)
                    case atStart => exact ⟨0, _, by omega, rfl, hxc, hKc, hNc, HCc⟩
                    case round =>
                      rename World => wj
                      clear hxc hKc hNc HCc
                      obtain ⟨j, av, hj2, rfl, hx, hKp, hNr, HC⟩ := hrel
                      by_cases hlt3 : j < L.length
                      · have hLs := hL.ext (hx1.trans hx)
                        have hLi := hLs.after hlt2
                        have hLj := hLs.after hlt3
                        have hfi := HGD.out.fine i hlt2
                        unfold Fine at hfi
                        have harr : 0 ≤ (leg L i).Arr ∧ (leg L i).Arr ≤ 10000 := by omega
                        have hch : 0 ≤ c ∧ c ≤ 101 := by have := HGD.out.change; omega
                        clear hfi
                        have hji : (j : Int) < (L.length : Int) := by omega
                        cases hfo : folB c (leg L i) (leg L j) with
                        | false =>
                          go_wp2_with fail
                          refine wp_region_after (by kernel_rfl) (by kernel_rfl) ?_
                          intro hne
                          repeat (go_big_quiet_step ((go_at_call 56; exact Calls.after_eq (congrArg Value.bool hfo) (joins_calls _ (leg L i) (leg L j) c harr hch))))
                          refine wpQuiet_nil ?_
                          intro w3 hx3
                          have HK := Lib.hid (HC.out.congr (S' := fun u v => Arcs L.length (fun _ => True) (fun i => begB src at_ (leg L i) = true) (fun i => lastB dst by_ (leg L i) = true) (fun i j => folL c L i j = true) i u v ∨ ArcTo (fun _ => True) (fun i => begB src at_ (leg L i) = true) (fun i => lastB dst by_ (leg L i) = true) (fun i j => folL c L i j = true) i (j + 1) u v) (fun u v => or_congr Iff.rfl (arcTo_no (fun h => by have := h.2; unfold folL at this; rw [hfo] at this; cases this))))
                          clear hfo hLi hLj
                          go_wp2_with fail
                          exact ⟨⟨j + 1, av, by omega, rfl, hx.trans hx3, hKp.ext hx3, hNr.ext hx3, Lib.hid HK.out⟩, by simp only [intOf]; omega⟩
                        | true =>
                          go_wp2_with fail
                          refine wp_region_after (by kernel_rfl) (by kernel_rfl) ?_
                          intro hne
                          repeat (go_big_quiet_step ((go_at_call 56; exact Calls.after_eq (congrArg Value.bool hfo) (joins_calls _ (leg L i) (leg L j) c harr hch))))
                          refine wpQuiet_nil ?_
                          intro w3 hx3
                          have HK := Lib.hid ((HC.out.on (2 * i + 3) (2 * j + 2)).congr (S' := fun u v => Arcs L.length (fun _ => True) (fun i => begB src at_ (leg L i) = true) (fun i => lastB dst by_ (leg L i) = true) (fun i j => folL c L i j = true) i u v ∨ ArcTo (fun _ => True) (fun i => begB src at_ (leg L i) = true) (fun i => lastB dst by_ (leg L i) = true) (fun i j => folL c L i j = true) i (j + 1) u v) (fun u v => by
                            rw [arcTo_yes ⟨trivial, hfo⟩]
                            constructor
                            · rintro (h | ⟨h1, h2⟩ | h)
                              · exact .inr (.inl h)
                              · exact .inl ⟨by omega, by omega⟩
                              · exact .inr (.inr h)
                            · rintro (⟨h1, h2⟩ | h | h)
                              · exact .inr (.inl ⟨by omega, by omega⟩)
                              · exact .inl h
                              · exact .inr (.inr h)))
                          have hN3 := hNr.ext hx3
                          have hK3 := hKp.ext hx3
                          have hx13 := hx.trans hx3
                          clear hfo hLi hLj hNr hKp hx
                          have hfl := hK3.lt
                          have hc0 := hK3.c0
                          have htA := hN3.topA
                          have hcA := hN3.cellA (2 * i + 3) (by omega)
                          obtain ⟨hg1, hg2⟩ := hN3.gridA.cell (2 * i + 3) (2 * j + 2) (by omega) (by omega)
                          have hlA := hN3.gridA.low (2 * i + 3) (by omega)
                          go_wp2_with fail
                          exact ⟨⟨j + 1, _, by omega, rfl, hx13.setOwn _ _ hlA.1, hK3.set (HFR.out _ (by omega)).2.1 (HG.out _ (by omega)), hN3.setA (by omega) (by omega) (HFR.out _ (by omega)).1 true, Lib.hid HK.out⟩, by simp only [intOf]; omega⟩
                      · obtain rfl : j = L.length := by omega
                        have HK := Lib.hid (HC.out.congr (S' := Arcs L.length (fun _ => True) (fun i => begB src at_ (leg L i) = true) (fun i => lastB dst by_ (leg L i) = true) (fun i j => folL c L i j = true) (i + 1)) (fun u v => arcs_yes trivial))
                        go_wp2_with fail
                        exact ⟨⟨i + 1, av, by omega, rfl, hx, hKp, hNr, Lib.hid HK.out⟩, by simp only [intOf]; omega⟩
                | true =>
                  cases hat : decide ((leg L i).Arr ≤ by_) with
                  | false =>
                    have hla : lastB dst by_ (leg L i) = false := by
                      have : ¬ (leg L i).Arr ≤ by_ := of_decide_eq_false hat
                      simp [lastB]
                      intro _
                      omega
                    have HLA := Lib.hid hla
                    clear hla
                    go_wp2_with fail
                    go_region
                    all_goals
                      have hNc := (hNb.setA (i := 2 * i + 3) (j := 1) (by omega) (by omega) (HFR.out _ (by omega)).1 false).ext ((Ext.refl _).drew)
                      have hKc := (hKb.set (b := ra (2 * i + 3)) (j := 1) (u := .bool false) (HFR.out _ (by omega)).2.1 (HG.out _ (by omega))).ext ((Ext.refl _).drew)
                      have hxc := (hxb.setOwn ⟨ra (2 * i + 3), 1, none⟩ (.bool false) hlA.1).drew
                      have HCc := Lib.hid ((HCb.out.put (i := 2 * i + 3) (j := 1) (b := false) HFS.out).congr (S' := fun u v => Arcs L.length (fun _ => True) (fun i => begB src at_ (leg L i) = true) (fun i => lastB dst by_ (leg L i) = true) (fun i j => folL c L i j = true) i u v ∨ ArcTo (fun _ => True) (fun i => begB src at_ (leg L i) = true) (fun i => lastB dst by_ (leg L i) = true) (fun i j => folL c L i j = true) i 0 u v) (fun u v => by
                        constructor
                        · rintro (h | ⟨h1, h2⟩ | ⟨h1, h2, h3⟩ | ⟨h1, h2, h3⟩ | ⟨l, hl, _⟩)
                          · exact .inr (.inr (.inr h))
                          · exact .inr (.inl ⟨by omega, by omega⟩)
                          · exact .inr (.inr (.inl ⟨by omega, by omega, h1⟩))
                          · exact .inl ⟨by omega, by omega, HLA.out.symm.trans h1⟩
                          · omega
                        · rintro (⟨h1, h2, h3⟩ | ⟨h1, h2⟩ | ⟨h1, h2, h3⟩ | h)
                          · exact .inr (.inr (.inr (.inl ⟨HLA.out.trans h3, by omega, by omega⟩)))
                          · exact .inr (.inl ⟨by omega, by omega⟩)
                          · exact .inr (.inr (.inl ⟨h3, by omega, by omega⟩))
                          · exact .inl h))
                      generalize (wb.setCell ⟨ra (2 * i + 3), 1, none⟩ (.bool false)).drew = wc at *
                      clear hfl hc0 htA hcA hg1 hg2 hlA hKb hNb HCb hxb hlb h0 h1 h2 h3 h4
                      go_wp2_with fail
                      go_loopw [22] (fun jj ws => ∃ (j : Nat) (av : Nat → Nat → Bool), j ≤ L.length ∧ jj = .int .i64 j ∧ Ext w1 ws ∧ Keeps ws fb ga oa ca gb ob cb N g off F ∧ NetS ws w1.heap.size ga oa gb ob N ra rb av (fun _ _ => 0) ∧ Hid (BArc (fun u v => Arcs L.length (fun _ => True) (fun i => begB src at_ (leg L i) = true) (fun i => lastB dst by_ (leg L i) = true) (fun i j => folL c L i j = true) i u v ∨ ArcTo (fun _ => True) (fun i => begB src at_ (leg L i) = true) (fun i => lastB dst by_ (leg L i) = true) (fun i j => folL c L i j = true) i j u v) av)) (fun jj _ => L.length - (intOf jj).toNat)
                      case atStart => exact ⟨0, _, by omega, rfl, hxc, hKc, hNc, HCc⟩
                      case round =>
                        rename World => wj
                        clear hxc hKc hNc HCc
                        obtain ⟨j, av, hj2, rfl, hx, hKp, hNr, HC⟩ := hrel
                        by_cases hlt3 : j < L.length
                        · have hLs := hL.ext (hx1.trans hx)
                          have hLi := hLs.after hlt2
                          have hLj := hLs.after hlt3
                          have hfi := HGD.out.fine i hlt2
                          unfold Fine at hfi
                          have harr : 0 ≤ (leg L i).Arr ∧ (leg L i).Arr ≤ 10000 := by omega
                          have hch : 0 ≤ c ∧ c ≤ 101 := by have := HGD.out.change; omega
                          clear hfi
                          have hji : (j : Int) < (L.length : Int) := by omega
                          cases hfo : folB c (leg L i) (leg L j) with
                          | false =>
                            go_wp2_with fail
                            refine wp_region_after (by kernel_rfl) (by kernel_rfl) ?_
                            intro hne
                            repeat (go_big_quiet_step ((go_at_call 56; exact Calls.after_eq (congrArg Value.bool hfo) (joins_calls _ (leg L i) (leg L j) c harr hch))))
                            refine wpQuiet_nil ?_
                            intro w3 hx3
                            have HK := Lib.hid (HC.out.congr (S' := fun u v => Arcs L.length (fun _ => True) (fun i => begB src at_ (leg L i) = true) (fun i => lastB dst by_ (leg L i) = true) (fun i j => folL c L i j = true) i u v ∨ ArcTo (fun _ => True) (fun i => begB src at_ (leg L i) = true) (fun i => lastB dst by_ (leg L i) = true) (fun i j => folL c L i j = true) i (j + 1) u v) (fun u v => or_congr Iff.rfl (arcTo_no (fun h => by have := h.2; unfold folL at this; rw [hfo] at this; cases this))))
                            clear hfo hLi hLj
                            go_wp2_with fail
                            exact ⟨⟨j + 1, av, by omega, rfl, hx.trans hx3, hKp.ext hx3, hNr.ext hx3, Lib.hid HK.out⟩, by simp only [intOf]; omega⟩
                          | true =>
                            go_wp2_with fail
                            refine wp_region_after (by kernel_rfl) (by kernel_rfl) ?_
                            intro hne
                            repeat (go_big_quiet_step ((go_at_call 56; exact Calls.after_eq (congrArg Value.bool hfo) (joins_calls _ (leg L i) (leg L j) c harr hch))))
                            refine wpQuiet_nil ?_
                            intro w3 hx3
                            have HK := Lib.hid ((HC.out.on (2 * i + 3) (2 * j + 2)).congr (S' := fun u v => Arcs L.length (fun _ => True) (fun i => begB src at_ (leg L i) = true) (fun i => lastB dst by_ (leg L i) = true) (fun i j => folL c L i j = true) i u v ∨ ArcTo (fun _ => True) (fun i => begB src at_ (leg L i) = true) (fun i => lastB dst by_ (leg L i) = true) (fun i j => folL c L i j = true) i (j + 1) u v) (fun u v => by
                              rw [arcTo_yes ⟨trivial, hfo⟩]
                              constructor
                              · rintro (h | ⟨h1, h2⟩ | h)
                                · exact .inr (.inl h)
                                · exact .inl ⟨by omega, by omega⟩
                                · exact .inr (.inr h)
                              · rintro (⟨h1, h2⟩ | h | h)
                                · exact .inr (.inl ⟨by omega, by omega⟩)
                                · exact .inl h
                                · exact .inr (.inr h)))
                            have hN3 := hNr.ext hx3
                            have hK3 := hKp.ext hx3
                            have hx13 := hx.trans hx3
                            clear hfo hLi hLj hNr hKp hx
                            have hfl := hK3.lt
                            have hc0 := hK3.c0
                            have htA := hN3.topA
                            have hcA := hN3.cellA (2 * i + 3) (by omega)
                            obtain ⟨hg1, hg2⟩ := hN3.gridA.cell (2 * i + 3) (2 * j + 2) (by omega) (by omega)
                            have hlA := hN3.gridA.low (2 * i + 3) (by omega)
                            go_wp2_with fail
                            exact ⟨⟨j + 1, _, by omega, rfl, hx13.setOwn _ _ hlA.1, hK3.set (HFR.out _ (by omega)).2.1 (HG.out _ (by omega)), hN3.setA (by omega) (by omega) (HFR.out _ (by omega)).1 true, Lib.hid HK.out⟩, by simp only [intOf]; omega⟩
                        · obtain rfl : j = L.length := by omega
                          have HK := Lib.hid (HC.out.congr (S' := Arcs L.length (fun _ => True) (fun i => begB src at_ (leg L i) = true) (fun i => lastB dst by_ (leg L i) = true) (fun i j => folL c L i j = true) (i + 1)) (fun u v => arcs_yes trivial))
                          go_wp2_with fail
                          exact ⟨⟨i + 1, av, by omega, rfl, hx, hKp, hNr, Lib.hid HK.out⟩, by simp only [intOf]; omega⟩
                  | true =>
                    have hla : lastB dst by_ (leg L i) = true := by
                      have h5 : (leg L i).To = dst := by simpa using hto
                      have h6 : (leg L i).Arr ≤ by_ := of_decide_eq_true hat
                      simp [lastB, h5, h6]
                    have HLA := Lib.hid hla
                    clear hla
                    go_wp2_with fail
                    go_region
                    all_goals
                      have hNc := (hNb.setA (i := 2 * i + 3) (j := 1) (by omega) (by omega) (HFR.out _ (by omega)).1 true).ext ((Ext.refl _).drew)
                      have hKc := (hKb.set (b := ra (2 * i + 3)) (j := 1) (u := .bool true) (HFR.out _ (by omega)).2.1 (HG.out _ (by omega))).ext ((Ext.refl _).drew)
                      have hxc := (hxb.setOwn ⟨ra (2 * i + 3), 1, none⟩ (.bool true) hlA.1).drew
                      have HCc := Lib.hid ((HCb.out.put (i := 2 * i + 3) (j := 1) (b := true) HFS.out).congr (S' := fun u v => Arcs L.length (fun _ => True) (fun i => begB src at_ (leg L i) = true) (fun i => lastB dst by_ (leg L i) = true) (fun i j => folL c L i j = true) i u v ∨ ArcTo (fun _ => True) (fun i => begB src at_ (leg L i) = true) (fun i => lastB dst by_ (leg L i) = true) (fun i j => folL c L i j = true) i 0 u v) (fun u v => by
                        constructor
                        · rintro (h | ⟨h1, h2⟩ | ⟨h1, h2, h3⟩ | ⟨h1, h2, h3⟩ | ⟨l, hl, _⟩)
                          · exact .inr (.inr (.inr h))
                          · exact .inr (.inl ⟨by omega, by omega⟩)
                          · exact .inr (.inr (.inl ⟨by omega, by omega, h1⟩))
                          · exact .inl ⟨by omega, by omega, HLA.out.symm.trans h1⟩
                          · omega
                        · rintro (⟨h1, h2, h3⟩ | ⟨h1, h2⟩ | ⟨h1, h2, h3⟩ | h)
                          · exact .inr (.inr (.inr (.inl ⟨HLA.out.trans h3, by omega, by omega⟩)))
                          · exact .inr (.inl ⟨by omega, by omega⟩)
                          · exact .inr (.inr (.inl ⟨h3, by omega, by omega⟩))
                          · exact .inl h))
                      generalize (wb.setCell ⟨ra (2 * i + 3), 1, none⟩ (.bool true)).drew = wc at *
                      clear hfl hc0 htA hcA hg1 hg2 hlA hKb hNb HCb hxb hlb h0 h1 h2 h3 h4
                      go_wp2_with fail
                      go_loopw [22] (fun jj ws => ∃ (j : Nat) (av : Nat → Nat → Bool), j ≤ L.length ∧ jj = .int .i64 j ∧ Ext w1 ws ∧ Keeps ws fb ga oa ca gb ob cb N g off F ∧ NetS ws w1.heap.size ga oa gb ob N ra rb av (fun _ _ => 0) ∧ Hid (BArc (fun u v => Arcs L.length (fun _ => True) (fun i => begB src at_ (leg L i) = true) (fun i => lastB dst by_ (leg L i) = true) (fun i j => folL c L i j = true) i u v ∨ ArcTo (fun _ => True) (fun i => begB src at_ (leg L i) = true) (fun i => lastB dst by_ (leg L i) = true) (fun i j => folL c L i j = true) i j u v) av)) (fun jj _ => L.length - (intOf jj).toNat)
                      case atStart => exact ⟨0, _, by omega, rfl, hxc, hKc, hNc, HCc⟩
                      case round =>
                        rename World => wj
                        clear hxc hKc hNc HCc
                        obtain ⟨j, av, hj2, rfl, hx, hKp, hNr, HC⟩ := hrel
                        by_cases hlt3 : j < L.length
                        · have hLs := hL.ext (hx1.trans hx)
                          have hLi := hLs.after hlt2
                          have hLj := hLs.after hlt3
                          have hfi := HGD.out.fine i hlt2
                          unfold Fine at hfi
                          have harr : 0 ≤ (leg L i).Arr ∧ (leg L i).Arr ≤ 10000 := by omega
                          have hch : 0 ≤ c ∧ c ≤ 101 := by have := HGD.out.change; omega
                          clear hfi
                          have hji : (j : Int) < (L.length : Int) := by omega
                          cases hfo : folB c (leg L i) (leg L j) with
                          | false =>
                            go_wp2_with fail
                            refine wp_region_after (by kernel_rfl) (by kernel_rfl) ?_
                            intro hne
                            repeat (go_big_quiet_step ((go_at_call 56; exact Calls.after_eq (congrArg Value.bool hfo) (joins_calls _ (leg L i) (leg L j) c harr hch))))
                            refine wpQuiet_nil ?_
                            intro w3 hx3
                            have HK := Lib.hid (HC.out.congr (S' := fun u v => Arcs L.length (fun _ => True) (fun i => begB src at_ (leg L i) = true) (fun i => lastB dst by_ (leg L i) = true) (fun i j => folL c L i j = true) i u v ∨ ArcTo (fun _ => True) (fun i => begB src at_ (leg L i) = true) (fun i => lastB dst by_ (leg L i) = true) (fun i j => folL c L i j = true) i (j + 1) u v) (fun u v => or_congr Iff.rfl (arcTo_no (fun h => by have := h.2; unfold folL at this; rw [hfo] at this; cases this))))
                            clear hfo hLi hLj
                            go_wp2_with fail
                            exact ⟨⟨j + 1, av, by omega, rfl, hx.trans hx3, hKp.ext hx3, hNr.ext hx3, Lib.hid HK.out⟩, by simp only [intOf]; omega⟩
                          | true =>
                            go_wp2_with fail
                            refine wp_region_after (by kernel_rfl) (by kernel_rfl) ?_
                            intro hne
                            repeat (go_big_quiet_step ((go_at_call 56; exact Calls.after_eq (congrArg Value.bool hfo) (joins_calls _ (leg L i) (leg L j) c harr hch))))
                            refine wpQuiet_nil ?_
                            intro w3 hx3
                            have HK := Lib.hid ((HC.out.on (2 * i + 3) (2 * j + 2)).congr (S' := fun u v => Arcs L.length (fun _ => True) (fun i => begB src at_ (leg L i) = true) (fun i => lastB dst by_ (leg L i) = true) (fun i j => folL c L i j = true) i u v ∨ ArcTo (fun _ => True) (fun i => begB src at_ (leg L i) = true) (fun i => lastB dst by_ (leg L i) = true) (fun i j => folL c L i j = true) i (j + 1) u v) (fun u v => by
                              rw [arcTo_yes ⟨trivial, hfo⟩]
                              constructor
                              · rintro (h | ⟨h1, h2⟩ | h)
                                · exact .inr (.inl h)
                                · exact .inl ⟨by omega, by omega⟩
                                · exact .inr (.inr h)
                              · rintro (⟨h1, h2⟩ | h | h)
                                · exact .inr (.inl ⟨by omega, by omega⟩)
                                · exact .inl h
                                · exact .inr (.inr h)))
                            have hN3 := hNr.ext hx3
                            have hK3 := hKp.ext hx3
                            have hx13 := hx.trans hx3
                            clear hfo hLi hLj hNr hKp hx
                            have hfl := hK3.lt
                            have hc0 := hK3.c0
                            have htA := hN3.topA
                            have hcA := hN3.cellA (2 * i + 3) (by omega)
                            obtain ⟨hg1, hg2⟩ := hN3.gridA.cell (2 * i + 3) (2 * j + 2) (by omega) (by omega)
                            have hlA := hN3.gridA.low (2 * i + 3) (by omega)
                            go_wp2_with fail
                            exact ⟨⟨j + 1, _, by omega, rfl, hx13.setOwn _ _ hlA.1, hK3.set (HFR.out _ (by omega)).2.1 (HG.out _ (by omega)), hN3.setA (by omega) (by omega) (HFR.out _ (by omega)).1 true, Lib.hid HK.out⟩, by simp only [intOf]; omega⟩
                        · obtain rfl : j = L.length := by omega
                          have HK := Lib.hid (HC.out.congr (S' := Arcs L.length (fun _ => True) (fun i => begB src at_ (leg L i) = true) (fun i => lastB dst by_ (leg L i) = true) (fun i j => folL c L i j = true) (i + 1)) (fun u v => arcs_yes trivial))
                          go_wp2_with fail
                          exact ⟨⟨i + 1, av, by omega, rfl, hx, hKp, hNr, Lib.hid HK.out⟩, by simp only [intOf]; omega⟩
            · obtain rfl : i = L.length := by omega
              have hbl := hKp.lt
              have hbc0 := hKp.c0
              have hbc1 := hKp.c1
              have hrb : ∀ i, i < N → fb ≠ rb i := fun i hi => by have := HRB.out i hi; omega
              have HRB2 := Lib.hid hrb
              clear hrb hKp
              go_wp2_with fail
              go_loopg [23] (N + 1) (fun q cnt ws => ∃ (kn : Nat) (B : Nat → Nat → Int), cnt = .int .i64 kn ∧ Ext w1 ws ∧ (fb < ws.heap.size ∧ ws.cell? ⟨fb, 0, none⟩ = some (.slice (some ⟨ga, oa, none⟩) N ca) ∧ ws.cell? ⟨fb, 1, none⟩ = some (.slice (some ⟨gb, ob, none⟩) N cb)) ∧ NetS ws w1.heap.size ga oa gb ob N ra rb av B ∧ kn + q = N + 1 ∧ Hid (FlowedS N (ArcsAll c L src dst at_ by_) B kn))
              case atStart => exact ⟨0, _, rfl, hx, ⟨hbl, hbc0, hbc1⟩, hNr, by omega, Lib.hid (FlowedS.start _ _)⟩
              case round =>
                clear hx hbl hbc0 hbc1 hNr
                obtain ⟨kn, B, rfl, hx, ⟨hbl, hbc0, hbc1⟩, hNr, hkq, HFl⟩ := hrel
                have hcnt : (kn : Int) ≤ 2 * (L.length : Int) + 2 := by
                  have := HFl.out
                  rw [HNE.out] at this
                  exact flow_count this
                go_wp2_with fail
                refine (moreS_calls w1 _ ga oa ca gb ob cb N ra rb av (ArcsAll c L src dst at_ by_) B kn hx hNr HC.out (by omega) (by omega) HFl.out (by omega)).mono ?_
                rintro e w9 (⟨rfl, hN9, hS, hx9⟩ | ⟨B', rk, rfl, hN9, hA9, hSB, hx9⟩)
                · have HS := Lib.hid hS
                  clear hS
                  go_wp2_with fail
                  go_ret2
                  exact ⟨kn, 0, rfl, .inr (.inr (.inr ⟨good_iff.2 HGD.out, HND.out, HGO.out, rfl, by rw [← HNE.out]; exact ⟨B, HFl.out, HS.out⟩⟩)), hx1.trans hx9⟩
                · have HA9 := Lib.hid hA9
                  clear hA9
                  have hb0 := (hSB.cell fb 0 hbl HRB2.out).trans hbc0
                  have hb1 := (hSB.cell fb 1 hbl HRB2.out).trans hbc1
                  have hbl9 := Nat.lt_of_lt_of_le hbl hSB.size
                  clear hSB
                  go_wp2_with fail
                  go_roundg (gk - 1)
                  case measure => omega
                  case rel => exact ⟨kn + 1, B', rfl, hx9, ⟨hbl9, hb0, hb1⟩, hN9, by omega, Lib.hid (HFl.out.push HA9.out)⟩
  · have he' : (er != 0) = true := by simpa using he
    have HA := Lib.hid (needS_err HN.out he)
    clear he
    go_wp2_with fail
    go_ret2
    exact ⟨0, er, rfl, HA.out, hx1⟩
end Go.Proofs.Ytmmjjfjbhogfgaa
