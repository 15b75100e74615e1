/- Words that all texts of this seat share: how the world may grow; lists that lie in memory; slices that a call itself has made, and what a store, an append and a make do to them. -/
import Derived.Test.YtefmioppamdceaaDoorProg
import Derived.WalkKit
import Derived.WalkSpells
import Derived.WalkLawsBesides
import Derived.BigQuiet
import Derived.OwnWalk
import Derived.Laws.OwnMore
import Derived.Deep.RegionHeld3
import Derived.Deep.RegionLaw
import Derived.Deep.LoopGhost
import Derived.Lib.Hide
import Derived.KernelRfl
namespace Go.Proofs.YtefmioppamdceaaDoor
open Go.RowKit

/-- Of the world W nothing has changed. -/
def Ext (w w' : World) : Prop := Below w.heap.size w w'
theorem Ext.refl (w : World) : Ext w w := Below.refl _ _
theorem Ext.trans {a b c : World} (h : Ext a b) (k : Ext b c) : Ext a c := Below.trans h (Below.mono k h.size)
theorem Ext.size {a b : World} (h : Ext a b) : a.heap.size ≤ b.heap.size := Below.size h
theorem Ext.cell {a b : World} (h : Ext a b) {p : Addr} (hp : p.block < a.heap.size) : b.cell? p = a.cell? p := Below.cell h hp
theorem Ext.frozen {a b : World} (h : Ext a b) {p : Addr} (hp : p.block < a.heap.size) : b.frozen? p = a.frozen? p := Below.frozen h hp
theorem Ext.alloc {a b : World} (h : Ext a b) (o : Obj) : Ext a (b.alloc o) := Below.alloc h h.size _
theorem Ext.drew {a b : World} (h : Ext a b) : Ext a b.drew := Below.drew h
theorem Ext.drewN {a b : World} (h : Ext a b) (n : Nat) : Ext a (b.drewN n) := ⟨h.os, h.tape, h.output, h.size, h.block⟩
theorem ret_bool {a b : Bool} (h : a = b) : Ending.returned (.bool a) = .returned (.bool b) := by rw [h]
theorem ret_int {a b : Int} (h : a = b) : Ending.returned (.int .i64 a) = .returned (.int .i64 b) := by rw [h]
/-- A world that goes on from w. -/
structure After (w : World) where
  at_ : World
  ext : Ext w at_
theorem After.cell {w : World} {p : Addr} {v : Option Value} (h : w.cell? p = v) (hb : p.block < w.heap.size) : ∀ s : After w, s.at_.cell? p = v := fun s => (s.ext.cell hb).trans h
/-- A region that draws its order, whose operations only read and whose calls leave the world as it was, but grown: one walk. -/
theorem wp_region_after {P : Program} {id : Nat} {Q : Exit → Act → World → Prop} {a : Act} {w : World} {l : List Oper} (hm : P.follows .mixedOrders = true) (hB : Region.lexB .any l.toArray = true)
    (h : Nonempty (After w) → wpQuiet P l.toArray (fun w' => ∃ s : After w, w' = s.at_) (fun a' => ∀ w', Ext w w' → Q .normal a' w') l a) : (Code.region id l.toArray true).wp P Q a w := by
  refine wp_region_quiet (C := fun w' => ∃ s : After w, w' = s.at_) hm hB ⟨⟨w.drew, (Ext.refl w).drew⟩, rfl⟩ ?_
  have e : (fun a' => ∀ w', (∃ s : After w, w' = s.at_) → Q .normal a' w') = (fun a' => ∀ w', Ext w w' → Q .normal a' w') := by
    funext a'
    refine propext ⟨fun h w' hx => h w' ⟨⟨w', hx⟩, rfl⟩, ?_⟩
    rintro h w' ⟨s, rfl⟩
    exact h _ s.ext
  rw [e]
  exact h ⟨⟨w, Ext.refl w⟩⟩
/-- A call in such a region. -/
theorem Calls.after {P : Program} {f : FuncId} {args : Array Value} {w : World} {s : After w} {v : Value} (h : Calls P f args s.at_ fun e w' => e = .returned v ∧ Ext s.at_ w') :
    Calls P f args s.at_ fun e w'' => e = .returned v ∧ ∃ s' : After w, w'' = s'.at_ :=
  h.mono fun _ w' ⟨he, hx⟩ => ⟨he, ⟨w', s.ext.trans hx⟩, rfl⟩
/-- The slice value v owns the cells xs (size cells an element) in a block from base on. -/
def Own (w : World) (base size : Nat) (v : Value) (xs : List Value) : Prop :=
  ∃ n, xs.length = n * size ∧ ((v = .slice none 0 0 ∧ n = 0) ∨ ∃ g off cap, v = .slice (some ⟨g, off, none⟩) n cap ∧ base ≤ g ∧ g < w.heap.size ∧ n ≤ cap ∧ cap ≤ maxLen ∧
    (∀ j, j < cap * size → (w.cell? ⟨g, off + j, none⟩).isSome = true ∧ w.frozen? ⟨g, off + j, none⟩ = false) ∧ (∀ j, j < n * size → w.cell? ⟨g, off + j, none⟩ = xs[j]?))
theorem Own.nil (w : World) (base size : Nat) : Own w base size (.slice none 0 0) [] := ⟨0, by simp, .inl ⟨rfl, rfl⟩⟩
theorem Own.keep {w w' : World} {base size : Nat} {v : Value} {xs : List Value} {row : Option Nat} (h : Own w base size v xs) (hg : w.grownBy w' row) (hne : v.ownBlock = none ∨ v.ownBlock ≠ row) :
    Own w' base size v xs := by
  obtain ⟨n, hl, h⟩ := h
  refine ⟨n, hl, ?_⟩
  rcases h with h | ⟨g, off, cap, rfl, hb, hlt, hnc, hcm, hc, hx⟩
  · exact .inl h
  · have hne' : some g ≠ row := by simpa [Value.ownBlock] using hne
    have e : w'.heap[g]? = w.heap[g]? := hg.block g hlt hne'
    refine .inr ⟨g, off, cap, rfl, hb, Nat.lt_of_lt_of_le hlt hg.size, hnc, hcm, fun j hj => ?_, fun j hj => ?_⟩
    · have := hc j hj
      rw [World.cell?_of_block (w := w) (w' := w') (a := ⟨g, off + j, none⟩) e, World.frozen?_of_block (w := w) (w' := w') (a := ⟨g, off + j, none⟩) e]
      exact this
    · rw [World.cell?_of_block (w := w) (w' := w') (a := ⟨g, off + j, none⟩) e]
      exact hx j hj
theorem Ext.grown {w w' : World} (h : Ext w w') (row : Option Nat) : w.grownBy w' row := ⟨h.os, h.tape, h.output, h.size, fun k hk _ => h.block k hk⟩
theorem Ext.ofGrown {w w' : World} (h : w.grownBy w' none) : Ext w w' := ⟨h.os, h.tape, h.output, h.size, fun k hk => h.block k hk (by simp)⟩
theorem Own.ext {w w' : World} {base size : Nat} {v : Value} {xs : List Value} (h : Own w base size v xs) (he : Ext w w') : Own w' base size v xs := by
  refine h.keep (he.grown none) ?_
  cases v.ownBlock <;> simp
/-- What is old stays as it was behind a write to a block that is not old. -/
theorem Ext.onto {w w1 w2 : World} {row : Option Nat} (h : Ext w w1) (hg : w1.grownBy w2 row) (hr : ∀ k, row = some k → w.heap.size ≤ k) : Ext w w2 := Below.grown h hg h.size hr
theorem grownBy_trans {w w1 w2 : World} {row : Option Nat} (h : w.grownBy w1 row) (k : w1.grownBy w2 row) : w.grownBy w2 row :=
  ⟨k.os.trans h.os, k.tape.trans h.tape, k.output.trans h.output, Nat.le_trans h.size k.size, fun i hi hr => (k.block i (Nat.lt_of_lt_of_le hi h.size) hr).trans (h.block i hi hr)⟩
theorem grownBy_onto {w w1 w2 : World} {row row' : Option Nat} (h : w.grownBy w1 row) (k : w1.grownBy w2 row') (hr : ∀ k, row' = some k → w.heap.size ≤ k ∨ row = some k) : w.grownBy w2 row :=
  ⟨k.os.trans h.os, k.tape.trans h.tape, k.output.trans h.output, Nat.le_trans h.size k.size, fun i hi hne => (k.block i (Nat.lt_of_lt_of_le hi h.size) (fun e => by
    rcases hr i e.symm with h' | h'
    · omega
    · exact hne h'.symm)).trans (h.block i hi hne)⟩
theorem grownBy_ext {w w1 w2 : World} {row : Option Nat} (h : w.grownBy w1 row) (k : Ext w1 w2) : w.grownBy w2 row := grownBy_trans h (k.grown row)
theorem grownBy_cell {w w' : World} {row : Option Nat} (h : w.grownBy w' row) {p : Addr} (hp : p.block < w.heap.size) (hne : some p.block ≠ row) : w'.cell? p = w.cell? p :=
  World.cell?_of_block (h.block p.block hp hne)
theorem grownBy_frozen {w w' : World} {row : Option Nat} (h : w.grownBy w' row) {p : Addr} (hp : p.block < w.heap.size) (hne : some p.block ≠ row) : w'.frozen? p = w.frozen? p :=
  World.frozen?_of_block (h.block p.block hp hne)
theorem grownBy_wider {w w' : World} (h : w.grownBy w' none) (row : Option Nat) : w.grownBy w' row := ⟨h.os, h.tape, h.output, h.size, fun k hk _ => h.block k hk (by simp)⟩
theorem grownBy_setCell (w : World) (p : Addr) (u : Value) : w.grownBy (w.setCell p u) (some p.block) :=
  ⟨rfl, rfl, rfl, by simp [World.setCell], fun k _ hk => Below.heap_setCell _ _ _ _ (fun e => hk (by rw [e]))⟩
theorem Own.lt {w : World} {base size : Nat} {v : Value} {xs : List Value} (h : Own w base size v xs) : ∀ k, v.ownBlock = some k → base ≤ k ∧ k < w.heap.size := by
  intro k hk
  obtain ⟨n, _, ⟨rfl, _⟩ | ⟨g, off, cap, rfl, hb, hlt, _⟩⟩ := h
  · simp [Value.ownBlock] at hk
  · simp [Value.ownBlock] at hk
    omega
theorem Own.rebase {w : World} {base base' size : Nat} {v : Value} {xs : List Value} (h : Own w base size v xs) (hb : base' ≤ base) : Own w base' size v xs := by
  obtain ⟨n, hl, h | ⟨g, off, cap, rfl, hb', rest⟩⟩ := h
  · exact ⟨n, hl, .inl h⟩
  · exact ⟨n, hl, .inr ⟨g, off, cap, rfl, by omega, rest⟩⟩
theorem Own.ofRow {w : World} {base size n : Nat} {e : TypeId} {v : Value} {xs : List Value} (h : w.ownsRow base e size v n xs) : Own w base size v xs := by
  obtain ⟨hl, h | ⟨g, cap, cur, rfl, hb, hg, hnc, hcm, hcs, htake⟩⟩ := h
  · exact ⟨n, hl, .inl h⟩
  · refine ⟨n, hl, .inr ⟨g, 0, cap, rfl, hb, (Array.getElem?_eq_some_iff.1 hg).1, hnc, hcm, fun j hj => ?_, fun j hj => ?_⟩⟩
    · rw [Nat.zero_add, cell_of_row w g j cur e (0, 0) hg, frozen_of_row w g j cur e hg]
      simp [hcs, hj]
    · rw [Nat.zero_add, cell_of_row w g j cur e (0, 0) hg, ← htake, List.getElem?_take, if_pos hj]
      simp
/-- A store into an element's cell. -/
theorem Own.stored {w : World} {base size g off n cap : Nat} {xs : List Value} (h : Own w base size (.slice (some ⟨g, off, none⟩) n cap) xs) (j : Nat) (hj : j < xs.length) (u : Value) :
    Own (w.setCell ⟨g, off + j, none⟩ u) base size (.slice (some ⟨g, off, none⟩) n cap) (xs.set j u) := by
  obtain ⟨n', hl, ⟨h, _⟩ | ⟨g', off', cap', h, hb, hlt, hnc, hcm, hc, hx⟩⟩ := h
  · simp at h
  · simp only [Value.slice.injEq, Option.some.injEq, Addr.mk.injEq, and_true] at h
    obtain ⟨⟨rfl, rfl⟩, rfl, rfl⟩ := h
    have hjc : j < cap * size := by
      rw [hl] at hj
      exact Nat.lt_of_lt_of_le hj (Nat.mul_le_mul_right _ hnc)
    refine ⟨n, by simpa using hl, .inr ⟨g, off, cap, rfl, hb, by simpa [World.setCell] using hlt, hnc, hcm, fun i hi => ⟨?_, ?_⟩, fun i hi => ?_⟩⟩
    · obtain ⟨u0, hu0⟩ := Option.isSome_iff_exists.1 (hc i hi).1
      by_cases e : (⟨g, off + j, none⟩ : Addr) = ⟨g, off + i, none⟩
      · rw [← e] at hu0 ⊢
        rw [World.cell?_setCell_same w _ u hu0]; rfl
      · rw [World.cell?_setCell_other w _ _ u e, hu0]; rfl
    · rw [World.frozen?_setCell]; exact (hc i hi).2
    · by_cases e : i = j
      · subst e
        obtain ⟨u0, hu0⟩ := Option.isSome_iff_exists.1 (hc i hjc).1
        rw [World.cell?_setCell_same w _ u hu0, List.getElem?_set_self hj]
      · rw [World.cell?_setCell_other w _ _ u (fun h => e (by simp at h; first | done | omega)), List.getElem?_set_ne (fun h => e h.symm)]
        exact hx i hi
theorem Own.cellAt {w : World} {base size g off n cap : Nat} {xs : List Value} (h : Own w base size (.slice (some ⟨g, off, none⟩) n cap) xs) (j : Nat) (hj : j < xs.length) :
    w.cell? ⟨g, off + j, none⟩ = xs[j]? ∧ w.frozen? ⟨g, off + j, none⟩ = false := by
  obtain ⟨n', hl, ⟨h, _⟩ | ⟨g', off', cap', h, hb, hlt, hnc, hcm, hc, hx⟩⟩ := h
  · simp at h
  · simp only [Value.slice.injEq, Option.some.injEq, Addr.mk.injEq, and_true] at h
    obtain ⟨⟨rfl, rfl⟩, rfl, rfl⟩ := h
    rw [hl] at hj
    exact ⟨hx j hj, (hc j (Nat.lt_of_lt_of_le hj (Nat.mul_le_mul_right _ hnc))).2⟩
/-- What the value looks like. -/
theorem Own.shape {w : World} {base size : Nat} {v : Value} {xs : List Value} (hs : 0 < size) (h : Own w base size v xs) :
    (v = .slice none 0 0 ∧ xs = []) ∨ ∃ g off cap, v = .slice (some ⟨g, off, none⟩) (xs.length / size) cap ∧ base ≤ g ∧ g < w.heap.size ∧ xs.length / size ≤ cap ∧ xs.length % size = 0 := by
  obtain ⟨n, hl, ⟨rfl, rfl⟩ | ⟨g, off, cap, rfl, hb, hlt, hnc, _⟩⟩ := h
  · exact .inl ⟨rfl, by simpa using hl⟩
  · have : xs.length / size = n := by rw [hl]; exact Nat.mul_div_cancel _ hs
    exact .inr ⟨g, off, cap, by rw [this], hb, hlt, by omega, by rw [hl]; simp⟩
theorem setCells_size (b : Nat) : ∀ (vs : List Value) (o : Nat) (w : World), (w.setCells b o vs).heap.size = w.heap.size
  | [], _, _ => rfl
  | v :: r, o, w => by rw [World.setCells, setCells_size b r]; simp [World.setCell]
theorem grownBy_setCells (b : Nat) : ∀ (vs : List Value) (o : Nat) (w : World), w.grownBy (w.setCells b o vs) (some b)
  | [], _, w => ⟨rfl, rfl, rfl, Nat.le_refl _, fun _ _ _ => rfl⟩
  | v :: r, o, w => by
    rw [World.setCells]
    exact grownBy_trans (grownBy_setCell w ⟨b, o, none⟩ v) (grownBy_setCells b r (o + 1) _)
theorem isSome_setCells' (b : Nat) : ∀ (vs : List Value) (o : Nat) (w : World) (x : Addr), (w.cell? x).isSome = true → ((w.setCells b o vs).cell? x).isSome = true
  | [], _, _, _, h => h
  | v :: r, o, w, x, h => by
    rw [World.setCells]
    refine isSome_setCells' b r (o + 1) _ x ?_
    obtain ⟨u0, hu0⟩ := Option.isSome_iff_exists.1 h
    by_cases e : (⟨b, o, none⟩ : Addr) = x
    · subst e; rw [World.cell?_setCell_same w _ v hu0]; rfl
    · rw [World.cell?_setCell_other w _ _ v e, hu0]; simp
/-- APPEND to a slice that the call itself has made, wherever it begins in its block, nil too. -/
theorem wpList_append_Own {P : Program} (w : World) {ops : Array Oper} {rest : List Oper} {o : Oper} {a : Act} {Q : Exit → Act → World → Prop}
    (hg : o.guard = none) (s x : Operand) (t : TypeId) (hop : o.op = Op.call { callee := Callee.builtin Builtin.append, args := #[s, x], argTypes := #[t, t] })
    (e : TypeId) (i : TypeInfo) (z : Value) (size bytes : Nat) (h1 : P.underlying t = some (.slice e)) (h2 : P.info? e = some i) (h3 : i.zero = some z) (h4 : i.size = size) (h5 : i.bytes = bytes) (h6 : z.cells.size = size) (h7 : 0 < size)
    (base : Nat) (v : Value) (xs : List Value) (hs : a.eval s = v) (hown : Own w base size v xs) (hbase : base ≤ w.heap.size)
    (ad : Addr) (m c : Nat) (news : List Value) (hx : a.eval x = .slice (some ad) m c) (hn : news.length = m * size) (hc : ∀ j u, news[j]? = some u → w.cell? (ad.add j) = some u) (h1c : ∀ u ∈ news, u.oneCell' = true)
    (b1 : xs.length + news.length ≤ maxLen) (b2 : (xs.length + news.length) * bytes ≤ 140737488355328)
    (hK : ∀ v' w', Own w' base size v' (xs ++ news) → w.grownBy w' v.ownBlock → (∀ k, v'.ownBlock = some k → v.ownBlock = some k ∨ w.heap.size ≤ k) → wpList P ops Q rest (a.put o.dst v') w') :
    wpList P ops Q (o :: rest) a w := by
  obtain ⟨n, hl, ⟨rfl, rfl⟩ | ⟨g, off, cap, rfl, hb, hlt, hnc, hcm, hcc, hxx⟩⟩ := hown
  · have hxs : xs = [] := by simpa using hl
    subst hxs
    have hmm : m ≤ news.length := by rw [hn]; exact Nat.le_mul_of_pos_right _ h7
    have hb2 : (0 + m) * bytes ≤ 140737488355328 := Nat.le_trans (Nat.mul_le_mul_right _ (by simp only [List.length_nil]; omega)) b2
    refine wpList_append_own w hg s x t hop w.heap.size e i z size bytes h1 h2 h3 h4 h5 h6 h7 _ 0 [] hs (World.ownsRow_nil _ _ _ _) ad m c news hx hn hc h1c (by simp only [List.length_nil] at b1; omega) hb2 (Nat.le_refl _) ?_
    intro v' w' hown' hgrow _
    refine hK v' w' ((Own.ofRow hown').rebase hbase) (by simpa [Value.ownBlock] using hgrow) (fun k hk => .inr (hown'.lt k hk).1)
  · have hsz : n ≤ xs.length := by rw [hl]; exact Nat.le_mul_of_pos_right _ h7
    have hmm : m ≤ news.length := by rw [hn]; exact Nat.le_mul_of_pos_right _ h7
    have hb2 : (n + m) * bytes ≤ 140737488355328 := Nat.le_trans (Nat.mul_le_mul_right _ (by omega)) b2
    refine wpList_append_arg w hg s x t hop e i z size bytes h1 h2 h3 h4 h5 h6 h7 g off n cap xs hs hl (fun j u hu => ?_) ad m c news hx hn hc h1c (fun hr j hj => ?_) (by omega) hb2 (fun hr => ?_) (fun hr v' w' hown' hgrow => ?_)
    · have hj := (List.getElem?_eq_some_iff.1 hu).1
      rw [hxx j (by omega), hu]
    · have hj2 : n * size + j < cap * size := by
        have : (n + m) * size ≤ cap * size := Nat.mul_le_mul_right _ hr
        rw [Nat.add_mul] at this
        omega
      have := hcc (n * size + j) hj2
      rw [Nat.add_assoc]
      exact this
    · have hnews : ∀ j, j < news.length → n * size + j < cap * size := fun j hj => by
        have : (n + m) * size ≤ cap * size := Nat.mul_le_mul_right _ hr
        rw [Nat.add_mul] at this
        omega
      refine hK _ _ ⟨n + m, by rw [List.length_append, hl, hn, Nat.add_mul], .inr ⟨g, off, cap, rfl, hb, by rw [setCells_size]; exact hlt, hr, hcm, fun j hj => ⟨?_, ?_⟩, fun j hj => ?_⟩⟩ (grownBy_setCells _ _ _ _) (fun k hk => .inl hk)
      · exact isSome_setCells' _ _ _ _ _ (hcc j hj).1
      · rw [World.frozen?_setCells]; exact (hcc j hj).2
      · by_cases hjl : j < n * size
        · rw [World.cell?_setCells_out _ _ _ _ _ (fun _ _ => .inl (by simp; omega)), hxx j hjl, List.getElem?_append_left (by omega)]
        · have hj' : j - n * size < news.length := by
            rw [Nat.add_mul] at hj
            omega
          have e := World.cell?_setCells_in g news (off + n * size) w (fun i hi => by rw [Nat.add_assoc]; exact (hcc _ (hnews i hi)).1) (j - n * size) hj'
          rw [show off + j = off + n * size + (j - n * size) by omega, e, List.getElem?_append_right (by omega), hl, List.getElem?_eq_getElem hj']
    · exact hK v' w' ((Own.ofRow hown').rebase hbase) (grownBy_wider hgrow _) (fun k hk => .inr (hown'.lt k hk).1)
def ints (xs : List Int) : List Value := xs.map (Value.int .i64)
def ith (xs : List Int) (k : Nat) : Int := xs.getD k 0
theorem ints_length (xs : List Int) : (ints xs).length = xs.length := by simp [ints]
theorem ints_at (xs : List Int) (k : Nat) (hk : k < xs.length) : (ints xs)[k]? = some (.int .i64 (ith xs k)) := by simp [ints, ith, hk]
theorem ints_set (xs : List Int) (k : Nat) (x : Int) : (ints xs).set k (.int .i64 x) = ints (xs.set k x) := by simp [ints, List.map_set]
theorem ints_snoc (xs : List Int) (x : Int) : ints xs ++ [.int .i64 x] = ints (xs ++ [x]) := by simp [ints]
/-- Integers that lie from the address on; booleans. -/
def IntsIn (w : World) (ao : Option Addr) (xs : List Int) : Prop :=
  ∀ k, k < xs.length → ∃ b off, ao = some ⟨b, off, none⟩ ∧ b < w.heap.size ∧ w.cell? ⟨b, off + k, none⟩ = some (.int .i64 (ith xs k))
theorem IntsIn.grown {w w' : World} {ao : Option Addr} {xs : List Int} {row : Option Nat} (h : IntsIn w ao xs) (hg : w.grownBy w' row) (hne : ∀ a, ao = some a → some a.block ≠ row) : IntsIn w' ao xs := by
  intro k hk
  obtain ⟨b, off, ha, hb, hc⟩ := h k hk
  exact ⟨b, off, ha, Nat.lt_of_lt_of_le hb hg.size, (grownBy_cell (p := ⟨b, off + k, none⟩) hg hb (hne ⟨b, off, none⟩ ha)).trans hc⟩
theorem IntsIn.ext {w w' : World} {ao : Option Addr} {xs : List Int} (h : IntsIn w ao xs) (he : Ext w w') : IntsIn w' ao xs := h.grown (he.grown none) (fun _ _ => by simp)
theorem Own.intAt {w : World} {base g off n cap : Nat} {xs : List Int} (h : Own w base 1 (.slice (some ⟨g, off, none⟩) n cap) (ints xs)) (k : Nat) (hk : k < xs.length) :
    w.cell? ⟨g, off + k, none⟩ = some (.int .i64 (ith xs k)) ∧ w.frozen? ⟨g, off + k, none⟩ = false := by
  have := h.cellAt k (by rw [ints_length]; exact hk)
  rw [ints_at xs k hk] at this
  exact this
theorem Own.setInt {w : World} {base g off n cap : Nat} {xs : List Int} (h : Own w base 1 (.slice (some ⟨g, off, none⟩) n cap) (ints xs)) (k : Nat) (hk : k < xs.length) (u : Int) :
    Own (w.setCell ⟨g, off + k, none⟩ (.int .i64 u)) base 1 (.slice (some ⟨g, off, none⟩) n cap) (ints (xs.set k u)) := by
  rw [← ints_set]
  exact h.stored k (by rw [ints_length]; exact hk) _
theorem Ext.setOwn {w w1 : World} (h : Ext w w1) (p : Addr) (u : Value) (hb : w.heap.size ≤ p.block) : Ext w (w1.setCell p u) :=
  h.onto (grownBy_setCell w1 p u) (fun k hk => by simp at hk; omega)
theorem Own.intsIn {w : World} {base g off n cap : Nat} {xs : List Int} (h : Own w base 1 (.slice (some ⟨g, off, none⟩) n cap) (ints xs)) : IntsIn w (some ⟨g, off, none⟩) xs := by
  intro k hk
  exact ⟨g, off, rfl, (h.lt g rfl).2, by rw [(h.cellAt k (by rw [ints_length]; exact hk)).1, ints_at xs k hk]⟩
theorem Own.intsShape {w : World} {base : Nat} {v : Value} {xs : List Int} (h : Own w base 1 v (ints xs)) :
    ∃ ao cap, v = .slice ao xs.length cap ∧ IntsIn w ao xs ∧ (∀ a, ao = some a → base ≤ a.block ∧ a.block < w.heap.size) := by
  rcases h.shape (by omega) with ⟨rfl, hx⟩ | ⟨g, off, cap, rfl, hb, hlt, _, _⟩
  · have : xs = [] := by simpa [ints] using hx
    subst this
    exact ⟨none, 0, rfl, fun k hk => by simp at hk, fun a ha => by simp at ha⟩
  · refine ⟨some ⟨g, off, none⟩, cap, by simp [ints_length], h.intsIn, fun a ha => ?_⟩
    simp at ha; subst ha; exact ⟨hb, hlt⟩
theorem wp_of_list {P : Program} {ops : Array Oper} {o : Oper} {a : Act} {w : World} {K : Act → World → Prop} {Q : Exit → Act → World → Prop} (hg : o.guard = none)
    (h : wpList P ops (fun e a' w' => e = .normal ∧ K a' w') [o] a w) : Oper.wp P o a w K Q := by
  simp only [wpList] at h
  rw [if_pos (by simp [Region.wanted, hg])] at h
  rcases h with h | ⟨_, _, _, h, _⟩
  · unfold Oper.wp at h ⊢
    generalize (execOp a.eval o).run P w = r at *
    cases r with
    | ok n w' =>
      cases n with
      | value v => exact h.2
      | skip => exact h.2
      | defer d => exact h.2
      | enter f args =>
        refine Calls.mono h ?_
        intro e w'' he
        cases e with
        | returned v => exact he.2
        | panicked c => cases he.1
        | outgrown => obtain ⟨_, _, he, _⟩ := he; cases he
      | row r args => exact Rows.mono h fun _ _ he => he.2
      | _ => exact h
    | halt x w' =>
      cases x with
      | panic v => cases h.1
      | _ => exact h
  · cases h
/-- APPEND, at such a step. -/
theorem step_append_Own {P : Program} (w : World) {ops : Array Oper} {o : Oper} {a : Act} {K : Act → World → Prop} {Q : Exit → Act → World → Prop} {E : Prop}
    (hg : o.guard = none) (s x : Operand) (t : TypeId) (hop : o.op = Op.call { callee := Callee.builtin Builtin.append, args := #[s, x], argTypes := #[t, t] })
    (e : TypeId) (i : TypeInfo) (z : Value) (size bytes : Nat) (h1 : P.underlying t = some (.slice e)) (h2 : P.info? e = some i) (h3 : i.zero = some z) (h4 : i.size = size) (h5 : i.bytes = bytes) (h6 : z.cells.size = size) (h7 : 0 < size)
    (base : Nat) (v : Value) (xs : List Value) (hs : a.eval s = v) (hown : Own w base size v xs) (hbase : base ≤ w.heap.size)
    (ad : Addr) (m c : Nat) (news : List Value) (hx : a.eval x = .slice (some ad) m c) (hn : news.length = m * size) (hc : ∀ j u, news[j]? = some u → w.cell? (ad.add j) = some u) (h1c : ∀ u ∈ news, u.oneCell' = true)
    (b1 : xs.length + news.length ≤ maxLen) (b2 : (xs.length + news.length) * bytes ≤ 140737488355328)
    (hK : ∀ v' w', Own w' base size v' (xs ++ news) → w.grownBy w' v.ownBlock → (∀ k, v'.ownBlock = some k → v.ownBlock = some k ∨ w.heap.size ≤ k) → K (a.put o.dst v') w') :
    if Region.wanted o (yielded ops a.tmps) = true then Oper.wp P o a w K Q else E := by
  rw [if_pos (by simp [Region.wanted, hg])]
  refine wp_of_list (ops := ops) hg ?_
  refine wpList_append_Own w hg s x t hop e i z size bytes h1 h2 h3 h4 h5 h6 h7 base v xs hs hown hbase ad m c news hx hn hc h1c b1 b2 ?_
  intro v' w' g1 g2 g3
  exact ⟨rfl, hK v' w' g1 g2 g3⟩
theorem Own.shapeCap {w : World} {base size : Nat} {v : Value} {xs : List Value} (h : Own w base size v xs) : ∃ o n c, v = .slice o n c ∧ n ≤ c := by
  obtain ⟨n, _, ⟨rfl, rfl⟩ | ⟨g, off, cap, rfl, _, _, hnc, _⟩⟩ := h
  · exact ⟨none, 0, 0, rfl, Nat.le_refl _⟩
  · exact ⟨_, n, cap, rfl, hnc⟩
theorem info_int : (Tryd.prog.info? 3).map (fun i => (i.zero, i.size, i.bytes)) = some (some (.int .i64 0), 1, 8) := by kernel_rfl
theorem one_cell (w : World) (x : Value) (t : TypeId) (z : Nat) (hz : z = w.heap.size) : ∀ (j : Nat) (u : Value), [x][j]? = some u → (w.alloc (.cells #[x] t)).cell? (Addr.add ⟨z, 0, none⟩ j) = some u := by
  subst hz
  intro j u h
  cases j with
  | zero => simp at h; subst h; simp [go_sem]
  | succ j => simp at h
end Go.Proofs.YtefmioppamdceaaDoor
