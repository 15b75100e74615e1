/- Append, with where the slice begins. -/
import Derived.Test.YtefmioppamdceaaDoorMKit
import Derived.Test.YtefmioppamdceaaDoorMIC
namespace Go.Proofs.YtefmioppamdceaaDoor
open Go.RowKit

/-- A slice that begins at its block's begin. -/
def Off0 (v : Value) : Prop := ∀ g off n c, v = .slice (some ⟨g, off, none⟩) n c → off = 0
theorem Off0.nil : Off0 (.slice none 0 0) := fun g off n c h => by simp at h
theorem Off0.ofRow {w : World} {base size n : Nat} {e : TypeId} {v : Value} {xs : List Value} (h : w.ownsRow base e size v n xs) : Off0 v := by
  obtain ⟨_, ⟨rfl, _⟩ | ⟨g, cap, cur, rfl, _⟩⟩ := h
  · exact Off0.nil
  · intro g' off n' c' h; simp at h; omega
/-- APPEND, with where the slice begins. -/
theorem wpList_append_Off {P : Program} (w : World) {ops : Array Oper} {rest : List Oper} {o : Oper} {a : Act} {Q : Exit → Act → World → Prop}
    (hg : o.guard = none) (s x : Operand) (t : TypeId) (hop : o.op = Op.call { callee := Callee.builtin Builtin.append, args := #[s, x], argTypes := #[t, t] })
    (e : TypeId) (i : TypeInfo) (z : Value) (size bytes : Nat) (h1 : P.underlying t = some (.slice e)) (h2 : P.info? e = some i) (h3 : i.zero = some z) (h4 : i.size = size) (h5 : i.bytes = bytes) (h6 : z.cells.size = size) (h7 : 0 < size)
    (base : Nat) (v : Value) (xs : List Value) (hs : a.eval s = v) (hown : Own w base size v xs) (hbase : base ≤ w.heap.size)
    (ad : Addr) (m c : Nat) (news : List Value) (hx : a.eval x = .slice (some ad) m c) (hn : news.length = m * size) (hc : ∀ j u, news[j]? = some u → w.cell? (ad.add j) = some u) (h1c : ∀ u ∈ news, u.oneCell' = true)
    (b1 : xs.length + news.length ≤ maxLen) (b2 : (xs.length + news.length) * bytes ≤ 140737488355328)
    (hK : ∀ v' w', Own w' base size v' (xs ++ news) → w.grownBy w' v.ownBlock → (∀ k, v'.ownBlock = some k → v.ownBlock = some k ∨ w.heap.size ≤ k) → (Off0 v → Off0 v') → wpList P ops Q rest (a.put o.dst v') w') :
    wpList P ops Q (o :: rest) a w := by
  obtain ⟨n, hl, ⟨rfl, rfl⟩ | ⟨g, off, cap, rfl, hb, hlt, hnc, hcm, hcc, hxx⟩⟩ := hown
  · have hxs : xs = [] := by simpa using hl
    subst hxs
    have hmm : m ≤ news.length := by rw [hn]; exact Nat.le_mul_of_pos_right _ h7
    have hb2 : (0 + m) * bytes ≤ 140737488355328 := Nat.le_trans (Nat.mul_le_mul_right _ (by simp only [List.length_nil]; omega)) b2
    refine wpList_append_own w hg s x t hop w.heap.size e i z size bytes h1 h2 h3 h4 h5 h6 h7 _ 0 [] hs (World.ownsRow_nil _ _ _ _) ad m c news hx hn hc h1c (by simp only [List.length_nil] at b1; omega) hb2 (Nat.le_refl _) ?_
    intro v' w' hown' hgrow _
    refine hK v' w' ((Own.ofRow hown').rebase hbase) (by simpa [Value.ownBlock] using hgrow) (fun k hk => .inr (hown'.lt k hk).1) (fun _ => Off0.ofRow hown')
  · have hsz : n ≤ xs.length := by rw [hl]; exact Nat.le_mul_of_pos_right _ h7
    have hmm : m ≤ news.length := by rw [hn]; exact Nat.le_mul_of_pos_right _ h7
    have hb2 : (n + m) * bytes ≤ 140737488355328 := Nat.le_trans (Nat.mul_le_mul_right _ (by omega)) b2
    refine wpList_append_arg w hg s x t hop e i z size bytes h1 h2 h3 h4 h5 h6 h7 g off n cap xs hs hl (fun j u hu => ?_) ad m c news hx hn hc h1c (fun hr j hj => ?_) (by omega) hb2 (fun hr => ?_) (fun hr v' w' hown' hgrow => ?_)
    · have hj := (List.getElem?_eq_some_iff.1 hu).1
      rw [hxx j (by omega), hu]
    · have hj2 : n * size + j < cap * size := by
        have : (n + m) * size ≤ cap * size := Nat.mul_le_mul_right _ hr
        rw [Nat.add_mul] at this
        omega
      have := hcc (n * size + j) hj2
      rw [Nat.add_assoc]
      exact this
    · have hnews : ∀ j, j < news.length → n * size + j < cap * size := fun j hj => by
        have : (n + m) * size ≤ cap * size := Nat.mul_le_mul_right _ hr
        rw [Nat.add_mul] at this
        omega
      refine hK _ _ ⟨n + m, by rw [List.length_append, hl, hn, Nat.add_mul], .inr ⟨g, off, cap, rfl, hb, by rw [setCells_size]; exact hlt, hr, hcm, fun j hj => ⟨?_, ?_⟩, fun j hj => ?_⟩⟩ (grownBy_setCells _ _ _ _) (fun k hk => .inl hk) (fun h0 => by have := h0 _ _ _ _ rfl; subst this; intro g' off' n' c' h; simp at h; omega)
      · exact isSome_setCells' _ _ _ _ _ (hcc j hj).1
      · rw [World.frozen?_setCells]; exact (hcc j hj).2
      · by_cases hjl : j < n * size
        · rw [World.cell?_setCells_out _ _ _ _ _ (fun _ _ => .inl (by simp; omega)), hxx j hjl, List.getElem?_append_left (by omega)]
        · have hj' : j - n * size < news.length := by
            rw [Nat.add_mul] at hj
            omega
          have e := World.cell?_setCells_in g news (off + n * size) w (fun i hi => by rw [Nat.add_assoc]; exact (hcc _ (hnews i hi)).1) (j - n * size) hj'
          rw [show off + j = off + n * size + (j - n * size) by omega, e, List.getElem?_append_right (by omega), hl, List.getElem?_eq_getElem hj']
    · exact hK v' w' ((Own.ofRow hown').rebase hbase) (grownBy_wider hgrow _) (fun k hk => .inr (hown'.lt k hk).1) (fun _ => Off0.ofRow hown')
theorem own_slice {w : World} {base : Nat} {v : Value} {xs : List Value} (h : Own w base 1 v xs) (hx : 1 ≤ xs.length) (h0 : Off0 v) : ∃ g cap, v = .slice (some ⟨g, 0, none⟩) xs.length cap ∧ base ≤ g ∧ g < w.heap.size ∧ xs.length ≤ cap ∧ cap ≤ 9223372036854775807 ∧ v.ownBlock = some g ∧
    ∀ j, j < xs.length → w.cell? ⟨g, j, none⟩ = xs[j]? ∧ w.frozen? ⟨g, j, none⟩ = false := by
  obtain ⟨n, hl, ⟨rfl, rfl⟩ | ⟨g, off, cap, rfl, hb, hlt, hnc, hcm, hcc, hxx⟩⟩ := h
  · omega
  · rw [Nat.mul_one] at hl
    subst hl
    obtain rfl := h0 _ _ _ _ rfl
    refine ⟨g, cap, rfl, hb, hlt, hnc, by unfold maxLen at hcm; omega, rfl, fun j hj => ?_⟩
    have h1 := hxx j (by omega)
    have h2 := (hcc j (by omega)).2
    rw [Nat.zero_add] at h1 h2
    exact ⟨h1, h2⟩
end Go.Proofs.YtefmioppamdceaaDoor

/- Inspect: tabled. -/
namespace Go.Proofs.YtefmioppamdceaaDoor
open Go.RowKit Go.Shelf

def rowI (g : List (List Int)) (k : Nat) : List Int := g.getD k []
def entI (g : List (List Int)) (i j : Nat) : Int := ith (rowI g i) j
/-- A matrix lies in memory. -/
def GameIn (w : World) (ao : Option Addr) (g : List (List Int)) : Prop := ∀ k, k < g.length → ∃ b off ro rc, ao = some ⟨b, off, none⟩ ∧ b < w.heap.size ∧ w.cell? ⟨b, off + k, none⟩ = some (.slice ro (rowI g k).length rc) ∧ (rowI g k).length ≤ rc ∧ IntsIn w ro (rowI g k)
theorem GameIn.ext {w w' : World} {ao : Option Addr} {g : List (List Int)} (h : GameIn w ao g) (hx : Ext w w') : GameIn w' ao g := fun k hk => by
  obtain ⟨b, off, ro, rc, h1, h2, h3, h4, h5⟩ := h k hk
  exact ⟨b, off, ro, rc, h1, Nat.lt_of_lt_of_le h2 hx.size, (hx.cell (p := ⟨b, off + k, none⟩) h2).trans h3, h4, h5.ext hx⟩
theorem info_erow : (Tryd.prog.info? 83).map (fun i => (i.zero, i.size, i.bytes)) = some (some (.slice none 0 0), 1, 24) := by kernel_rfl
/-- Slices of rows. -/
def RowsL (w : World) (L : Nat) (R : Nat → Nat → Int) (rvs : List Value) : Prop := ∀ k, k < rvs.length → ∃ b, rvs[k]? = some (.slice (some ⟨b, 0, none⟩) L L) ∧ RowB w b L (R k)
theorem RowsL.ext {w w' : World} {L : Nat} {R : Nat → Nat → Int} {rvs : List Value} (h : RowsL w L R rvs) (hx : Ext w w') : RowsL w' L R rvs := fun k hk => by
  obtain ⟨b, h1, h2⟩ := h k hk
  exact ⟨b, h1, h2.ext hx⟩
theorem RowsL.farK {w w' : World} {L : Nat} {R : Nat → Nat → Int} {rvs : List Value} {k : Nat} {v : Value} (h : RowsL w L R rvs) (hL : 0 < L) (h0 : w.cell? ⟨k, 0, none⟩ = some v) (hv : Odd v) (hp : ∀ a, v ≠ .pointer a) (hg : w.grownBy w' (some k)) : RowsL w' L R rvs := fun q hq => by
  obtain ⟨b, h1, h2⟩ := h q hq
  exact ⟨b, h1, h2.farK hL h0 hv hp hg⟩
theorem RowsL.snoc {w : World} {L : Nat} {R : Nat → Nat → Int} {rvs : List Value} (h : RowsL w L R rvs) {b : Nat} (hB : RowB w b L (R rvs.length)) : RowsL w L R (rvs ++ [.slice (some ⟨b, 0, none⟩) L L]) := fun k hk => by
  rw [List.length_append] at hk
  by_cases e : k < rvs.length
  · obtain ⟨d, h1, h2⟩ := h k e
    exact ⟨d, by rw [List.getElem?_append_left e]; exact h1, h2⟩
  · have e2 : k = rvs.length := by simp at hk; omega
    subst e2
    exact ⟨b, by simp, hB⟩
/-- Any pointer into the next place. -/
theorem RowN.touch {w : World} {b L c : Nat} {f : Nat → Int} (h : RowN w b L c f) (hc : c < L) (p : Option Addr) : RowN (w.setCell ⟨b, c, none⟩ (.pointer p)) b L c f := by
  obtain ⟨⟨p0, hp0⟩, -⟩ := h.all 0 (by omega)
  obtain ⟨⟨pc, hpc⟩, -⟩ := h.all c hc
  have hg := grownBy_setCell w ⟨b, c, none⟩ (.pointer p)
  have hne : ∀ l, l ≠ c → (w.setCell ⟨b, c, none⟩ (.pointer p)).cell? ⟨b, l, none⟩ = w.cell? ⟨b, l, none⟩ := fun l hl => World.cell?_setCell_other _ _ _ _ (fun e => hl (by simp only [Addr.mk.injEq, and_true, true_and] at e; exact e.symm))
  refine ⟨by simpa [World.setCell] using h.lt, fun l hl => ?_, fun l hl => ⟨?_, ?_⟩⟩
  · obtain ⟨a2, h1, h2⟩ := h.ent l hl
    exact ⟨a2, (hne l (by omega)).trans h1, h2.farK hp0 (Odd.ptr _) hg⟩
  · by_cases e : l = c
    · subst e; exact ⟨_, World.cell?_setCell_same _ _ _ hpc⟩
    · obtain ⟨⟨p, h1⟩, -⟩ := h.all l hl
      exact ⟨p, (hne l e).trans h1⟩
  · rw [World.frozen?_setCell]; exact (h.all l hl).2
/-- The tableau, when some rows are there. -/
structure Half (w : World) (t n m : Nat) (A : Nat → Nat → Int) (k : Nat) (rv bv : Value) (rvs : List Value) : Prop where
  tl : t < w.heap.size
  c0 : w.cell? ⟨t, 0, none⟩ = some rv
  c1 : w.cell? ⟨t, 1, none⟩ = some bv
  c2 : EntC w ⟨t, 2, none⟩ 1
  free : ∀ k, k ≤ 2 → w.frozen? ⟨t, k, none⟩ = false
  ro : Own w (t + 1) 1 rv rvs
  rows : RowsL w (m + n + 1) (GT.start n m A).R rvs
  bo : Own w (t + 1) 1 bv (ints ((List.range k).map fun (q : Nat) => ((m + q : Nat) : Int)))
  o1 : Off0 rv
  o2 : Off0 bv
  ap : ∀ q, rv.ownBlock = some q → bv.ownBlock ≠ some q
  e1 : rvs = [] → rv = .slice none 0 0
  e2 : k = 0 → bv = .slice none 0 0
section
variable {w wA w5 : World} {t n m : Nat} {A : Nat → Nat → Int} {k : Nat} {rv bv : Value} {rvs : List Value}
theorem Half.ext {w' : World} (h : Half w t n m A k rv bv rvs) (hx : Ext w w') : Half w' t n m A k rv bv rvs :=
  ⟨Nat.lt_of_lt_of_le h.tl hx.size, (hx.cell (p := ⟨t, 0, none⟩) h.tl).trans h.c0, (hx.cell (p := ⟨t, 1, none⟩) h.tl).trans h.c1, h.c2.ext h.tl hx, fun k hk => (hx.frozen (p := ⟨t, k, none⟩) h.tl).trans (h.free k hk), h.ro.ext hx, h.rows.ext hx, h.bo.ext hx, h.o1, h.o2, h.ap, h.e1, h.e2⟩
theorem own_odd {base : Nat} {v : Value} {xs : List Value} (h : Own w base 1 v xs) : Odd v ∧ ∀ a, v ≠ .pointer a := by
  obtain ⟨o, n, c, rfl, -⟩ := h.shapeCap
  exact ⟨Odd.slice _ _ _, fun _ => by simp⟩
/-- What the block of a slice that is not empty begins with. -/
theorem own_first {base q : Nat} {v : Value} {xs : List Value} (h : Own w base 1 v xs) (h0 : Off0 v) (hx : xs ≠ []) (hq : v.ownBlock = some q) : w.cell? ⟨q, 0, none⟩ = xs[0]? := by
  have hl : 1 ≤ xs.length := by cases xs with | nil => exact absurd rfl hx | cons => simp
  obtain ⟨g, cap, -, -, -, -, -, h5, h6⟩ := own_slice h hl h0
  rw [hq, Option.some.injEq] at h5
  subst h5
  exact (h6 0 (by omega)).1
/-- A number's row, and rows, where a slice of rows or of the basis has been written. -/
theorem Half.rowFar (h : Half w t n m A k rv bv rvs) {w' : World} {row : Option Nat} (hr : row = rv.ownBlock ∨ row = bv.ownBlock) (hg : w.grownBy w' row) : (∀ (b L : Nat) (f : Nat → Int), 0 < L → RowB w b L f → RowB w' b L f) ∧ (∀ (a : Nat) (z : Int), BigAt w a z → BigAt w' a z) := by
  cases row with
  | none => exact ⟨fun b L f _ hB => hB.ext (Ext.ofGrown hg), fun a z hB => hB.ext (Ext.ofGrown hg)⟩
  | some q =>
    obtain ⟨v, hv, ho, hp⟩ : ∃ v, w.cell? ⟨q, 0, none⟩ = some v ∧ Odd v ∧ ∀ a, v ≠ .pointer a := by
      rcases hr with hr | hr
      · have hne : rvs ≠ [] := fun e => by rw [h.e1 e] at hr; simp [Value.ownBlock] at hr
        have h1 := own_first h.ro h.o1 hne hr.symm
        obtain ⟨b, h2, -⟩ := h.rows 0 (by cases rvs with | nil => exact absurd rfl hne | cons => simp)
        exact ⟨_, h1.trans h2, Odd.slice _ _ _, fun _ => by simp⟩
      · have hk : k ≠ 0 := fun e => by rw [h.e2 e] at hr; simp [Value.ownBlock] at hr
        have h1 := own_first h.bo h.o2 (by intro e; have := congrArg List.length e; simp [ints] at this; omega) hr.symm
        rw [ints_at _ 0 (by simp; omega)] at h1
        exact ⟨_, h1, Odd.int _, fun _ => by simp⟩
    exact ⟨fun b L f hL hB => hB.farK hL hv ho hp hg, fun a z hB => hB.farK hv ho hg⟩
theorem Half.tNe (h : Half w t n m A k rv bv rvs) {row : Option Nat} (hr : row = rv.ownBlock ∨ row = bv.ownBlock) : some t ≠ row := by
  rintro rfl
  rcases hr with hr | hr
  · have := (h.ro.lt _ hr.symm).1; omega
  · have := (h.bo.lt _ hr.symm).1; omega
/-- A row more. -/
theorem Half.addRow (h0 : Half w t n m A k rv bv rvs) (hxA : Ext w wA) (hg : wA.grownBy w5 rv.ownBlock) {v5 : Value} {b : Nat} (ho : Own w5 (t + 1) 1 v5 (rvs ++ [.slice (some ⟨b, 0, none⟩) (m + n + 1) (m + n + 1)])) (hb5 : ∀ q, v5.ownBlock = some q → rv.ownBlock = some q ∨ wA.heap.size ≤ q) (f5 : Off0 rv → Off0 v5)
    (hB : RowB wA b (m + n + 1) ((GT.start n m A).R rvs.length)) : Half (w5.setCell ⟨t, 0, none⟩ v5) t n m A k v5 bv (rvs ++ [.slice (some ⟨b, 0, none⟩) (m + n + 1) (m + n + 1)]) := by
  have h := h0.ext hxA
  have hr := h.rowFar (.inl rfl) hg
  have hne := h.tNe (.inl rfl)
  have hs := hg.size
  have tl := h.tl
  have c : ∀ o, w5.cell? ⟨t, o, none⟩ = wA.cell? ⟨t, o, none⟩ := fun o => grownBy_cell (p := ⟨t, o, none⟩) hg tl hne
  have f : ∀ o, w5.frozen? ⟨t, o, none⟩ = wA.frozen? ⟨t, o, none⟩ := fun o => grownBy_frozen (p := ⟨t, o, none⟩) hg tl hne
  have hc0 : w5.cell? ⟨t, 0, none⟩ = some rv := (c 0).trans h.c0
  have hod := own_odd h.ro
  have hgt := grownBy_setCell w5 ⟨t, 0, none⟩ v5
  have ct : ∀ o, o ≠ 0 → (w5.setCell ⟨t, 0, none⟩ v5).cell? ⟨t, o, none⟩ = w5.cell? ⟨t, o, none⟩ := fun o ho => World.cell?_setCell_other _ _ _ _ (fun e => ho (by simp only [Addr.mk.injEq, and_true, true_and] at e; exact e.symm))
  have hbo : Own w5 (t + 1) 1 bv _ := h.bo.keep hg (by
    cases hbv : bv.ownBlock with
    | none => exact .inl rfl
    | some q => exact .inr (fun e => h.ap q e.symm hbv))
  have hrows : RowsL w5 (m + n + 1) (GT.start n m A).R (rvs ++ [.slice (some ⟨b, 0, none⟩) (m + n + 1) (m + n + 1)]) := RowsL.snoc (fun q hq => by
    obtain ⟨d, h1, h2⟩ := h.rows q hq
    exact ⟨d, h1, hr.1 _ _ _ (by omega) h2⟩) (hr.1 _ _ _ (by omega) hB)
  obtain ⟨a, ha, hBa⟩ := h.c2
  refine ⟨by have := hgt.size; omega, World.cell?_setCell_same _ _ _ hc0, by rw [ct 1 (by decide), c]; exact h.c1, ⟨a, by rw [ct 2 (by decide), c]; exact ha, (hr.2 _ _ hBa).farK hc0 hod.1 hgt⟩, fun q hq => by rw [World.frozen?_setCell, f]; exact h.free q hq,
    ho.keep hgt (.inr (fun e => by have := (ho.lt _ e).1; simp only [] at this; omega)), hrows.farK (by omega) hc0 hod.1 hod.2 hgt, hbo.keep hgt (.inr (fun e => by have := (hbo.lt _ e).1; simp only [] at this; omega)), f5 h.o1, h.o2, fun q hq hq2 => ?_, fun e => by simp at e, h.e2⟩
  rcases hb5 q hq with h1 | h1
  · exact h.ap q h1 hq2
  · have := (h.bo.lt q hq2).2; omega
/-- A place of the basis more. -/
theorem Half.addBas (h0 : Half w t n m A k rv bv rvs) (hxA : Ext w wA) (hg : wA.grownBy w5 bv.ownBlock) {v5 : Value} (ho : Own w5 (t + 1) 1 v5 (ints ((List.range k).map fun (q : Nat) => ((m + q : Nat) : Int)) ++ [.int .i64 ((m : Int) + (k : Int))])) (hb5 : ∀ q, v5.ownBlock = some q → bv.ownBlock = some q ∨ wA.heap.size ≤ q) (f5 : Off0 bv → Off0 v5) :
    Half (w5.setCell ⟨t, 1, none⟩ v5) t n m A (k + 1) rv v5 rvs := by
  have h := h0.ext hxA
  have hr := h.rowFar (.inr rfl) hg
  have hne := h.tNe (.inr rfl)
  have hs := hg.size
  have tl := h.tl
  have c : ∀ o, w5.cell? ⟨t, o, none⟩ = wA.cell? ⟨t, o, none⟩ := fun o => grownBy_cell (p := ⟨t, o, none⟩) hg tl hne
  have f : ∀ o, w5.frozen? ⟨t, o, none⟩ = wA.frozen? ⟨t, o, none⟩ := fun o => grownBy_frozen (p := ⟨t, o, none⟩) hg tl hne
  have hc0 : w5.cell? ⟨t, 0, none⟩ = some rv := (c 0).trans h.c0
  have hc1 : w5.cell? ⟨t, 1, none⟩ = some bv := (c 1).trans h.c1
  have hod := own_odd h.ro
  have hgt := grownBy_setCell w5 ⟨t, 1, none⟩ v5
  have ct : ∀ o, o ≠ 1 → (w5.setCell ⟨t, 1, none⟩ v5).cell? ⟨t, o, none⟩ = w5.cell? ⟨t, o, none⟩ := fun o ho => World.cell?_setCell_other _ _ _ _ (fun e => ho (by simp only [Addr.mk.injEq, and_true, true_and] at e; exact e.symm))
  have hro : Own w5 (t + 1) 1 rv rvs := h.ro.keep hg (by
    cases hrv : rv.ownBlock with
    | none => exact .inl rfl
    | some q => exact .inr (fun e => h.ap q hrv e.symm))
  have hrows : RowsL w5 (m + n + 1) (GT.start n m A).R rvs := fun q hq => by
    obtain ⟨d, h1, h2⟩ := h.rows q hq
    exact ⟨d, h1, hr.1 _ _ _ (by omega) h2⟩
  obtain ⟨a, ha, hBa⟩ := h.c2
  have e : ints ((List.range k).map fun (q : Nat) => ((m + q : Nat) : Int)) ++ [.int .i64 ((m : Int) + (k : Int))] = ints ((List.range (k + 1)).map fun (q : Nat) => ((m + q : Nat) : Int)) := by
    rw [ints_snoc, List.range_succ, List.map_append]; simp
  rw [e] at ho
  refine ⟨by have := hgt.size; omega, by rw [ct 0 (by decide), c]; exact h.c0, World.cell?_setCell_same _ _ _ hc1, ⟨a, by rw [ct 2 (by decide), c]; exact ha, (hr.2 _ _ hBa).farK hc0 hod.1 hgt⟩, fun q hq => by rw [World.frozen?_setCell, f]; exact h.free q hq,
    hro.keep hgt (.inr (fun e => by have := (hro.lt _ e).1; simp only [] at this; omega)), hrows.farK (by omega) hc0 hod.1 hod.2 hgt, ho.keep hgt (.inr (fun e => by have := (ho.lt _ e).1; simp only [] at this; omega)), h.o1, f5 h.o2, fun q hq hq2 => ?_, h.e1, fun e => by omega⟩
  rcases hb5 q hq2 with h1 | h1
  · exact h.ap q hq h1
  · have := (h.ro.lt q hq).2; omega
/-- All rows are there. -/
theorem Half.done (h : Half w t n m A n rv bv rvs) (hl : rvs.length = n + 1) (hn : 0 < n) {B : Nat} (hB : B ≤ t) : ∃ P : GAt, P.t = t ∧ TabG w B P n (m + n + 1) (GT.start n m A) := by
  obtain ⟨rg, rc, rfl, r1, r2, r3, r4, r5, r6⟩ := own_slice h.ro (by omega) h.o1
  obtain ⟨bg, bc, hbv, b1, b2, b3, b4, b5, b6⟩ := own_slice h.bo (by simp [ints_length]; exact hn) h.o2
  rw [ints_length, List.length_map, List.length_range] at b3 b6 hbv
  subst hbv
  rw [hl] at r3
  refine ⟨⟨t, rg, rc, bg, bc⟩, rfl, ⟨⟨hB, h.tl⟩, ⟨by show B ≤ rg; omega, r2⟩, ⟨by show B ≤ bg; omega, b2⟩, by rw [h.c0, hl], h.c1, h.c2, h.free, fun k hk => ?_, fun k hk => (r6 k (by omega)).2, fun i hi => ⟨?_, (b6 i hi).2⟩, ⟨by show t ≠ rg; omega, by show t ≠ bg; omega, ?_⟩, ⟨r3, r4, b3, b4⟩, hn, by omega⟩⟩
  · obtain ⟨b, h1, h2⟩ := h.rows k (by omega)
    exact ⟨b, (r6 k (by omega)).1.trans h1, h2⟩
  · rw [(b6 i hi).1, ints_at _ _ (by simp; exact hi)]
    simp [ith, hi, GT.start]
  · intro e
    exact h.ap rg r5 (by rw [b5]; exact congrArg some e.symm)
end
end Go.Proofs.YtefmioppamdceaaDoor
