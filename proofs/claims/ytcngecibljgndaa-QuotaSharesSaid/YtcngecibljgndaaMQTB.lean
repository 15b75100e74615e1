/- tabled: a tableau under way, plain. -/
import Derived.Test.YtcngecibljgndaaMQTA
import Derived.Test.YtcngecibljgndaaMQD
import Derived.Test.YtcngecibljgndaaMLA
import Derived.OrdersHeld
import Derived.Deep.RegionHeld3
namespace Go.Proofs.Ytcngecibljgndaa
open Go.RowKit Go.Shelf

theorem in_all : ∀ s : Fin 128, ∀ c : Fin 7, bits BinOp.and IntKind.i64 ((s.val : Int) / 2 ^ c.val) 1 = inB (s.val : Int) c.val := by decide +kernel
theorem info_row' : (Try.prog.info? 22).map (fun i => (i.zero, i.size, i.bytes)) = some (some (.slice none 0 0), 1, 24) := by kernel_rfl
theorem inB_bounds (s : Int) (c : Nat) : 0 ≤ inB s c ∧ inB s c ≤ 1 := by unfold inB; split <;> omega
theorem rowK_length (n : Nat) (ss : List Int) (c k : Nat) : (rowK n ss c k).length = ss.length + n + 1 := by simp [rowK]
theorem rowOf_bounds (n : Nat) (ss : List Int) (c q : Nat) (hc : c < n) (hq : q < ss.length + n + 1) : 0 ≤ ith (rowOf n ss c) q ∧ ith (rowOf n ss c) q ≤ 1 := by
  rw [rowOf, ith_set _ _ _ _ (by rw [List.length_set, rowK_length]; omega)]
  split
  · omega
  · rw [ith_set _ _ _ _ (by rw [rowK_length]; omega)]
    split
    · omega
    · rw [rowK, ith_map_range _ _ _ hq]
      split
      · exact inB_bounds _ _
      · omega
theorem goalOf_bounds (n : Nat) (ss : List Int) : ∀ (c q : Nat), c ≤ n → q < ss.length + n + 1 → -(c : Int) ≤ ith (goalOf n ss c) q ∧ ith (goalOf n ss c) q ≤ 0
  | 0, q, _, hq => by simp [goalOf, ith, hq]
  | c + 1, q, hc, hq => by
    have h1 := goalOf_bounds n ss c q (by omega) hq
    have h2 := rowOf_bounds n ss c q (by omega) hq
    rw [goalOf, lessRow, ith_map_range _ _ _ hq]
    split <;> omega
theorem one_cell2 (w : World) (x : Value) (t : TypeId) (o : Obj) (z : Nat) (hz : z = w.heap.size) : ∀ (j : Nat) (u : Value), [x][j]? = some u → ((w.alloc (.cells #[x] t)).alloc o).cell? (Addr.add ⟨z, 0, none⟩ j) = some u := by
  intro j u h
  have hj : j = 0 := by
    cases j with
    | zero => rfl
    | succ j => simp at h
  subst hj
  have h1 := one_cell w x t z hz 0 u h
  have hx : Ext (w.alloc (.cells #[x] t)) ((w.alloc (.cells #[x] t)).alloc o) := (Ext.refl _).alloc o
  rw [← h1]
  exact hx.cell (by rw [addr_add]; simp [hz])
/-- The two lists' places in the tableau's box. -/
structure TF (w : World) (t : Nat) (rv bv : Value) : Prop where
  c2 : w.cell? ⟨t, 2, none⟩ = some rv
  c4 : w.cell? ⟨t, 4, none⟩ = some bv
  f2 : w.frozen? ⟨t, 2, none⟩ = false
  f4 : w.frozen? ⟨t, 4, none⟩ = false
  lt : t < w.heap.size
theorem TF.ext {w w' : World} {t : Nat} {rv bv : Value} (h : TF w t rv bv) (hx : Ext w w') : TF w' t rv bv :=
  ⟨(hx.cell (p := ⟨t, 2, none⟩) h.lt).trans h.c2, (hx.cell (p := ⟨t, 4, none⟩) h.lt).trans h.c4, (hx.frozen (p := ⟨t, 2, none⟩) h.lt).trans h.f2, (hx.frozen (p := ⟨t, 4, none⟩) h.lt).trans h.f4, Nat.lt_of_lt_of_le h.lt hx.size⟩
theorem TF.grown {w w' : World} {t : Nat} {rv bv : Value} {row : Option Nat} (h : TF w t rv bv) (hg : w.grownBy w' row) (hne : some t ≠ row) : TF w' t rv bv :=
  ⟨(grownBy_cell (p := ⟨t, 2, none⟩) hg h.lt hne).trans h.c2, (grownBy_cell (p := ⟨t, 4, none⟩) hg h.lt hne).trans h.c4, (grownBy_frozen (p := ⟨t, 2, none⟩) hg h.lt hne).trans h.f2, (grownBy_frozen (p := ⟨t, 4, none⟩) hg h.lt hne).trans h.f4, Nat.lt_of_lt_of_le h.lt hg.size⟩
theorem TF.after {w W w5 : World} {t : Nat} {rv bv : Value} (h : TF w t rv bv) {bs : Nat} {xs : List Value} (hb : Own w bs 1 bv xs) (hap : ∀ q, rv.ownBlock = some q → bv.ownBlock ≠ some q) (hne : some t ≠ rv.ownBlock) (hg : W.grownBy w5 rv.ownBlock) (hx : Ext w W) : TF w5 t rv bv ∧ Own w5 bs 1 bv xs ∧ W.heap.size ≤ w5.heap.size ∧ w.heap.size ≤ W.heap.size :=
  ⟨(h.ext hx).grown hg hne, (hb.ext hx).keep hg (by cases hbo : bv.ownBlock with | none => exact .inl rfl | some q => exact .inr (fun e => hap q e.symm hbo)), hg.size, hx.size⟩
/-- A slice that begins at its block's begin. -/
def Off0 (v : Value) : Prop := ∀ g off n c, v = .slice (some ⟨g, off, none⟩) n c → off = 0
theorem Off0.nil : Off0 (.slice none 0 0) := fun g off n c h => by simp at h
theorem Off0.ofRow {w : World} {base size n : Nat} {e : TypeId} {v : Value} {xs : List Value} (h : w.ownsRow base e size v n xs) : Off0 v := by
  obtain ⟨_, ⟨rfl, _⟩ | ⟨g, cap, cur, rfl, _⟩⟩ := h
  · exact Off0.nil
  · intro g' off n' c' h; simp at h; omega
/-- APPEND, with where the slice begins. -/
theorem wpList_append_Off {P : Program} (w : World) {ops : Array Oper} {rest : List Oper} {o : Oper} {a : Act} {Q : Exit → Act → World → Prop}
    (hg : o.guard = none) (s x : Operand) (t : TypeId) (hop : o.op = Op.call { callee := Callee.builtin Builtin.append, args := #[s, x], argTypes := #[t, t] })
    (e : TypeId) (i : TypeInfo) (z : Value) (size bytes : Nat) (h1 : P.underlying t = some (.slice e)) (h2 : P.info? e = some i) (h3 : i.zero = some z) (h4 : i.size = size) (h5 : i.bytes = bytes) (h6 : z.cells.size = size) (h7 : 0 < size)
    (base : Nat) (v : Value) (xs : List Value) (hs : a.eval s = v) (hown : Own w base size v xs) (hbase : base ≤ w.heap.size)
    (ad : Addr) (m c : Nat) (news : List Value) (hx : a.eval x = .slice (some ad) m c) (hn : news.length = m * size) (hc : ∀ j u, news[j]? = some u → w.cell? (ad.add j) = some u) (h1c : ∀ u ∈ news, u.oneCell' = true)
    (b1 : xs.length + news.length ≤ maxLen) (b2 : (xs.length + news.length) * bytes ≤ 140737488355328)
    (hK : ∀ v' w', Own w' base size v' (xs ++ news) → w.grownBy w' v.ownBlock → (∀ k, v'.ownBlock = some k → v.ownBlock = some k ∨ w.heap.size ≤ k) → (Off0 v → Off0 v') → wpList P ops Q rest (a.put o.dst v') w') :
    wpList P ops Q (o :: rest) a w := by
  obtain ⟨n, hl, ⟨rfl, rfl⟩ | ⟨g, off, cap, rfl, hb, hlt, hnc, hcm, hcc, hxx⟩⟩ := hown
  · have hxs : xs = [] := by simpa using hl
    subst hxs
    have hmm : m ≤ news.length := by rw [hn]; exact Nat.le_mul_of_pos_right _ h7
    have hb2 : (0 + m) * bytes ≤ 140737488355328 := Nat.le_trans (Nat.mul_le_mul_right _ (by simp only [List.length_nil]; omega)) b2
    refine wpList_append_own w hg s x t hop w.heap.size e i z size bytes h1 h2 h3 h4 h5 h6 h7 _ 0 [] hs (World.ownsRow_nil _ _ _ _) ad m c news hx hn hc h1c (by simp only [List.length_nil] at b1; omega) hb2 (Nat.le_refl _) ?_
    intro v' w' hown' hgrow _
    refine hK v' w' ((Own.ofRow hown').rebase hbase) (by simpa [Value.ownBlock] using hgrow) (fun k hk => .inr (hown'.lt k hk).1) (fun _ => Off0.ofRow hown')
  · have hsz : n ≤ xs.length := by rw [hl]; exact Nat.le_mul_of_pos_right _ h7
    have hmm : m ≤ news.length := by rw [hn]; exact Nat.le_mul_of_pos_right _ h7
    have hb2 : (n + m) * bytes ≤ 140737488355328 := Nat.le_trans (Nat.mul_le_mul_right _ (by omega)) b2
    refine wpList_append_arg w hg s x t hop e i z size bytes h1 h2 h3 h4 h5 h6 h7 g off n cap xs hs hl (fun j u hu => ?_) ad m c news hx hn hc h1c (fun hr j hj => ?_) (by omega) hb2 (fun hr => ?_) (fun hr v' w' hown' hgrow => ?_)
    · have hj := (List.getElem?_eq_some_iff.1 hu).1
      rw [hxx j (by omega), hu]
    · have hj2 : n * size + j < cap * size := by
        have : (n + m) * size ≤ cap * size := Nat.mul_le_mul_right _ hr
        rw [Nat.add_mul] at this
        omega
      have := hcc (n * size + j) hj2
      rw [Nat.add_assoc]
      exact this
    · have hnews : ∀ j, j < news.length → n * size + j < cap * size := fun j hj => by
        have : (n + m) * size ≤ cap * size := Nat.mul_le_mul_right _ hr
        rw [Nat.add_mul] at this
        omega
      refine hK _ _ ⟨n + m, by rw [List.length_append, hl, hn, Nat.add_mul], .inr ⟨g, off, cap, rfl, hb, by rw [setCells_size]; exact hlt, hr, hcm, fun j hj => ⟨?_, ?_⟩, fun j hj => ?_⟩⟩ (grownBy_setCells _ _ _ _) (fun k hk => .inl hk) (fun h0 => by have := h0 _ _ _ _ rfl; subst this; intro g' off' n' c' h; simp at h; omega)
      · exact isSome_setCells' _ _ _ _ _ (hcc j hj).1
      · rw [World.frozen?_setCells]; exact (hcc j hj).2
      · by_cases hjl : j < n * size
        · rw [World.cell?_setCells_out _ _ _ _ _ (fun _ _ => .inl (by simp; omega)), hxx j hjl, List.getElem?_append_left (by omega)]
        · have hj' : j - n * size < news.length := by
            rw [Nat.add_mul] at hj
            omega
          have e := World.cell?_setCells_in g news (off + n * size) w (fun i hi => by rw [Nat.add_assoc]; exact (hcc _ (hnews i hi)).1) (j - n * size) hj'
          rw [show off + j = off + n * size + (j - n * size) by omega, e, List.getElem?_append_right (by omega), hl, List.getElem?_eq_getElem hj']
    · exact hK v' w' ((Own.ofRow hown').rebase hbase) (grownBy_wider hgrow _) (fun k hk => .inr (hown'.lt k hk).1) (fun _ => Off0.ofRow hown')
theorem step_append_Off {P : Program} (w : World) {ops : Array Oper} {o : Oper} {a : Act} {K : Act → World → Prop} {Q : Exit → Act → World → Prop} {E : Prop}
    (hg : o.guard = none) (s x : Operand) (t : TypeId) (hop : o.op = Op.call { callee := Callee.builtin Builtin.append, args := #[s, x], argTypes := #[t, t] })
    (e : TypeId) (i : TypeInfo) (z : Value) (size bytes : Nat) (h1 : P.underlying t = some (.slice e)) (h2 : P.info? e = some i) (h3 : i.zero = some z) (h4 : i.size = size) (h5 : i.bytes = bytes) (h6 : z.cells.size = size) (h7 : 0 < size)
    (base : Nat) (v : Value) (xs : List Value) (hs : a.eval s = v) (hown : Own w base size v xs) (hbase : base ≤ w.heap.size)
    (ad : Addr) (m c : Nat) (news : List Value) (hx : a.eval x = .slice (some ad) m c) (hn : news.length = m * size) (hc : ∀ j u, news[j]? = some u → w.cell? (ad.add j) = some u) (h1c : ∀ u ∈ news, u.oneCell' = true)
    (b1 : xs.length + news.length ≤ maxLen) (b2 : (xs.length + news.length) * bytes ≤ 140737488355328)
    (hK : ∀ v' w', Own w' base size v' (xs ++ news) → w.grownBy w' v.ownBlock → (∀ k, v'.ownBlock = some k → v.ownBlock = some k ∨ w.heap.size ≤ k) → (Off0 v → Off0 v') → K (a.put o.dst v') w') :
    if Region.wanted o (yielded ops a.tmps) = true then Oper.wp P o a w K Q else E := by
  rw [if_pos (by simp [Region.wanted, hg])]
  refine wp_of_list (ops := ops) hg ?_
  refine wpList_append_Off w hg s x t hop e i z size bytes h1 h2 h3 h4 h5 h6 h7 base v xs hs hown hbase ad m c news hx hn hc h1c b1 b2 ?_
  intro v' w' g1 g2 g3 g4
  exact ⟨rfl, hK v' w' g1 g2 g3 g4⟩
/-- Rows in blocks of their own. -/
structure Grid (w : World) (base n k : Nat) (rb : Nat → Nat) (M : Nat → Nat → Value) : Prop where
  low : ∀ i, i < k → base ≤ rb i ∧ rb i < w.heap.size
  apart : ∀ i j, i < k → j < k → i ≠ j → rb i ≠ rb j
  cell : ∀ i j, i < k → j < n → w.cell? ⟨rb i, j, none⟩ = some (M i j) ∧ w.frozen? ⟨rb i, j, none⟩ = false
theorem Grid.grown {w w' : World} {base n k : Nat} {rb : Nat → Nat} {M : Nat → Nat → Value} {row : Option Nat} (h : Grid w base n k rb M) (hg : w.grownBy w' row) (hne : ∀ i, i < k → some (rb i) ≠ row) : Grid w' base n k rb M :=
  ⟨fun i hi => ⟨(h.low i hi).1, Nat.lt_of_lt_of_le (h.low i hi).2 hg.size⟩, h.apart, fun i j hi hj => ⟨(grownBy_cell hg (h.low i hi).2 (hne i hi)).trans (h.cell i j hi hj).1, (grownBy_frozen hg (h.low i hi).2 (hne i hi)).trans (h.cell i j hi hj).2⟩⟩
theorem Grid.ext {w w' : World} {base n k : Nat} {rb : Nat → Nat} {M : Nat → Nat → Value} (h : Grid w base n k rb M) (hx : Ext w w') : Grid w' base n k rb M := h.grown (hx.grown none) (fun _ _ => by simp)
def rowVals (n : Nat) (rb : Nat → Nat) (k : Nat) : List Value := (List.range k).map (fun i => .slice (some ⟨rb i, 0, none⟩) n n)
theorem rowVals_length (n : Nat) (rb : Nat → Nat) (k : Nat) : (rowVals n rb k).length = k := by simp [rowVals]
theorem rowVals_at (n : Nat) (rb : Nat → Nat) {k i : Nat} (h : i < k) : (rowVals n rb k)[i]? = some (.slice (some ⟨rb i, 0, none⟩) n n) := by simp [rowVals, h]
theorem rowVals_snoc (n : Nat) (rb : Nat → Nat) (k b : Nat) : rowVals n rb k ++ [.slice (some ⟨b, 0, none⟩) n n] = rowVals n (fun i => if i = k then b else rb i) (k + 1) := by
  unfold rowVals
  rw [List.range_succ, List.map_append]
  congr 1
  · refine List.map_congr_left (fun i hi => ?_)
    have : i ≠ k := by have := List.mem_range.1 hi; omega
    simp [this]
  · simp
/-- A tableau under way: c claimants have a row. -/
structure Half (w : World) (t W n : Nat) (ss : List Int) (m c : Nat) (rv bv : Value) (rb : Nat → Nat) : Prop where
  size : W ≤ w.heap.size
  W2 : W = t + 2
  c0 : w.cell? ⟨t, 0, none⟩ = some (.int .i64 ss.length)
  c1 : w.cell? ⟨t, 1, none⟩ = some (.int .i64 n)
  c2 : w.cell? ⟨t, 2, none⟩ = some rv
  c3 : w.cell? ⟨t, 3, none⟩ = some (.slice (some ⟨t + 1, 0, none⟩) m m)
  c4 : w.cell? ⟨t, 4, none⟩ = some bv
  c5 : w.cell? ⟨t, 5, none⟩ = some (.int .i64 1)
  free : ∀ k, 2 ≤ k → k ≤ 5 → w.frozen? ⟨t, k, none⟩ = false
  rows : Own w W 1 rv (rowVals m rb c)
  grid : Grid w W m c rb (fun i j => .int .i64 (ith (rowOf n ss i) j))
  bas : Own w W 1 bv (ints ((List.range c).map fun q => ((ss.length + q : Nat) : Int)))
  ap1 : ∀ j, j < c → rv.ownBlock ≠ some (rb j)
  ap2 : ∀ j, j < c → bv.ownBlock ≠ some (rb j)
  ap3 : ∀ q, rv.ownBlock = some q → bv.ownBlock ≠ some q
  offR : Off0 rv
  offB : Off0 bv
theorem Half.ext {w w' : World} {t W n : Nat} {ss : List Int} {m c : Nat} {rv bv : Value} {rb : Nat → Nat} (h : Half w t W n ss m c rv bv rb) (hx : Ext w w') : Half w' t W n ss m c rv bv rb := by
  have hs := h.size
  have h2 := h.W2
  have e : ∀ o, w'.cell? ⟨t, o, none⟩ = w.cell? ⟨t, o, none⟩ := fun o => hx.cell (by show t < _; omega)
  exact ⟨Nat.le_trans hs hx.size, h.W2, (e 0).trans h.c0, (e 1).trans h.c1, (e 2).trans h.c2, (e 3).trans h.c3, (e 4).trans h.c4, (e 5).trans h.c5, fun k h1 h2' => (hx.frozen (p := ⟨t, k, none⟩) (by show t < _; omega)).trans (h.free k h1 h2'), h.rows.ext hx, h.grid.ext hx, h.bas.ext hx, h.ap1, h.ap2, h.ap3, h.offR, h.offB⟩
theorem Half.goal {w w' : World} {t W n : Nat} {ss : List Int} {m c : Nat} {rv bv : Value} {rb : Nat → Nat} (h : Half w t W n ss m c rv bv rb) (hg : w.grownBy w' (some (t + 1))) : Half w' t W n ss m c rv bv rb := by
  have hs := h.size
  have h2 := h.W2
  have e : ∀ o, w'.cell? ⟨t, o, none⟩ = w.cell? ⟨t, o, none⟩ := fun o => grownBy_cell (p := ⟨t, o, none⟩) hg (by show t < _; omega) (by simp)
  exact ⟨Nat.le_trans hs hg.size, h.W2, (e 0).trans h.c0, (e 1).trans h.c1, (e 2).trans h.c2, (e 3).trans h.c3, (e 4).trans h.c4, (e 5).trans h.c5, fun k h1 h2' => (grownBy_frozen (p := ⟨t, k, none⟩) hg (by show t < _; omega) (by simp)).trans (h.free k h1 h2'),
    h.rows.keep hg (by right; intro e2; have := (h.rows.lt _ e2).1; omega), h.grid.grown hg (fun i hi e2 => by have := (h.grid.low i hi).1; simp only [Option.some.injEq] at e2; omega), h.bas.keep hg (by right; intro e2; have := (h.bas.lt _ e2).1; omega), h.ap1, h.ap2, h.ap3, h.offR, h.offB⟩
theorem TF_block {w w' : World} {row : Option Nat} (hg : w.grownBy w' row) {b o : Nat} (hb : b < w.heap.size) (hne : some b ≠ row) : w'.cell? ⟨b, o, none⟩ = w.cell? ⟨b, o, none⟩ ∧ w'.frozen? ⟨b, o, none⟩ = w.frozen? ⟨b, o, none⟩ := ⟨grownBy_cell (p := ⟨b, o, none⟩) hg hb hne, grownBy_frozen (p := ⟨b, o, none⟩) hg hb hne⟩
/-- A row more. -/
theorem half_next {w wy wA w5 wB w6 wC : World} {t n : Nat} {ss : List Int} {m c R : Nat} {rv bv v5 v6 : Value} {rb : Nat → Nat} {lw : Int}
    (hH : Half wy t (t + 2) n ss m c rv bv rb) (hlw : lw = (ss.length : Int) + (c : Int)) (hRR : ∀ j, j < m → wy.cell? ⟨R, j, none⟩ = some (.int .i64 (ith (rowOf n ss c) j)) ∧ wy.frozen? ⟨R, j, none⟩ = false) (hRl : R < wy.heap.size) (hRt : t + 2 ≤ R)
    (hrvR : (∀ q, rv.ownBlock = some q → q < R) ∧ (∀ q, bv.ownBlock = some q → q < R) ∧ ∀ i, i < c → rb i < R) (hG : ∀ j, j < m → wy.cell? ⟨t + 1, j, none⟩ = some (.int .i64 (ith (goalOf n ss (c + 1)) j)) ∧ wy.frozen? ⟨t + 1, j, none⟩ = false)
    (hxy : Ext w wy) (hwt : w.heap.size ≤ t)
    (hA : Ext wy wA) (hg5 : wA.grownBy w5 rv.ownBlock) (hB : Ext w5 wB) (hg6 : wB.grownBy w6 bv.ownBlock) (hC : Ext w6 wC)
    (ho5 : Own w5 (t + 2) 1 v5 (rowVals m rb c ++ [.slice (some ⟨R, 0, none⟩) m m])) (hb5 : ∀ k, v5.ownBlock = some k → rv.ownBlock = some k ∨ wA.heap.size ≤ k)
    (ho6 : Own w6 (t + 2) 1 v6 (ints ((List.range c).map fun q => ((ss.length + q : Nat) : Int)) ++ [.int .i64 lw])) (hb6 : ∀ k, v6.ownBlock = some k → bv.ownBlock = some k ∨ wB.heap.size ≤ k) (f5 : Off0 v5) (f6 : Off0 v6) :
    Half ((wC.setCell ⟨t, 2, none⟩ v5).setCell ⟨t, 4, none⟩ v6) t (t + 2) n ss m (c + 1) v5 v6 (fun i => if i = c then R else rb i) ∧ Ext w ((wC.setCell ⟨t, 2, none⟩ v5).setCell ⟨t, 4, none⟩ v6) ∧
      ∀ j, j < m → ((wC.setCell ⟨t, 2, none⟩ v5).setCell ⟨t, 4, none⟩ v6).cell? ⟨t + 1, j, none⟩ = some (.int .i64 (ith (goalOf n ss (c + 1)) j)) ∧ ((wC.setCell ⟨t, 2, none⟩ v5).setCell ⟨t, 4, none⟩ v6).frozen? ⟨t + 1, j, none⟩ = false := by
  have hsy := hH.size
  have hrl := hH.rows.lt
  have hbl := hH.bas.lt
  have z1 := hA.size; have z2 := hg5.size; have z3 := hB.size; have z4 := hg6.size; have z5 := hC.size
  have key : ∀ b o, b < wy.heap.size → rv.ownBlock ≠ some b → bv.ownBlock ≠ some b → wC.cell? ⟨b, o, none⟩ = wy.cell? ⟨b, o, none⟩ ∧ wC.frozen? ⟨b, o, none⟩ = wy.frozen? ⟨b, o, none⟩ := fun b o hb h1 h2 => by
    have e1 := TF_block (hA.grown none) (o := o) hb (by simp)
    have e2 := TF_block hg5 (b := b) (o := o) (by omega) (fun e => h1 e.symm)
    have e3 := TF_block (hB.grown none) (b := b) (o := o) (by omega) (by simp)
    have e4 := TF_block hg6 (b := b) (o := o) (by omega) (fun e => h2 e.symm)
    have e5 := TF_block (hC.grown none) (b := b) (o := o) (by omega) (by simp)
    exact ⟨e5.1.trans (e4.1.trans (e3.1.trans (e2.1.trans e1.1))), e5.2.trans (e4.2.trans (e3.2.trans (e2.2.trans e1.2)))⟩
  have rlow : ∀ b, b < t + 2 → rv.ownBlock ≠ some b ∧ bv.ownBlock ≠ some b := fun b hb => ⟨fun e => by have := (hrl b e).1; omega, fun e => by have := (hbl b e).1; omega⟩
  have rR : rv.ownBlock ≠ some R ∧ bv.ownBlock ≠ some R := ⟨fun e => by have := hrvR.1 R e; omega, fun e => by have := hrvR.2.1 R e; omega⟩
  have gT : wC.grownBy ((wC.setCell ⟨t, 2, none⟩ v5).setCell ⟨t, 4, none⟩ v6) (some t) := grownBy_trans (grownBy_setCell wC ⟨t, 2, none⟩ v5) (grownBy_setCell _ ⟨t, 4, none⟩ v6)
  have hsz : ((wC.setCell ⟨t, 2, none⟩ v5).setCell ⟨t, 4, none⟩ v6).heap.size = wC.heap.size := by simp [World.setCell]
  have key2 : ∀ b o, b < wy.heap.size → rv.ownBlock ≠ some b → bv.ownBlock ≠ some b → b ≠ t → ((wC.setCell ⟨t, 2, none⟩ v5).setCell ⟨t, 4, none⟩ v6).cell? ⟨b, o, none⟩ = wy.cell? ⟨b, o, none⟩ ∧ ((wC.setCell ⟨t, 2, none⟩ v5).setCell ⟨t, 4, none⟩ v6).frozen? ⟨b, o, none⟩ = wy.frozen? ⟨b, o, none⟩ := fun b o hb h1 h2 h3 => by
    have e1 := key b o hb h1 h2
    have e2 := TF_block gT (b := b) (o := o) (by omega) (by simpa using h3)
    exact ⟨e2.1.trans e1.1, e2.2.trans e1.2⟩
  have tk := fun o => (key t o (by omega) (rlow t (by omega)).1 (rlow t (by omega)).2)
  have c2' : wC.cell? ⟨t, 2, none⟩ = some rv := (tk 2).1.trans hH.c2
  have c4' : (wC.setCell ⟨t, 2, none⟩ v5).cell? ⟨t, 4, none⟩ = some bv := by
    rw [World.cell?_setCell_other _ _ _ _ (fun e2 => by simp at e2)]; exact (tk 4).1.trans hH.c4
  have tk2 : ∀ o, o ≠ 2 → o ≠ 4 → ((wC.setCell ⟨t, 2, none⟩ v5).setCell ⟨t, 4, none⟩ v6).cell? ⟨t, o, none⟩ = wy.cell? ⟨t, o, none⟩ := fun o h2 h4 => by
    rw [World.cell?_setCell_other _ _ _ _ (fun e2 => h4 (by simp only [Addr.mk.injEq, and_true, true_and] at e2; exact e2.symm)), World.cell?_setCell_other _ _ _ _ (fun e2 => h2 (by simp only [Addr.mk.injEq, and_true, true_and] at e2; exact e2.symm))]
    exact (tk o).1
  have n5b : ∀ q, v5.ownBlock = some q → bv.ownBlock ≠ some q := fun q h5 hb => by
    rcases hb5 q h5 with h | h
    · exact hH.ap3 q h hb
    · have := (hbl q hb).2; omega
  have rbC : ∀ i, i < c + 1 → t + 2 ≤ (if i = c then R else rb i) ∧ (if i = c then R else rb i) < wy.heap.size ∧ rv.ownBlock ≠ some (if i = c then R else rb i) ∧ bv.ownBlock ≠ some (if i = c then R else rb i) := fun i hi => by
    by_cases e : i = c
    · rw [if_pos e]; exact ⟨hRt, hRl, rR.1, rR.2⟩
    · rw [if_neg e]
      have h1 := hH.grid.low i (by omega)
      exact ⟨h1.1, h1.2, hH.ap1 i (by omega), hH.ap2 i (by omega)⟩
  refine ⟨⟨by rw [hsz]; omega, rfl, (tk2 0 (by omega) (by omega)).trans hH.c0, (tk2 1 (by omega) (by omega)).trans hH.c1, ?_, (tk2 3 (by omega) (by omega)).trans hH.c3, World.cell?_setCell_same _ _ _ c4', (tk2 5 (by omega) (by omega)).trans hH.c5, fun k k1 k2 => ?_, ?_, ⟨fun i hi => ?_, fun i j hi hj hne => ?_, fun i j hi hj => ?_⟩, ?_, fun j hj => ?_, fun j hj => ?_, fun q h5 h6 => ?_, f5, f6⟩, ?_, fun j hj => ?_⟩
  · rw [World.cell?_setCell_other _ _ _ _ (fun e2 => by simp at e2)]; exact World.cell?_setCell_same _ _ _ c2'
  · rw [World.frozen?_setCell, World.frozen?_setCell]; exact (tk k).2.trans (hH.free k k1 k2)
  · rw [← rowVals_snoc]
    have a1 := (ho5.ext hB).keep hg6 (by cases hv : v5.ownBlock with | none => exact .inl rfl | some q => exact .inr (fun e => n5b q hv e.symm))
    exact (a1.ext hC).keep gT (.inr (fun e => by have := (ho5.lt t e).1; omega))
  · have := rbC i hi; rw [hsz]; exact ⟨this.1, by omega⟩
  · by_cases e : i = c
    · have ej : j ≠ c := by omega
      simp only [e, if_true, ej, if_false]
      have := hrvR.2.2 j (by omega); omega
    · by_cases ej : j = c
      · simp only [e, if_false, ej, if_true]
        have := hrvR.2.2 i (by omega); omega
      · simp only [e, if_false, ej]
        exact hH.grid.apart i j (by omega) (by omega) hne
  · have hi' := rbC i hi
    have k2 := key2 _ j hi'.2.1 hi'.2.2.1 hi'.2.2.2 (by omega)
    rw [k2.1, k2.2]
    by_cases e : i = c
    · subst e; simp only [if_true]; exact hRR j hj
    · simp only [e, if_false]; exact hH.grid.cell i j (by omega) hj
  · have e : ints ((List.range (c + 1)).map fun q => ((ss.length + q : Nat) : Int)) = ints ((List.range c).map fun q => ((ss.length + q : Nat) : Int)) ++ [.int .i64 lw] := by
      rw [List.range_succ, List.map_append, hlw]; simp [ints]
    rw [e]
    exact (ho6.ext hC).keep gT (.inr (fun e => by have := (ho6.lt t e).1; omega))
  · have hj' := rbC j hj
    intro e5
    rcases hb5 _ e5 with h | h
    · exact hj'.2.2.1 h
    · omega
  · have hj' := rbC j hj
    intro e6
    rcases hb6 _ e6 with h | h
    · exact hj'.2.2.2 h
    · omega
  · rcases hb6 q h6 with h | h
    · exact n5b q h5 h
    · have := (ho5.lt q h5).2; omega
  · have x1 : Ext w w5 := (hxy.trans hA).onto hg5 (fun k hk => by have := (hrl k hk).1; omega)
    have x2 : Ext w w6 := (x1.trans hB).onto hg6 (fun k hk => by have := (hbl k hk).1; omega)
    exact (x2.trans hC).onto gT (fun k hk => by simp only [Option.some.injEq] at hk; omega)
  · have k2 := key2 (t + 1) j (by omega) (rlow _ (by omega)).1 (rlow _ (by omega)).2 (by omega)
    rw [k2.1, k2.2]; exact hG j hj
theorem own_slice {w : World} {base : Nat} {v : Value} {xs : List Value} (h : Own w base 1 v xs) (hx : 1 ≤ xs.length) (h0 : Off0 v) : ∃ g cap, v = .slice (some ⟨g, 0, none⟩) xs.length cap ∧ base ≤ g ∧ g < w.heap.size ∧ xs.length ≤ cap ∧ cap ≤ 9223372036854775807 ∧ v.ownBlock = some g ∧
    ∀ j, j < xs.length → w.cell? ⟨g, j, none⟩ = xs[j]? ∧ w.frozen? ⟨g, j, none⟩ = false := by
  obtain ⟨n, hl, ⟨rfl, rfl⟩ | ⟨g, off, cap, rfl, hb, hlt, hnc, hcm, hcc, hxx⟩⟩ := h
  · omega
  · rw [Nat.mul_one] at hl
    subst hl
    obtain rfl := h0 _ _ _ _ rfl
    refine ⟨g, cap, rfl, hb, hlt, hnc, by unfold maxLen at hcm; omega, rfl, fun j hj => ?_⟩
    have h1 := hxx j (by omega)
    have h2 := (hcc j (by omega)).2
    rw [Nat.zero_add] at h1 h2
    exact ⟨h1, h2⟩
/-- The tableau, made. -/
theorem half_done {w : World} {t n : Nat} {ss : List Int} {m : Nat} {rv bv : Value} {rb : Nat → Nat} {B : Nat} (hH : Half w t (t + 2) n ss m n rv bv rb) (hm : m = ss.length + n + 1) (hn : 1 ≤ n)
    (hG : ∀ j, j < m → w.cell? ⟨t + 1, j, none⟩ = some (.int .i64 (ith (goalOf n ss n) j)) ∧ w.frozen? ⟨t + 1, j, none⟩ = false) (hB : B ≤ t) :
    ∃ A : Ats, A.t = t ∧ TabAt w B A (tabK n ss n) := by
  have hs := hH.size
  obtain ⟨rg, rc, hrv, r1, r2, r3, r4, r5, r6⟩ := own_slice hH.rows (by rw [rowVals_length]; exact hn) hH.offR
  obtain ⟨bg, bc, hbv, b1, b2, b3, b4, b5, b6⟩ := own_slice hH.bas (by simp [ints_length]; exact hn) hH.offB
  rw [rowVals_length] at r3 r6 hrv
  rw [ints_length, List.length_map, List.length_range] at b3 b6 hbv
  have hlen : (tabK n ss n).rows.length = n := by simp [tabK]
  have hwide : (tabK n ss n).wide = m := by rw [hm]; rfl
  have hgrid := hH.grid
  refine ⟨⟨t, rg, rc, bg, bc, t + 1, rb⟩, rfl, ⟨⟨hB, by show t < _; omega⟩, ⟨by show B ≤ rg; omega, r2⟩, ⟨by show B ≤ bg; omega, b2⟩, ⟨by show B ≤ t + 1; omega, by show t + 1 < _; omega⟩, hH.c0, hH.c1, ?_, ?_, ?_, hH.c5, hH.free, fun i hi => ?_, fun i j hi hj => ?_, fun j hj => ?_, fun i hi => ?_, fun i hi => ?_, fun i hi => ?_, fun i j hi hj hne => ?_, ?_, ?_⟩⟩
  · rw [hlen, ← hrv]; exact hH.c2
  · rw [hwide]; exact hH.c3
  · rw [hlen, ← hbv]; exact hH.c4
  · rw [hlen] at hi; rw [hwide]
    have := r6 i hi
    rw [rowVals_at _ _ hi] at this
    exact this
  · rw [hlen] at hi; rw [hwide] at hj
    have h1 := hgrid.cell i j hi hj
    have e : (tabK n ss n).ent i j = ith (rowOf n ss i) j := by simp [Tab.ent, Tab.row, tabK, hi]
    rw [e]; exact h1
  · rw [hwide] at hj; exact hG j hj
  · rw [hlen] at hi
    have := b6 i hi
    rw [ints_at _ _ (by simp; exact hi)] at this
    exact this
  · rw [hlen] at hi
    have := hgrid.low i hi
    exact ⟨by show B ≤ rb i; omega, this.2⟩
  · rw [hlen] at hi
    have h1 := hgrid.low i hi
    have h2 := hH.ap1 i hi
    have h3 := hH.ap2 i hi
    rw [r5] at h2
    rw [b5] at h3
    exact ⟨by show rb i ≠ t; omega, fun e => h2 (congrArg some (show rb i = rg from e).symm), fun e => h3 (congrArg some (show rb i = bg from e).symm), by show rb i ≠ t + 1; omega⟩
  · rw [hlen] at hi hj
    exact hgrid.apart i j hi hj hne
  · have h3 := hH.ap3 rg r5
    rw [b5] at h3
    exact ⟨by show t ≠ rg; omega, by show t ≠ bg; omega, by show t ≠ t + 1; omega, fun e => h3 (congrArg some (show rg = bg from e).symm), by show rg ≠ t + 1; omega, by show bg ≠ t + 1; omega⟩
  · rw [hlen]; exact ⟨r3, r4, b3, b4⟩
end Go.Proofs.Ytcngecibljgndaa

/- A load may be taken first, as long as nothing that can come before it writes its cell. -/
namespace Go.Proofs.Ytcngecibljgndaa
open Go.RowKit

section
variable {P : Program} {ops : Array Oper} {Q : Exit → Act → World → Prop} {md : Region.Mode} {S : World → Prop}
/-- Operation j leaves a world as S says. -/
def Keeps (P : Program) (ops : Array Oper) (Q : Exit → Act → World → Prop) (S : World → Prop) (j : Nat) : Prop := ∀ (K : Act → World → Prop) (a : Act) (w : World), S w → wpOp P ops Q j K a w → wpOp P ops Q j (fun a' w' => S w' ∧ K a' w') a w
/-- What an operation's run may leave. -/
def Calm (S : World → Prop) : Result Next → Prop
  | .ok (.value _) w => S w
  | .ok _ _ => False
  | .halt _ _ => True
theorem keeps_of {j : Nat} {oj : Oper} (hj : ops[j]? = some oj) (h : ∀ (a : Act) (w : World), S w → Calm S ((execOp a.eval oj).run P w)) : Keeps P ops Q S j := by
  intro K a w hS hw
  unfold wpOp at *
  simp only [hj] at *
  split
  · rename_i hwant
    simp only [hwant, if_true] at hw
    rcases hw with hw | hw
    · refine .inl ?_
      have hc := h a w hS
      unfold Oper.wp at *
      generalize (execOp a.eval oj).run P w = r at *
      cases r with
      | ok n w' =>
        cases n with
        | value v => exact ⟨hc, hw⟩
        | _ => exact (hc : False).elim
      | halt x w' => cases x <;> exact hw
    · exact .inr hw
  · rename_i hwant
    simp only [hwant] at hw
    exact ⟨hS, hw⟩
theorem listed_of {listed : Array Bool} {e : Nat} (h0 : listed.getD e true = false) (h1 : listed.getD e false = true) : False := by
  rcases Nat.lt_or_ge e listed.size with h' | h'
  · simp [h'] at h0 h1; rw [h0] at h1; cases h1
  · simp [Array.getElem?_eq_none h'] at h1
theorem wpAny_held {i : Nat} {oi : Oper} {v : Value} (B : List Nat) (hi : ops[i]? = some oi) (hsel : ∀ (j : Nat) (o : Oper) cs b, ops[j]? = some o → o.op ≠ .select cs b)
    (hQ : ∀ c a w, Q (.panic c) (a.put oi.dst v) w → Q (.panic c) a w)
    (hB : ∀ k ∈ B, ∀ ok, ops[k]? = some ok → ∃ e ∈ ok.after, Region.binds md e = true ∧ (e.on = i ∨ e.on ∈ B)) :
    ∀ (fuel : Nat) (listed : Array Bool) (a : Act) (w : World),
      (∀ j oj, ops[j]? = some oj → j ≠ i → listed.getD j true = false → (∀ e ∈ oj.after, Region.binds md e = true → e.on ≠ i) → oi.apart ops oj = true) →
      (∀ j, j ≠ i → j ∉ B → listed.getD j true = false → Keeps P ops Q S j) →
      i ∈ Region.ready md ops listed → (∀ k ∈ B, listed.getD k true = false) → YieldsIf P ops S oi v a → S w →
      wpAny P md ops Q fuel (listed.setIfInBounds i true) (a.put oi.dst v) w → wpAny P md ops Q (fuel + 1) listed a w := by
  intro fuel
  induction fuel with
  | zero =>
    intro listed a w _ _ hr _ hy hS H
    refine ⟨fun h => (by rw [h] at hr; cases hr), fun j hj => ?_⟩
    by_cases hji : j = i
    · subst hji; exact hy.wpOp hi hS H
    · have := ready_mono hj hji
      rw [H.1] at this
      cases this
  | succ fuel ih =>
    intro listed a w hfree hkeep hr hBu hy hS H
    refine ⟨fun h => (by rw [h] at hr; cases hr), fun j hj => ?_⟩
    by_cases hji : j = i
    · subst hji; exact hy.wpOp hi hS H
    · have h1 := H.2 j (ready_mono hj hji)
      obtain ⟨hjun, oj, hoj, hall⟩ := mem_ready.1 hj
      have hir := (mem_ready.1 hr).1
      have hnot : ∀ e ∈ oj.after, Region.binds md e = true → e.on ≠ i := fun e he hb heq => by
        have h1 := hall e he hb
        rw [heq] at h1
        exact listed_of hir h1
      have hjB : j ∉ B := fun hjB => by
        obtain ⟨e, he, hb, h | h⟩ := hB j hjB oj hoj
        · exact hnot e he hb h
        · exact listed_of (hBu e.on h) (hall e he hb)
      have h2 := wpOp_putIf hoj (hfree j oj hoj hji hjun hnot) (fun cs b => hsel i oi cs b hi) (fun cs b => hsel j oj cs b hoj) hQ hy h1
      have h4 := hkeep j hji hjB hjun _ _ _ hS h2
      have hun : ∀ k, (listed.setIfInBounds j true).getD k true = false → listed.getD k true = false := fun k hk => by
        by_cases hjk : j = k
        · subst hjk; exact hjun
        · rw [getD_set_ne true hjk] at hk; exact hk
      refine wpOp_mono (fun a' w' h3 => ih (listed.setIfInBounds j true) a' w' (fun k ok hk hki hk2 hno => hfree k ok hk hki (hun k hk2) hno) (fun k h1 h2 h3 => hkeep k h1 h2 (hun k h3)) (ready_mono hr (Ne.symm hji))
        (fun k hk => by rw [getD_set_ne true (fun e => hjB (by rw [e]; exact hk))]; exact hBu k hk) h3.2.1 h3.1 ?_) h4
      rw [Array.setIfInBounds_comm _ _ hji]
      exact h3.2.2
/-- The side conditions as Bools. -/
def waitsB (md : Region.Mode) (ops : Array Oper) (i : Nat) (B : List Nat) : Bool := B.all fun k => match ops[k]? with | some ok => ok.after.any fun e => Region.binds md e && (e.on == i || B.contains e.on) | none => true
theorem waitsB_spec {i : Nat} {B : List Nat} (h : waitsB md ops i B = true) : ∀ k ∈ B, ∀ ok, ops[k]? = some ok → ∃ e ∈ ok.after, Region.binds md e = true ∧ (e.on = i ∨ e.on ∈ B) := by
  intro k hk ok hok
  unfold waitsB at h
  rw [List.all_eq_true] at h
  have h1 := h k hk
  simp only [hok] at h1
  obtain ⟨e, he, hb⟩ := Array.any_eq_true'.1 h1
  simp only [Bool.and_eq_true, Bool.or_eq_true, beq_iff_eq, List.contains_iff_mem] at hb
  exact ⟨e, he, hb.1, hb.2⟩
def unB (listed : Array Bool) (B : List Nat) : Bool := B.all fun k => !listed.getD k true
theorem unB_spec {listed : Array Bool} {B : List Nat} (h : unB listed B = true) : ∀ k ∈ B, listed.getD k true = false := by
  intro k hk
  unfold unB at h
  rw [List.all_eq_true] at h
  simpa using h k hk
/-- Those that have not come up, but for i and those that wait for it. -/
def restB (listed : Array Bool) (i : Nat) (B R : List Nat) : Bool := (List.range listed.size).all fun j => listed.getD j true || j == i || B.contains j || R.contains j
theorem restB_spec {listed : Array Bool} {i : Nat} {B R : List Nat} (h : restB listed i B R = true) : ∀ j, j ≠ i → j ∉ B → listed.getD j true = false → j ∈ R := by
  intro j h1 h2 h3
  unfold restB at h
  rw [List.all_eq_true] at h
  rcases Nat.lt_or_ge j listed.size with h' | h'
  · have h4 := h j (List.mem_range.2 h')
    simp only [h3, Bool.false_or, Bool.or_eq_true, beq_iff_eq, List.contains_iff_mem] at h4
    rcases h4 with (h4 | h4) | h4
    · exact absurd h4 h1
    · exact absurd h4 h2
    · exact h4
  · simp [Array.getElem?_eq_none h'] at h3
theorem wpAny_take_held {i : Nat} {oi : Oper} {v : Value} {fuel : Nat} {listed : Array Bool} {a : Act} {w : World} (S : World → Prop) (B R : List Nat) (hi : ops[i]? = some oi)
    (hs : Region.noSelect ops = true) (hf : Region.free md ops listed i = true) (hr : (Region.ready md ops listed).contains i = true)
    (hQ : ∀ c a w, Q (.panic c) (a.put oi.dst v) w → Q (.panic c) a w) (hB : waitsB md ops i B = true) (hU : unB listed B = true) (hR : restB listed i B R = true)
    (hk : ∀ j ∈ R, Keeps P ops Q S j) (hy : YieldsIf P ops S oi v a) (hS : S w)
    (h : wpAny P md ops Q fuel (listed.setIfInBounds i true) (a.put oi.dst v) w) : wpAny P md ops Q (fuel + 1) listed a w :=
  wpAny_held B hi (Region.noSelect_spec hs) hQ (waitsB_spec hB) fuel listed a w (Region.free_spec hi hf) (fun j h1 h2 h3 => hk j (restB_spec hR j h1 h2 h3)) (by simpa using hr) (unB_spec hU) hy hS h
/-- A load leaves the world as it was. -/
theorem calm_load {o : Oper} {t : TypeId} {x : Operand} (ho : o.op = .load t x) (hA : ∀ w, (isAgg t).run P w = .ok false w) (ev : Operand → Value) (w : World) (hS : S w) : Calm S ((execOp ev o).run P w) := by
  unfold execOp
  rw [ho]
  simp only [Instr.loadAt]
  generalize ev x = y
  cases y with
  | pointer p =>
    cases p with
    | none => simp [Instr.sureAddr, Sem.run_bind, Calm, stuck, Sem.run, Result.andThen]
    | some p =>
      simp only [Instr.sureAddr, loadVar, Sem.run_bind, Sem.run_pure, Result.andThen, hA]
      simp only [Bool.false_eq_true, if_false, load, Sem.run]
      cases w.cell? p with
      | some u => simp [Calm, hS]
      | none =>
        simp only []
        generalize w.farLoad P p _ = r
        cases r with
        | ok q => simp [Calm, hS]
        | error e => simp [Calm]
  | _ => simp [Instr.sureAddr, Sem.run_bind, Calm, stuck, Sem.run, Result.andThen]
/-- A slice of one cell is laid behind the others. -/
theorem calm_build {o : Oper} {t e : TypeId} {x : Operand} {z : Value} (ho : o.op = .buildSlice t 1 #[(0, x)]) (hu : ∀ w, (underlying t).run P w = .ok (.slice e) w) (hs : ∀ w, (sizeOf e).run P w = .ok 1 w) (hz : ∀ w, (zeroValue e).run P w = .ok z w)
    (hal : ∀ w ob, S w → S (w.alloc ob)) (ev : Operand → Value) (w : World) (hS : S w) : Calm S ((execOp ev o).run P w) := by
  unfold execOp
  rw [ho]
  simp only [Instr.buildSlice, Sem.run_bind, hu, Result.andThen, hs]
  simp only [Nat.mul_one, show ¬ (1 > 2 ^ 24) by decide, if_false, Sem.run_bind, Sem.run_pure, Result.andThen, show ¬ (1 = 0) by decide, hz]
  generalize Instr.fill (fun i => some (i, 1)) (Array.map (fun x => z.cells[x % z.cells.size]!) (Array.range 1)) (Array.map (fun x => (x.fst, ev x.snd)) #[(0, x)]).toList = r
  cases r with
  | none => simp [Calm, stuck]
  | some c =>
    simp only [Sem.run_bind, newRow, run_newObj_alloc, Sem.run_pure, Result.andThen, Calm]
    exact hal _ _ hS
end
end Go.Proofs.Ytcngecibljgndaa
