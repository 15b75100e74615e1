/- An append at a step of a region that draws its order. -/
import Derived.Test.YtmmjjfjbhogfgaaOwn
namespace Go.Proofs.Ytmmjjfjbhogfgaa
open Go.RowKit

theorem wp_of_list {P : Program} {ops : Array Oper} {o : Oper} {a : Act} {w : World} {K : Act → World → Prop} {Q : Exit → Act → World → Prop} (hg : o.guard = none)
    (h : wpList P ops (fun e a' w' => e = .normal ∧ K a' w') [o] a w) : Oper.wp P o a w K Q := by
  simp only [wpList] at h
  rw [if_pos (by simp [Region.wanted, hg])] at h
  rcases h with h | ⟨_, _, _, h, _⟩
  · unfold Oper.wp at h ⊢
    generalize (execOp a.eval o).run P w = r at *
    cases r with
    | ok n w' =>
      cases n with
      | value v => exact h.2
      | skip => exact h.2
      | defer d => exact h.2
      | enter f args =>
        refine Calls.mono h ?_
        intro e w'' he
        cases e with
        | returned v => exact he.2
        | panicked c => cases he.1
        | outgrown => obtain ⟨_, _, he, _⟩ := he; cases he
      | row r args => exact Rows.mono h fun _ _ he => he.2
      | _ => exact h
    | halt x w' =>
      cases x with
      | panic v => cases h.1
      | _ => exact h
  · cases h
/-- APPEND, at such a step. -/
theorem step_append_Own {P : Program} (w : World) {ops : Array Oper} {o : Oper} {a : Act} {K : Act → World → Prop} {Q : Exit → Act → World → Prop} {E : Prop}
    (hg : o.guard = none) (s x : Operand) (t : TypeId) (hop : o.op = Op.call { callee := Callee.builtin Builtin.append, args := #[s, x], argTypes := #[t, t] })
    (e : TypeId) (i : TypeInfo) (z : Value) (size bytes : Nat) (h1 : P.underlying t = some (.slice e)) (h2 : P.info? e = some i) (h3 : i.zero = some z) (h4 : i.size = size) (h5 : i.bytes = bytes) (h6 : z.cells.size = size) (h7 : 0 < size)
    (base : Nat) (v : Value) (xs : List Value) (hs : a.eval s = v) (hown : Own w base size v xs) (hbase : base ≤ w.heap.size)
    (ad : Addr) (m c : Nat) (news : List Value) (hx : a.eval x = .slice (some ad) m c) (hn : news.length = m * size) (hc : ∀ j u, news[j]? = some u → w.cell? (ad.add j) = some u) (h1c : ∀ u ∈ news, u.oneCell' = true)
    (b1 : xs.length + news.length ≤ maxLen) (b2 : (xs.length + news.length) * bytes ≤ 140737488355328)
    (hK : ∀ v' w', Own w' base size v' (xs ++ news) → w.grownBy w' v.ownBlock → (∀ k, v'.ownBlock = some k → v.ownBlock = some k ∨ w.heap.size ≤ k) → K (a.put o.dst v') w') :
    if Region.wanted o (yielded ops a.tmps) = true then Oper.wp P o a w K Q else E := by
  rw [if_pos (by simp [Region.wanted, hg])]
  refine wp_of_list (ops := ops) hg ?_
  refine wpList_append_Own w hg s x t hop e i z size bytes h1 h2 h3 h4 h5 h6 h7 base v xs hs hown hbase ad m c news hx hn hc h1c b1 b2 ?_
  intro v' w' g1 g2 g3
  exact ⟨rfl, hK v' w' g1 g2 g3⟩

/-- Nothing is appended. -/
theorem run_append_nil {P : Program} (w : World) (t ty e : TypeId) (i : TypeInfo) (ht : P.underlying t = some (.slice e)) (hi : P.info? e = some i) (base : Option Addr) (n cap c : Nat) (hn : n ≤ cap) :
    (Builtin.append_ #[t, t] ty #[.slice base n cap, .slice none 0 c]).run P w = .ok (.slice base n cap) w := by
  cases base <;> simp [Builtin.append_, run_underlying ht, sizeOf, typeInfo, hi, Builtin.lenOf, Builtin.firstCells, hn, storeCells]
theorem wp_append_nil {P : Program} (w : World) {o : Oper} {a : Act} {K : Act → World → Prop} {Q : Exit → Act → World → Prop} (s x : Operand) (t : TypeId) (ho : o.op = .call { callee := .builtin .append, args := #[s, x], argTypes := #[t, t] })
    (e : TypeId) (i : TypeInfo) (ht : P.underlying t = some (.slice e)) (hi : P.info? e = some i) (base : Option Addr) (n cap c : Nat) (hs : a.eval s = .slice base n cap) (hn : n ≤ cap) (hx : a.eval x = .slice none 0 c)
    (h : K (a.put o.dst (.slice base n cap)) w) : o.wp P a w K Q := by
  have hr := run_append_nil (P := P) w t o.type e i ht hi base n cap c hn
  unfold Oper.wp execOp
  simp only [ho, resolve, invoke, builtin, Sem.run_bind, Sem.run_pure, Result.andThen_ok, List.map_toArray, List.map_cons, List.map_nil, hs, hx, hr]
  exact h

/-- The cells of legs, one after another. -/
def legCells (L : List Leg) : List Value := L.flatMap (fun l => [.int .i64 l.From, .int .i64 l.To, .int .i64 l.Dep, .int .i64 l.Arr, .int .i64 l.Line])
theorem legCells_length (L : List Leg) : (legCells L).length = L.length * 5 := by
  induction L with
  | nil => rfl
  | cons a r ih => simp only [legCells, List.flatMap_cons, List.length_append, List.length_cons, List.length_nil] at ih ⊢; omega
theorem legCells_append (L M : List Leg) : legCells L ++ legCells M = legCells (L ++ M) := by simp [legCells]
theorem legCells_at : ∀ (L : List Leg) (k : Nat), k < L.length → (legCells L)[k * 5]? = some (.int .i64 (leg L k).From) ∧ (legCells L)[k * 5 + 1]? = some (.int .i64 (leg L k).To) ∧ (legCells L)[k * 5 + 2]? = some (.int .i64 (leg L k).Dep) ∧
    (legCells L)[k * 5 + 3]? = some (.int .i64 (leg L k).Arr) ∧ (legCells L)[k * 5 + 4]? = some (.int .i64 (leg L k).Line)
  | [], k, h => by simp at h
  | a :: r, 0, _ => by simp [legCells, leg]
  | a :: r, k + 1, h => by
    have := legCells_at r k (by simpa using h)
    have e : ∀ j, (legCells (a :: r))[(k + 1) * 5 + j]? = (legCells r)[k * 5 + j]? := by
      intro j
      have : (k + 1) * 5 + j = k * 5 + j + 5 := by omega
      rw [this]
      simp [legCells]
    have e0 := e 0
    simp only [Nat.add_zero] at e0
    rw [e0, e 1, e 2, e 3, e 4]
    simpa [leg] using this
theorem addr_add (b off j : Nat) : Addr.add ⟨b, off, none⟩ j = ⟨b, off + j, none⟩ := by
  simp only [Addr.add]
  split
  · rename_i h; subst h; rfl
  · rfl
theorem LegsIn.news {w : World} {b off : Nat} {L : List Leg} (h : LegsIn w (some ⟨b, off, none⟩) L) : ∀ (j : Nat) (u : Value), (legCells L)[j]? = some u → w.cell? (Addr.add ⟨b, off, none⟩ j) = some u := by
  intro j u hu
  have hj := (List.getElem?_eq_some_iff.1 hu).1
  rw [legCells_length] at hj
  obtain ⟨k, i, hi, rfl⟩ : ∃ k i, i < 5 ∧ j = k * 5 + i := ⟨j / 5, j % 5, by omega, by omega⟩
  have hk : k < L.length := by omega
  obtain ⟨b', off', e, _, h0, h1, h2, h3, h4⟩ := h k hk
  simp only [Option.some.injEq, Addr.mk.injEq, and_true] at e
  obtain ⟨rfl, rfl⟩ := e
  obtain ⟨g0, g1, g2, g3, g4⟩ := legCells_at L k hk
  rw [addr_add, ← Nat.add_assoc]
  match i, hi with
  | 0, _ => rw [Nat.add_zero] at hu ⊢; rw [g0] at hu; rw [h0]; exact hu
  | 1, _ => rw [g1] at hu; rw [h1]; exact hu
  | 2, _ => rw [g2] at hu; rw [h2]; exact hu
  | 3, _ => rw [g3] at hu; rw [h3]; exact hu
  | 4, _ => rw [g4] at hu; rw [h4]; exact hu
/-- A slice of no legs or of some. -/
theorem LegsIn.some_or {w : World} {ao : Option Addr} {L : List Leg} (h : LegsIn w ao L) : L = [] ∨ ∃ b off, ao = some ⟨b, off, none⟩ := by
  cases L with
  | nil => exact .inl rfl
  | cons a r =>
    obtain ⟨b, off, e, _⟩ := h 0 (by simp)
    exact .inr ⟨b, off, e⟩
theorem Own.hollow (w : World) (base H size : Nat) (hb : base ≤ H) (hlt : H < w.heap.size) : Own w base size (.slice (some ⟨H, 0, none⟩) 0 0) [] :=
  ⟨0, by simp, .inr ⟨H, 0, 0, rfl, hb, hlt, Nat.le_refl _, by unfold maxLen; omega, fun j hj => by omega, fun j hj => by omega⟩⟩
theorem Own.shapeCap {w : World} {base size : Nat} {v : Value} {xs : List Value} (h : Own w base size v xs) : ∃ o n c, v = .slice o n c ∧ n ≤ c := by
  obtain ⟨n, _, ⟨rfl, rfl⟩ | ⟨g, off, cap, rfl, _, _, hnc, _⟩⟩ := h
  · exact ⟨none, 0, 0, rfl, Nat.le_refl _⟩
  · exact ⟨_, n, cap, rfl, hnc⟩
theorem legCells_one (L : List Leg) : ∀ u ∈ legCells L, u.oneCell' = true := by
  intro u hu
  simp only [legCells, List.mem_flatMap, List.mem_cons, List.not_mem_nil, or_false] at hu
  obtain ⟨l, _, rfl | rfl | rfl | rfl | rfl⟩ := hu <;> rfl
theorem Own.legsShape {w : World} {base : Nat} {v : Value} {L : List Leg} (h : Own w base 5 v (legCells L)) : ∃ ao cap, v = .slice ao L.length cap ∧ LegsIn w ao L := by
  have hl := legCells_length L
  rcases h.shape (by omega) with ⟨rfl, hx⟩ | ⟨g, off, cap, rfl, hb, hlt, _, _⟩
  · have : L = [] := by
      cases L with
      | nil => rfl
      | cons a r => simp [legCells] at hx
    subst this
    exact ⟨none, 0, rfl, fun k hk => by simp at hk⟩
  · refine ⟨some ⟨g, off, none⟩, cap, by rw [hl]; simp, fun k hk => ?_⟩
    obtain ⟨g0, g1, g2, g3, g4⟩ := legCells_at L k hk
    have hc : ∀ j, j < 5 → w.cell? ⟨g, off + k * 5 + j, none⟩ = (legCells L)[k * 5 + j]? := by
      intro j hj
      have := (h.cellAt (k * 5 + j) (by omega)).1
      rw [← this, Nat.add_assoc]
    have hc0 := hc 0 (by omega)
    rw [Nat.add_zero, Nat.add_zero] at hc0
    exact ⟨g, off, rfl, hlt, hc0.trans g0, (hc 1 (by omega)).trans g1, (hc 2 (by omega)).trans g2, (hc 3 (by omega)).trans g3, (hc 4 (by omega)).trans g4⟩

/-- APPEND of legs that lie somewhere (nothing too), at a step of a region that draws. -/
theorem step_append_legs {P : Program} (w : World) {ops : Array Oper} {o : Oper} {a : Act} {K : Act → World → Prop} {Q : Exit → Act → World → Prop} {E : Prop}
    (hg : o.guard = none) (s x : Operand) (t : TypeId) (hop : o.op = Op.call { callee := Callee.builtin Builtin.append, args := #[s, x], argTypes := #[t, t] })
    (e : TypeId) (i : TypeInfo) (z : Value) (h1 : P.underlying t = some (.slice e)) (h2 : P.info? e = some i) (h3 : i.zero = some z) (h4 : i.size = 5) (h5 : i.bytes = 40) (h6 : z.cells.size = 5)
    (base : Nat) (v : Value) (M : List Leg) (hs : a.eval s = v) (hown : Own w base 5 v (legCells M)) (hbase : base ≤ w.heap.size)
    (ao : Option Addr) (c : Nat) (L : List Leg) (hx : a.eval x = .slice ao L.length c) (hL : LegsIn w ao L) (hM : M.length ≤ 1000) (hLl : L.length ≤ 1000)
    (hK : ∀ v' w', Own w' base 5 v' (legCells (M ++ L)) → w.grownBy w' v.ownBlock → (∀ k, v'.ownBlock = some k → v.ownBlock = some k ∨ w.heap.size ≤ k) → K (a.put o.dst v') w') :
    if Region.wanted o (yielded ops a.tmps) = true then Oper.wp P o a w K Q else E := by
  have hM5 := legCells_length M
  have hL5 := legCells_length L
  rcases hL.some_or with rfl | ⟨b, off, rfl⟩
  · cases ao with
    | none =>
      rw [if_pos (by simp [Region.wanted, hg])]
      obtain ⟨bo, n, cap, rfl, hnc⟩ := hown.shapeCap
      refine wp_append_nil w s x t hop e i h1 h2 bo n cap c hs hnc hx (hK _ w (by simpa [legCells] using hown) ⟨rfl, rfl, rfl, Nat.le_refl _, fun _ _ _ => rfl⟩ (fun k hk => .inl hk))
    | some ad =>
      refine step_append_Own w hg s x t hop e i z 5 40 h1 h2 h3 h4 h5 h6 (by omega) base v (legCells M) hs hown hbase ad 0 c [] hx (by simp) (fun j u hu => by simp at hu) (fun u hu => by simp at hu) (by simp; unfold maxLen; omega) (by simp; omega) ?_
      intro v' w' g1 g2 g3
      exact hK v' w' (by simpa [legCells] using g1) g2 g3
  · refine step_append_Own w hg s x t hop e i z 5 40 h1 h2 h3 h4 h5 h6 (by omega) base v (legCells M) hs hown hbase ⟨b, off, none⟩ L.length c (legCells L) hx hL5 hL.news (legCells_one L) (by unfold maxLen; omega) (by omega) ?_
    intro v' w' g1 g2 g3
    rw [legCells_append] at g1
    exact hK v' w' g1 g2 g3
/-- The same in a plain region. -/
theorem wpList_append_legs {P : Program} (w : World) {ops : Array Oper} {rest : List Oper} {o : Oper} {a : Act} {Q : Exit → Act → World → Prop}
    (hg : o.guard = none) (s x : Operand) (t : TypeId) (hop : o.op = Op.call { callee := Callee.builtin Builtin.append, args := #[s, x], argTypes := #[t, t] })
    (e : TypeId) (i : TypeInfo) (z : Value) (h1 : P.underlying t = some (.slice e)) (h2 : P.info? e = some i) (h3 : i.zero = some z) (h4 : i.size = 5) (h5 : i.bytes = 40) (h6 : z.cells.size = 5)
    (base : Nat) (v : Value) (M : List Leg) (hs : a.eval s = v) (hown : Own w base 5 v (legCells M)) (hbase : base ≤ w.heap.size)
    (ao : Option Addr) (c : Nat) (L : List Leg) (hx : a.eval x = .slice ao L.length c) (hL : LegsIn w ao L) (hM : M.length ≤ 1000) (hLl : L.length ≤ 1000)
    (hK : ∀ v' w', Own w' base 5 v' (legCells (M ++ L)) → w.grownBy w' v.ownBlock → (∀ k, v'.ownBlock = some k → v.ownBlock = some k ∨ w.heap.size ≤ k) → wpList P ops Q rest (a.put o.dst v') w') : wpList P ops Q (o :: rest) a w := by
  have := step_append_legs (ops := ops) (E := False) w hg s x t hop e i z h1 h2 h3 h4 h5 h6 base v M hs hown hbase ao c L hx hL hM hLl (K := wpList P ops Q rest) (Q := Q) hK
  rw [if_pos (by simp [Region.wanted, hg])] at this
  rw [wpList, if_pos (by simp [Region.wanted, hg])]
  exact .inl this
end Go.Proofs.Ytmmjjfjbhogfgaa
