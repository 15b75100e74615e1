/- ready, of all tableaus: a row struck anywhere, a row negated; in memory. -/
import Derived.Test.YtcngecibljgndaaLB
import Derived.Test.YtcngecibljgndaaMQN
namespace Go.Proofs.Ytcngecibljgndaa
open Go.RowKit Go.Shelf Go.Sort

/-- A slice without one of its elements. -/
def DropG (w : World) (g n c i : Nat) (e : Ending) (w' : World) : Prop := e = .returned (.slice (some ⟨g, 0, none⟩) (n - 1) c) ∧ w.grownBy w' (some g) ∧ ∀ q, q + 1 < n → w'.cell? ⟨g, q, none⟩ = w.cell? ⟨g, skip i q, none⟩ ∧ w'.frozen? ⟨g, q, none⟩ = w.frozen? ⟨g, q, none⟩
theorem dropG_of {α : Type} [Inhabited α] (enc : α → Value) (w : World) (g n c i q : Nat) (d : Array α) (x : α) (hn : d.size = n) (hi : i < n) (hH : Holds enc w g 0 d) :
    DropG w g n c i (.returned (.slice (some ⟨g, 0, none⟩) (d.size - (i + 1 - i)) c)) (putRow enc (Sort.ahead w q) g 0 (d.toList.take i ++ d.toList.drop (i + 1) ++ List.replicate (i + 1 - i) x).toArray) := by
  have hsz : (d.toList.take i ++ d.toList.drop (i + 1) ++ List.replicate (i + 1 - i) x).toArray.size = d.size := by simp; omega
  have hH2 : Holds enc (Sort.ahead w q) g 0 d := hH
  refine ⟨by rw [hn]; congr 2; omega, ⟨rfl, rfl, rfl, by simp, fun k _ hk => ?_⟩, fun k hk => ⟨?_, by rw [frozen?_putRow]; rfl⟩⟩
  · have hne : ¬ g = k := fun e => hk (by rw [e])
    unfold putRow mapBlock
    simp [Array.getElem?_modify, hne]
  · have h3 := cell?_putRow enc (Sort.ahead w q) g 0 d _ hH2 hsz k (by rw [hsz, hn]; omega)
    have hsk : skip i k < n := by unfold skip; split <;> omega
    have h4 := (hH (skip i k) (by omega)).1
    rw [Nat.zero_add] at h3 h4
    rw [h3, h4]
    congr 2
    rw [getElem!_pos _ k (by rw [hsz, hn]; omega), getElem!_pos d (skip i k) (by omega)]
    simp only [List.getElem_toArray]
    rw [List.getElem_append_left (by simp; omega)]
    unfold skip
    by_cases h : k < i
    · rw [List.getElem_append_left (by simp; omega)]
      simp [h]
    · rw [List.getElem_append_right (by simp; omega)]
      simp only [List.getElem_drop, List.length_take, Array.length_toList]
      simp only [Array.getElem_toList, h, if_false]
      congr 1
      omega
theorem delRows_gen (w : World) (g n c m i : Nat) (rb : Nat → Nat) (hc : ∀ q, q < n → w.cell? ⟨g, q, none⟩ = some (.slice (some ⟨rb q, 0, none⟩) m m) ∧ w.frozen? ⟨g, q, none⟩ = false) (hin : i < n) (hnc : n ≤ c) (hcm : c ≤ 9223372036854775807) :
    Calls Try.prog 105 #[.slice (some ⟨g, 0, none⟩) n c, .int .i64 i, .int .i64 ((i + 1 : Nat) : Int)] w (DropG w g n c i) := by
  obtain ⟨i0, hi, hz0, hz1, hz2⟩ := info_parts info_row
  have hsz : ((List.range n).map (fun q => some (rb q))).toArray.size = n := by simp
  have hH : Holds (encR m) w g 0 ((List.range n).map (fun q => some (rb q))).toArray := by
    intro j hj
    rw [hsz] at hj
    have := hc j hj
    rw [Nat.zero_add]
    refine ⟨?_, this.2⟩
    rw [this.1, getElem!_pos _ j (by rw [hsz]; exact hj)]
    simp [encR]
  have := AnyE.slices_Delete delRows (encR m) (by intro x; cases x <;> rfl) none (fun w => Try.zeroValue22 w) i0 hi hz1 g 0 c i (i + 1) ((List.range n).map (fun q => some (rb q))).toArray w hH (by rw [hsz]; exact hnc) (by omega) (by omega) (by rw [hsz]; omega)
  rw [hsz] at this
  refine Calls.mono this ?_
  rintro e w' ⟨rfl, q, rfl⟩
  have h := dropG_of (encR m) w g n c i q _ none hsz hin hH
  rw [hsz] at h
  exact h
theorem delInts_gen (w : World) (g n c i : Nat) (xs : List Int) (hl : xs.length = n) (hc : ∀ q, q < n → w.cell? ⟨g, q, none⟩ = some (.int .i64 (ith xs q)) ∧ w.frozen? ⟨g, q, none⟩ = false) (hin : i < n) (hnc : n ≤ c) (hcm : c ≤ 9223372036854775807) :
    Calls Try.prog 106 #[.slice (some ⟨g, 0, none⟩) n c, .int .i64 i, .int .i64 ((i + 1 : Nat) : Int)] w (DropG w g n c i) := by
  obtain ⟨i0, hi, hz0, hz1, hz2⟩ := info_parts info_int
  have hsz : xs.toArray.size = n := by simp [hl]
  have hH : Holds (Value.int .i64) w g 0 xs.toArray := by
    intro j hj
    rw [hsz] at hj
    have := hc j hj
    rw [Nat.zero_add]
    refine ⟨?_, this.2⟩
    rw [this.1, getElem!_pos _ j (by rw [hsz]; exact hj)]
    simp [ith, hl, hj]
  have := AnyE.slices_Delete delInts (Value.int .i64) (by intro x; rfl) 0 (fun w => Try.zeroValue3 w) i0 hi hz1 g 0 c i (i + 1) xs.toArray w hH (by rw [hsz]; exact hnc) (by omega) (by omega) (by rw [hsz]; omega)
  rw [hsz] at this
  refine Calls.mono this ?_
  rintro e w' ⟨rfl, q, rfl⟩
  have h := dropG_of (Value.int .i64) w g n c i q _ 0 hsz hin hH
  rw [hsz] at h
  exact h
def dropI (T : Tab) (i : Nat) : Tab := { T with rows := (List.range (T.rows.length - 1)).map fun q => T.row (skip i q), basis := (List.range (T.rows.length - 1)).map fun q => ith T.basis (skip i q) }
theorem dropI_len (T : Tab) (i : Nat) : (dropI T i).rows.length = T.rows.length - 1 := by simp [dropI]
theorem dropI_row (T : Tab) (i q : Nat) (h : q + 1 < T.rows.length) : (dropI T i).row q = T.row (skip i q) := by
  have : q < T.rows.length - 1 := by omega
  simp only [dropI]
  show ((List.range (T.rows.length - 1)).map fun q => T.row (skip i q)).getD q [] = _
  simp [this]
theorem dropI_bas (T : Tab) (i q : Nat) (h : q + 1 < T.rows.length) : ith (dropI T i).basis q = ith T.basis (skip i q) := by
  show ith ((List.range (T.rows.length - 1)).map fun q => ith T.basis (skip i q)) q = _
  exact ith_map_range' _ _ _ (by omega)
theorem TabAt.strike {w w' : World} {B : Nat} {A : Ats} {T : Tab} (h : TabAt w B A T) {i : Nat} (hi : i < T.rows.length) (hs : w.heap.size ≤ w'.heap.size)
    (hc : ∀ b o, b < w.heap.size → b ≠ A.rg → b ≠ A.bg → b ≠ A.t → w'.cell? ⟨b, o, none⟩ = w.cell? ⟨b, o, none⟩ ∧ w'.frozen? ⟨b, o, none⟩ = w.frozen? ⟨b, o, none⟩)
    (hr : ∀ q, q + 1 < T.rows.length → w'.cell? ⟨A.rg, q, none⟩ = w.cell? ⟨A.rg, skip i q, none⟩ ∧ w'.frozen? ⟨A.rg, q, none⟩ = w.frozen? ⟨A.rg, q, none⟩)
    (hg : ∀ q, q + 1 < T.rows.length → w'.cell? ⟨A.bg, q, none⟩ = w.cell? ⟨A.bg, skip i q, none⟩ ∧ w'.frozen? ⟨A.bg, q, none⟩ = w.frozen? ⟨A.bg, q, none⟩)
    (ht : ∀ o, o ≠ 2 → o ≠ 4 → w'.cell? ⟨A.t, o, none⟩ = w.cell? ⟨A.t, o, none⟩) (hf : ∀ o, w'.frozen? ⟨A.t, o, none⟩ = w.frozen? ⟨A.t, o, none⟩)
    (h2 : w'.cell? ⟨A.t, 2, none⟩ = some (.slice (some ⟨A.rg, 0, none⟩) (T.rows.length - 1) A.rc)) (h4 : w'.cell? ⟨A.t, 4, none⟩ = some (.slice (some ⟨A.bg, 0, none⟩) (T.rows.length - 1) A.bc)) : TabAt w' B { A with rb := fun q => A.rb (skip i q) } (dropI T i) := by
  have t2 := h.tIn.2
  have r2 := h.rgIn.2
  have b2 := h.bgIn.2
  have g2 := h.gbIn.2
  have hlen := dropI_len T i
  have hw : (dropI T i).wide = T.wide := rfl
  have ng : A.gb ≠ A.rg ∧ A.gb ≠ A.bg ∧ A.gb ≠ A.t := ⟨fun e => h.ap.2.2.2.2.1 e.symm, fun e => h.ap.2.2.2.2.2 e.symm, fun e => h.ap.2.2.1 e.symm⟩
  have sk : ∀ q, q < T.rows.length - 1 → skip i q < T.rows.length := fun q hq => by unfold skip; split <;> omega
  refine ⟨⟨h.tIn.1, by simp only []; omega⟩, ⟨h.rgIn.1, by simp only []; omega⟩, ⟨h.bgIn.1, by simp only []; omega⟩, ⟨h.gbIn.1, by simp only []; omega⟩, (ht 0 (by omega) (by omega)).trans h.c0, (ht 1 (by omega) (by omega)).trans h.c1, by rw [hlen]; exact h2, (ht 3 (by omega) (by omega)).trans h.c3, by rw [hlen]; exact h4, (ht 5 (by omega) (by omega)).trans h.c5,
    fun k k1 k2 => (hf k).trans (h.free k k1 k2), fun q hq => ?_, fun q j hq hj => ?_, fun j hj => ?_, fun q hq => ?_, fun q hq => ?_, fun q hq => ?_, fun q j hq hj hne => ?_, h.ap, by rw [hlen]; have := h.caps; exact ⟨by simp only []; omega, this.2.1, by simp only []; omega, this.2.2.2⟩⟩
  all_goals try rw [hlen] at hq
  · exact ⟨(hr q (by omega)).1.trans (h.rowC _ (sk q hq)).1, (hr q (by omega)).2.trans (h.rowC q (by omega)).2⟩
  · have hx := h.rbNe _ (sk q hq)
    have e : (dropI T i).ent q j = T.ent (skip i q) j := by simp only [Tab.ent, dropI_row T i q (by omega)]
    rw [e]
    have := hc (A.rb (skip i q)) j (h.rbIn _ (sk q hq)).2 hx.2.1 hx.2.2.1 hx.1
    exact ⟨this.1.trans (h.entC _ j (sk q hq) hj).1, this.2.trans (h.entC _ j (sk q hq) hj).2⟩
  · have := hc A.gb j g2 ng.1 ng.2.1 ng.2.2
    exact ⟨this.1.trans (h.goalC j hj).1, this.2.trans (h.goalC j hj).2⟩
  · rw [dropI_bas T i q (by omega)]
    exact ⟨(hg q (by omega)).1.trans (h.basC _ (sk q hq)).1, (hg q (by omega)).2.trans (h.basC q (by omega)).2⟩
  · exact ⟨(h.rbIn _ (sk q hq)).1, Nat.lt_of_lt_of_le (h.rbIn _ (sk q hq)).2 hs⟩
  · exact h.rbNe _ (sk q hq)
  · rw [hlen] at hj; exact h.rbAp _ _ (sk q hq) (sk j hj) (fun e => hne (skip_inj e))
theorem TabAt.struck {w4 wR wB : World} {B : Nat} {A : Ats} {T : Tab} (h : TabAt w4 B A T) {i : Nat} (hi : i < T.rows.length) (hgR : w4.drew.grownBy wR (some A.rg)) (hgB : wR.grownBy wB (some A.bg))
    (hcR : ∀ q, q + 1 < T.rows.length → wR.cell? ⟨A.rg, q, none⟩ = w4.drew.cell? ⟨A.rg, skip i q, none⟩ ∧ wR.frozen? ⟨A.rg, q, none⟩ = w4.drew.frozen? ⟨A.rg, q, none⟩)
    (hcB : ∀ q, q + 1 < T.rows.length → wB.cell? ⟨A.bg, q, none⟩ = wR.cell? ⟨A.bg, skip i q, none⟩ ∧ wB.frozen? ⟨A.bg, q, none⟩ = wR.frozen? ⟨A.bg, q, none⟩) :
    TabAt ((wB.setCell ⟨A.t, 2, none⟩ (.slice (some ⟨A.rg, 0, none⟩) (T.rows.length - 1) A.rc)).setCell ⟨A.t, 4, none⟩ (.slice (some ⟨A.bg, 0, none⟩) (T.rows.length - 1) A.bc)) B { A with rb := fun q => A.rb (skip i q) } (dropI T i) := by
  have s1 : w4.heap.size ≤ wR.heap.size := hgR.size
  have s2 := hgB.size
  have t2 := h.tIn.2
  have r2 := h.rgIn.2
  have b2 := h.bgIn.2
  have n1 := h.ap
  have eR : ∀ b o, b < w4.heap.size → b ≠ A.rg → wR.cell? ⟨b, o, none⟩ = w4.cell? ⟨b, o, none⟩ ∧ wR.frozen? ⟨b, o, none⟩ = w4.frozen? ⟨b, o, none⟩ := fun b o hb hn =>
    ⟨(grownBy_cell (p := ⟨b, o, none⟩) hgR hb (fun e => hn (by simpa using e))), (grownBy_frozen (p := ⟨b, o, none⟩) hgR hb (fun e => hn (by simpa using e)))⟩
  have eB : ∀ b o, b < w4.heap.size → b ≠ A.bg → wB.cell? ⟨b, o, none⟩ = wR.cell? ⟨b, o, none⟩ ∧ wB.frozen? ⟨b, o, none⟩ = wR.frozen? ⟨b, o, none⟩ := fun b o hb hn =>
    ⟨(grownBy_cell (p := ⟨b, o, none⟩) hgB (Nat.lt_of_lt_of_le hb s1) (fun e => hn (by simpa using e))), (grownBy_frozen (p := ⟨b, o, none⟩) hgB (Nat.lt_of_lt_of_le hb s1) (fun e => hn (by simpa using e)))⟩
  generalize hv2 : (Value.slice (some ⟨A.rg, 0, none⟩) (T.rows.length - 1) A.rc) = v2
  generalize hv4 : (Value.slice (some ⟨A.bg, 0, none⟩) (T.rows.length - 1) A.bc) = v4
  have eF : ∀ b o, b ≠ A.t → ((wB.setCell ⟨A.t, 2, none⟩ v2).setCell ⟨A.t, 4, none⟩ v4).cell? ⟨b, o, none⟩ = wB.cell? ⟨b, o, none⟩ := fun b o hn => by
    rw [World.cell?_setCell_other _ _ _ _ (fun e => hn (by simp only [Addr.mk.injEq] at e; exact e.1.symm)), World.cell?_setCell_other _ _ _ _ (fun e => hn (by simp only [Addr.mk.injEq] at e; exact e.1.symm))]
  have eZ : ∀ b o, ((wB.setCell ⟨A.t, 2, none⟩ v2).setCell ⟨A.t, 4, none⟩ v4).frozen? ⟨b, o, none⟩ = wB.frozen? ⟨b, o, none⟩ := fun b o => by rw [World.frozen?_setCell, World.frozen?_setCell]
  have eT : ∀ o, wB.cell? ⟨A.t, o, none⟩ = w4.cell? ⟨A.t, o, none⟩ := fun o => (eB _ o t2 n1.2.1).1.trans (eR _ o t2 n1.1).1
  refine h.strike hi (by rw [size_set, size_set]; omega) (fun b o hb1 h1 h2 h3 => ⟨(eF b o h3).trans ((eB b o hb1 h2).1.trans (eR b o hb1 h1).1), (eZ b o).trans ((eB b o hb1 h2).2.trans (eR b o hb1 h1).2)⟩)
    (fun q hq => ⟨(eF _ q (fun e => n1.1 e.symm)).trans ((eB _ q r2 n1.2.2.2.1).1.trans (hcR q hq).1), (eZ _ q).trans ((eB _ q r2 n1.2.2.2.1).2.trans (hcR q hq).2)⟩)
    (fun q hq => ⟨(eF _ q (fun e => n1.2.1 e.symm)).trans ((hcB q hq).1.trans (eR _ (skip i q) b2 (fun e => n1.2.2.2.1 e.symm)).1), (eZ _ q).trans ((hcB q hq).2.trans (eR _ q b2 (fun e => n1.2.2.2.1 e.symm)).2)⟩)
    (fun o h1 h2 => ?_) (fun o => (eZ _ o).trans ((eB _ o t2 n1.2.1).2.trans (eR _ o t2 n1.1).2)) ?_ ?_
  · rw [World.cell?_setCell_other _ _ _ _ (fun e => h2 (by simp only [Addr.mk.injEq, and_true, true_and] at e; exact e.symm)), World.cell?_setCell_other _ _ _ _ (fun e => h1 (by simp only [Addr.mk.injEq, and_true, true_and] at e; exact e.symm))]
    exact eT o
  · rw [World.cell?_setCell_other _ _ _ _ (by simp), hv2]
    exact World.cell?_setCell_same _ _ _ ((eT 2).trans h.c2)
  · rw [hv4]
    exact World.cell?_setCell_same _ _ _ (by rw [World.cell?_setCell_other _ _ _ _ (by simp)]; exact (eT 4).trans h.c4)
/-- A row of which the first entries are negated. -/
def negTo (T : Tab) (i k : Nat) : Tab := { T with rows := (List.range T.rows.length).map fun q => if q = i then (List.range (T.row i).length).map fun j => if j < k then - T.ent i j else T.ent i j else T.row q }
theorem negTo_len (T : Tab) (i k : Nat) : (negTo T i k).rows.length = T.rows.length := by simp [negTo]
theorem negTo_row (T : Tab) (i k q : Nat) (hq : q < T.rows.length) : (negTo T i k).row q = if q = i then (List.range (T.row i).length).map (fun j => if j < k then - T.ent i j else T.ent i j) else T.row q := by
  show ((List.range T.rows.length).map fun q => if q = i then (List.range (T.row i).length).map fun j => if j < k then - T.ent i j else T.ent i j else T.row q).getD q [] = _
  simp [hq]
theorem negTo_ent (T : Tab) (i k j : Nat) (hi : i < T.rows.length) (hj : j < (T.row i).length) : (negTo T i k).ent i j = if j < k then - T.ent i j else T.ent i j := by
  show ith ((negTo T i k).row i) j = _
  rw [negTo_row _ _ _ _ hi, if_pos rfl]
  exact ith_map_range' _ _ _ hj
theorem list_eq_range' (xs : List Int) : xs = (List.range xs.length).map fun i => ith xs i := by
  apply List.ext_getElem
  · simp
  · intro i h1 h2; simp [ith, h1]
theorem negTo_zero (T : Tab) (i : Nat) : negTo T i 0 = T := by
  have : ((List.range T.rows.length).map fun q => if q = i then (List.range (T.row i).length).map fun j => if j < 0 then - T.ent i j else T.ent i j else T.row q) = T.rows := by
    refine List.ext_getElem (by simp) (fun q h1 h2 => ?_)
    simp only [List.getElem_map, List.getElem_range]
    have e : T.row q = T.rows[q] := by simp [Tab.row, h2]
    by_cases hq : q = i
    · subst hq
      rw [if_pos rfl, ← e]
      have e2 := list_eq_range' (T.row q)
      rw [e2]
      simp [Tab.ent]
    · rw [if_neg hq, e]
  unfold negTo
  rw [this]
theorem negTo_one (T : Tab) (i k : Nat) : OneRow (negTo T i k) (negTo T i (k + 1)) i := by
  refine ⟨rfl, rfl, rfl, rfl, rfl, by rw [negTo_len, negTo_len], fun q hq hne => ?_⟩
  rw [negTo_len] at hq
  rw [negTo_row _ _ _ _ hq, negTo_row _ _ _ _ hq, if_neg hne, if_neg hne]
def negP (T : Tab) (i : Nat) : Tab := negTo T i T.wide
theorem negTo_small {T : Tab} (h : T.Sm) {i : Nat} (hi : i < T.rows.length) (k : Nat) : (negTo T i k).Sm := by
  have hw : (negTo T i k).wide = T.wide := rfl
  refine ⟨by rw [negTo_len]; exact h.one, by rw [negTo_len]; exact h.many, h.sets, h.n, by rw [negTo_len]; exact h.bas, h.den0, h.den, fun q hq => ?_, h.goal, fun q hq => h.basIn q (by rw [negTo_len] at hq; exact hq)⟩
  rw [negTo_len] at hq
  rw [negTo_row _ _ _ _ hq, hw]
  by_cases e : q = i
  · subst e
    rw [if_pos rfl]
    have hr := h.row q hq
    refine ⟨by simp [hr.len], fun j hj => ?_⟩
    rw [ith_map_range' _ _ _ (by rw [hr.len]; exact hj)]
    have := hr.ent j hj
    have e2 : T.ent q j = ith (T.row q) j := rfl
    split <;> rw [e2] <;> omega
  · rw [if_neg e]; exact h.row q hq
end Go.Proofs.Ytcngecibljgndaa
