/- ready, of all tableaus: a row struck anywhere, a row negated; in memory. -/
import Derived.Test.YtcngecibljgndaaMLA
import Derived.Test.YtcngecibljgndaaMQN
namespace Go.Proofs.Ytcngecibljgndaa
open Go.RowKit Go.Shelf Go.Sort

/-- A slice without one of its elements. -/
def DropG (w : World) (g n c i : Nat) (e : Ending) (w' : World) : Prop := e = .returned (.slice (some ⟨g, 0, none⟩) (n - 1) c) ∧ w.grownBy w' (some g) ∧ ∀ q, q + 1 < n → w'.cell? ⟨g, q, none⟩ = w.cell? ⟨g, skip i q, none⟩ ∧ w'.frozen? ⟨g, q, none⟩ = w.frozen? ⟨g, q, none⟩
theorem dropG_of {α : Type} [Inhabited α] (enc : α → Value) (w : World) (g n c i q : Nat) (d : Array α) (x : α) (hn : d.size = n) (hi : i < n) (hH : Holds enc w g 0 d) :
    DropG w g n c i (.returned (.slice (some ⟨g, 0, none⟩) (d.size - (i + 1 - i)) c)) (putRow enc (Sort.ahead w q) g 0 (d.toList.take i ++ d.toList.drop (i + 1) ++ List.replicate (i + 1 - i) x).toArray) := by
  have hsz : (d.toList.take i ++ d.toList.drop (i + 1) ++ List.replicate (i + 1 - i) x).toArray.size = d.size := by simp; omega
  have hH2 : Holds enc (Sort.ahead w q) g 0 d := hH
  refine ⟨by rw [hn]; congr 2; omega, ⟨rfl, rfl, rfl, by simp, fun k _ hk => ?_⟩, fun k hk => ⟨?_, by rw [frozen?_putRow]; rfl⟩⟩
  · have hne : ¬ g = k := fun e => hk (by rw [e])
    unfold putRow mapBlock
    simp [Array.getElem?_modify, hne]
  · have h3 := cell?_putRow enc (Sort.ahead w q) g 0 d _ hH2 hsz k (by rw [hsz, hn]; omega)
    have hsk : skip i k < n := by unfold skip; split <;> omega
    have h4 := (hH (skip i k) (by omega)).1
    rw [Nat.zero_add] at h3 h4
    rw [h3, h4]
    congr 2
    rw [getElem!_pos _ k (by rw [hsz, hn]; omega), getElem!_pos d (skip i k) (by omega)]
    simp only [List.getElem_toArray]
    rw [List.getElem_append_left (by simp; omega)]
    unfold skip
    by_cases h : k < i
    · rw [List.getElem_append_left (by simp; omega)]
      simp [h]
    · rw [List.getElem_append_right (by simp; omega)]
      simp only [List.getElem_drop, List.length_take, Array.length_toList]
      simp only [Array.getElem_toList, h, if_false]
      congr 1
      omega
theorem delRows_gen (w : World) (g n c m i : Nat) (rb : Nat → Nat) (hc : ∀ q, q < n → w.cell? ⟨g, q, none⟩ = some (.slice (some ⟨rb q, 0, none⟩) m m) ∧ w.frozen? ⟨g, q, none⟩ = false) (hin : i < n) (hnc : n ≤ c) (hcm : c ≤ 9223372036854775807) :
    Calls Try.prog 105 #[.slice (some ⟨g, 0, none⟩) n c, .int .i64 i, .int .i64 ((i + 1 : Nat) : Int)] w (DropG w g n c i) := by
  obtain ⟨i0, hi, hz0, hz1, hz2⟩ := info_parts info_row
  have hsz : ((List.range n).map (fun q => some (rb q))).toArray.size = n := by simp
  have hH : Holds (encR m) w g 0 ((List.range n).map (fun q => some (rb q))).toArray := by
    intro j hj
    rw [hsz] at hj
    have := hc j hj
    rw [Nat.zero_add]
    refine ⟨?_, this.2⟩
    rw [this.1, getElem!_pos _ j (by rw [hsz]; exact hj)]
    simp [encR]
  have := AnyE.slices_Delete delRows (encR m) (by intro x; cases x <;> rfl) none (fun w => Try.zeroValue22 w) i0 hi hz1 g 0 c i (i + 1) ((List.range n).map (fun q => some (rb q))).toArray w hH (by rw [hsz]; exact hnc) (by omega) (by omega) (by rw [hsz]; omega)
  rw [hsz] at this
  refine Calls.mono this ?_
  rintro e w' ⟨rfl, q, rfl⟩
  have h := dropG_of (encR m) w g n c i q _ none hsz hin hH
  rw [hsz] at h
  exact h
theorem delInts_gen (w : World) (g n c i : Nat) (xs : List Int) (hl : xs.length = n) (hc : ∀ q, q < n → w.cell? ⟨g, q, none⟩ = some (.int .i64 (ith xs q)) ∧ w.frozen? ⟨g, q, none⟩ = false) (hin : i < n) (hnc : n ≤ c) (hcm : c ≤ 9223372036854775807) :
    Calls Try.prog 106 #[.slice (some ⟨g, 0, none⟩) n c, .int .i64 i, .int .i64 ((i + 1 : Nat) : Int)] w (DropG w g n c i) := by
  obtain ⟨i0, hi, hz0, hz1, hz2⟩ := info_parts info_int
  have hsz : xs.toArray.size = n := by simp [hl]
  have hH : Holds (Value.int .i64) w g 0 xs.toArray := by
    intro j hj
    rw [hsz] at hj
    have := hc j hj
    rw [Nat.zero_add]
    refine ⟨?_, this.2⟩
    rw [this.1, getElem!_pos _ j (by rw [hsz]; exact hj)]
    simp [ith, hl, hj]
  have := AnyE.slices_Delete delInts (Value.int .i64) (by intro x; rfl) 0 (fun w => Try.zeroValue3 w) i0 hi hz1 g 0 c i (i + 1) xs.toArray w hH (by rw [hsz]; exact hnc) (by omega) (by omega) (by rw [hsz]; omega)
  rw [hsz] at this
  refine Calls.mono this ?_
  rintro e w' ⟨rfl, q, rfl⟩
  have h := dropG_of (Value.int .i64) w g n c i q _ 0 hsz hin hH
  rw [hsz] at h
  exact h
def dropI (T : Tab) (i : Nat) : Tab := { T with rows := (List.range (T.rows.length - 1)).map fun q => T.row (skip i q), basis := (List.range (T.rows.length - 1)).map fun q => ith T.basis (skip i q) }
theorem dropI_len (T : Tab) (i : Nat) : (dropI T i).rows.length = T.rows.length - 1 := by simp [dropI]
theorem dropI_row (T : Tab) (i q : Nat) (h : q + 1 < T.rows.length) : (dropI T i).row q = T.row (skip i q) := by
  have : q < T.rows.length - 1 := by omega
  simp only [dropI]
  show ((List.range (T.rows.length - 1)).map fun q => T.row (skip i q)).getD q [] = _
  simp [this]
theorem dropI_bas (T : Tab) (i q : Nat) (h : q + 1 < T.rows.length) : ith (dropI T i).basis q = ith T.basis (skip i q) := by
  show ith ((List.range (T.rows.length - 1)).map fun q => ith T.basis (skip i q)) q = _
  exact ith_map_range' _ _ _ (by omega)
theorem TabAt.strike {w w' : World} {B : Nat} {A : Ats} {T : Tab} (h : TabAt w B A T) {i : Nat} (hi : i < T.rows.length) (hs : w.heap.size ≤ w'.heap.size)
    (hc : ∀ b o, b < w.heap.size → b ≠ A.rg → b ≠ A.bg → b ≠ A.t → w'.cell? ⟨b, o, none⟩ = w.cell? ⟨b, o, none⟩ ∧ w'.frozen? ⟨b, o, none⟩ = w.frozen? ⟨b, o, none⟩)
    (hr : ∀ q, q + 1 < T.rows.length → w'.cell? ⟨A.rg, q, none⟩ = w.cell? ⟨A.rg, skip i q, none⟩ ∧ w'.frozen? ⟨A.rg, q, none⟩ = w.frozen? ⟨A.rg, q, none⟩)
    (hg : ∀ q, q + 1 < T.rows.length → w'.cell? ⟨A.bg, q, none⟩ = w.cell? ⟨A.bg, skip i q, none⟩ ∧ w'.frozen? ⟨A.bg, q, none⟩ = w.frozen? ⟨A.bg, q, none⟩)
    (ht : ∀ o, o ≠ 2 → o ≠ 4 → w'.cell? ⟨A.t, o, none⟩ = w.cell? ⟨A.t, o, none⟩) (hf : ∀ o, w'.frozen? ⟨A.t, o, none⟩ = w.frozen? ⟨A.t, o, none⟩)
    (h2 : w'.cell? ⟨A.t, 2, none⟩ = some (.slice (some ⟨A.rg, 0, none⟩) (T.rows.length - 1) A.rc)) (h4 : w'.cell? ⟨A.t, 4, none⟩ = some (.slice (some ⟨A.bg, 0, none⟩) (T.rows.length - 1) A.bc)) : TabAt w' B { A with rb := fun q => A.rb (skip i q) } (dropI T i) := by
  have t2 := h.tIn.2
  have r2 := h.rgIn.2
  have b2 := h.bgIn.2
  have g2 := h.gbIn.2
  have hlen := dropI_len T i
  have hw : (dropI T i).wide = T.wide := rfl
  have ng : A.gb ≠ A.rg ∧ A.gb ≠ A.bg ∧ A.gb ≠ A.t := ⟨fun e => h.ap.2.2.2.2.1 e.symm, fun e => h.ap.2.2.2.2.2 e.symm, fun e => h.ap.2.2.1 e.symm⟩
  have sk : ∀ q, q < T.rows.length - 1 → skip i q < T.rows.length := fun q hq => by unfold skip; split <;> omega
  refine ⟨⟨h.tIn.1, by simp only []; omega⟩, ⟨h.rgIn.1, by simp only []; omega⟩, ⟨h.bgIn.1, by simp only []; omega⟩, ⟨h.gbIn.1, by simp only []; omega⟩, (ht 0 (by omega) (by omega)).trans h.c0, (ht 1 (by omega) (by omega)).trans h.c1, by rw [hlen]; exact h2, (ht 3 (by omega) (by omega)).trans h.c3, by rw [hlen]; exact h4, (ht 5 (by omega) (by omega)).trans h.c5,
    fun k k1 k2 => (hf k).trans (h.free k k1 k2), fun q hq => ?_, fun q j hq hj => ?_, fun j hj => ?_, fun q hq => ?_, fun q hq => ?_, fun q hq => ?_, fun q j hq hj hne => ?_, h.ap, by rw [hlen]; have := h.caps; exact ⟨by simp only []; omega, this.2.1, by simp only []; omega, this.2.2.2⟩⟩
  all_goals try rw [hlen] at hq
  · exact ⟨(hr q (by omega)).1.trans (h.rowC _ (sk q hq)).1, (hr q (by omega)).2.trans (h.rowC q (by omega)).2⟩
  · have hx := h.rbNe _ (sk q hq)
    have e : (dropI T i).ent q j = T.ent (skip i q) j := by simp only [Tab.ent, dropI_row T i q (by omega)]
    rw [e]
    have := hc (A.rb (skip i q)) j (h.rbIn _ (sk q hq)).2 hx.2.1 hx.2.2.1 hx.1
    exact ⟨this.1.trans (h.entC _ j (sk q hq) hj).1, this.2.trans (h.entC _ j (sk q hq) hj).2⟩
  · have := hc A.gb j g2 ng.1 ng.2.1 ng.2.2
    exact ⟨this.1.trans (h.goalC j hj).1, this.2.trans (h.goalC j hj).2⟩
  · rw [dropI_bas T i q (by omega)]
    exact ⟨(hg q (by omega)).1.trans (h.basC _ (sk q hq)).1, (hg q (by omega)).2.trans (h.basC q (by omega)).2⟩
  · exact ⟨(h.rbIn _ (sk q hq)).1, Nat.lt_of_lt_of_le (h.rbIn _ (sk q hq)).2 hs⟩
  · exact h.rbNe _ (sk q hq)
  · rw [hlen] at hj; exact h.rbAp _ _ (sk q hq) (sk j hj) (fun e => hne (skip_inj e))
theorem TabAt.struck {w4 wR wB : World} {B : Nat} {A : Ats} {T : Tab} (h : TabAt w4 B A T) {i : Nat} (hi : i < T.rows.length) (hgR : w4.drew.grownBy wR (some A.rg)) (hgB : wR.grownBy wB (some A.bg))
    (hcR : ∀ q, q + 1 < T.rows.length → wR.cell? ⟨A.rg, q, none⟩ = w4.drew.cell? ⟨A.rg, skip i q, none⟩ ∧ wR.frozen? ⟨A.rg, q, none⟩ = w4.drew.frozen? ⟨A.rg, q, none⟩)
    (hcB : ∀ q, q + 1 < T.rows.length → wB.cell? ⟨A.bg, q, none⟩ = wR.cell? ⟨A.bg, skip i q, none⟩ ∧ wB.frozen? ⟨A.bg, q, none⟩ = wR.frozen? ⟨A.bg, q, none⟩) :
    TabAt ((wB.setCell ⟨A.t, 2, none⟩ (.slice (some ⟨A.rg, 0, none⟩) (T.rows.length - 1) A.rc)).setCell ⟨A.t, 4, none⟩ (.slice (some ⟨A.bg, 0, none⟩) (T.rows.length - 1) A.bc)) B { A with rb := fun q => A.rb (skip i q) } (dropI T i) := by
  have s1 : w4.heap.size ≤ wR.heap.size := hgR.size
  have s2 := hgB.size
  have t2 := h.tIn.2
  have r2 := h.rgIn.2
  have b2 := h.bgIn.2
  have n1 := h.ap
  have eR : ∀ b o, b < w4.heap.size → b ≠ A.rg → wR.cell? ⟨b, o, none⟩ = w4.cell? ⟨b, o, none⟩ ∧ wR.frozen? ⟨b, o, none⟩ = w4.frozen? ⟨b, o, none⟩ := fun b o hb hn =>
    ⟨(grownBy_cell (p := ⟨b, o, none⟩) hgR hb (fun e => hn (by simpa using e))), (grownBy_frozen (p := ⟨b, o, none⟩) hgR hb (fun e => hn (by simpa using e)))⟩
  have eB : ∀ b o, b < w4.heap.size → b ≠ A.bg → wB.cell? ⟨b, o, none⟩ = wR.cell? ⟨b, o, none⟩ ∧ wB.frozen? ⟨b, o, none⟩ = wR.frozen? ⟨b, o, none⟩ := fun b o hb hn =>
    ⟨(grownBy_cell (p := ⟨b, o, none⟩) hgB (Nat.lt_of_lt_of_le hb s1) (fun e => hn (by simpa using e))), (grownBy_frozen (p := ⟨b, o, none⟩) hgB (Nat.lt_of_lt_of_le hb s1) (fun e => hn (by simpa using e)))⟩
  generalize hv2 : (Value.slice (some ⟨A.rg, 0, none⟩) (T.rows.length - 1) A.rc) = v2
  generalize hv4 : (Value.slice (some ⟨A.bg, 0, none⟩) (T.rows.length - 1) A.bc) = v4
  have eF : ∀ b o, b ≠ A.t → ((wB.setCell ⟨A.t, 2, none⟩ v2).setCell ⟨A.t, 4, none⟩ v4).cell? ⟨b, o, none⟩ = wB.cell? ⟨b, o, none⟩ := fun b o hn => by
    rw [World.cell?_setCell_other _ _ _ _ (fun e => hn (by simp only [Addr.mk.injEq] at e; exact e.1.symm)), World.cell?_setCell_other _ _ _ _ (fun e => hn (by simp only [Addr.mk.injEq] at e; exact e.1.symm))]
  have eZ : ∀ b o, ((wB.setCell ⟨A.t, 2, none⟩ v2).setCell ⟨A.t, 4, none⟩ v4).frozen? ⟨b, o, none⟩ = wB.frozen? ⟨b, o, none⟩ := fun b o => by rw [World.frozen?_setCell, World.frozen?_setCell]
  have eT : ∀ o, wB.cell? ⟨A.t, o, none⟩ = w4.cell? ⟨A.t, o, none⟩ := fun o => (eB _ o t2 n1.2.1).1.trans (eR _ o t2 n1.1).1
  refine h.strike hi (by rw [size_set, size_set]; omega) (fun b o hb1 h1 h2 h3 => ⟨(eF b o h3).trans ((eB b o hb1 h2).1.trans (eR b o hb1 h1).1), (eZ b o).trans ((eB b o hb1 h2).2.trans (eR b o hb1 h1).2)⟩)
    (fun q hq => ⟨(eF _ q (fun e => n1.1 e.symm)).trans ((eB _ q r2 n1.2.2.2.1).1.trans (hcR q hq).1), (eZ _ q).trans ((eB _ q r2 n1.2.2.2.1).2.trans (hcR q hq).2)⟩)
    (fun q hq => ⟨(eF _ q (fun e => n1.2.1 e.symm)).trans ((hcB q hq).1.trans (eR _ (skip i q) b2 (fun e => n1.2.2.2.1 e.symm)).1), (eZ _ q).trans ((hcB q hq).2.trans (eR _ q b2 (fun e => n1.2.2.2.1 e.symm)).2)⟩)
    (fun o h1 h2 => ?_) (fun o => (eZ _ o).trans ((eB _ o t2 n1.2.1).2.trans (eR _ o t2 n1.1).2)) ?_ ?_
  · rw [World.cell?_setCell_other _ _ _ _ (fun e => h2 (by simp only [Addr.mk.injEq, and_true, true_and] at e; exact e.symm)), World.cell?_setCell_other _ _ _ _ (fun e => h1 (by simp only [Addr.mk.injEq, and_true, true_and] at e; exact e.symm))]
    exact eT o
  · rw [World.cell?_setCell_other _ _ _ _ (by simp), hv2]
    exact World.cell?_setCell_same _ _ _ ((eT 2).trans h.c2)
  · rw [hv4]
    exact World.cell?_setCell_same _ _ _ (by rw [World.cell?_setCell_other _ _ _ _ (by simp)]; exact (eT 4).trans h.c4)
/-- A row of which the first entries are negated. -/
def negTo (T : Tab) (i k : Nat) : Tab := { T with rows := (List.range T.rows.length).map fun q => if q = i then (List.range (T.row i).length).map fun j => if j < k then - T.ent i j else T.ent i j else T.row q }
theorem negTo_len (T : Tab) (i k : Nat) : (negTo T i k).rows.length = T.rows.length := by simp [negTo]
theorem negTo_row (T : Tab) (i k q : Nat) (hq : q < T.rows.length) : (negTo T i k).row q = if q = i then (List.range (T.row i).length).map (fun j => if j < k then - T.ent i j else T.ent i j) else T.row q := by
  show ((List.range T.rows.length).map fun q => if q = i then (List.range (T.row i).length).map fun j => if j < k then - T.ent i j else T.ent i j else T.row q).getD q [] = _
  simp [hq]
theorem negTo_ent (T : Tab) (i k j : Nat) (hi : i < T.rows.length) (hj : j < (T.row i).length) : (negTo T i k).ent i j = if j < k then - T.ent i j else T.ent i j := by
  show ith ((negTo T i k).row i) j = _
  rw [negTo_row _ _ _ _ hi, if_pos rfl]
  exact ith_map_range' _ _ _ hj
theorem list_eq_range' (xs : List Int) : xs = (List.range xs.length).map fun i => ith xs i := by
  apply List.ext_getElem
  · simp
  · intro i h1 h2; simp [ith, h1]
theorem negTo_zero (T : Tab) (i : Nat) : negTo T i 0 = T := by
  have : ((List.range T.rows.length).map fun q => if q = i then (List.range (T.row i).length).map fun j => if j < 0 then - T.ent i j else T.ent i j else T.row q) = T.rows := by
    refine List.ext_getElem (by simp) (fun q h1 h2 => ?_)
    simp only [List.getElem_map, List.getElem_range]
    have e : T.row q = T.rows[q] := by simp [Tab.row, h2]
    by_cases hq : q = i
    · subst hq
      rw [if_pos rfl, ← e]
      have e2 := list_eq_range' (T.row q)
      rw [e2]
      simp [Tab.ent]
    · rw [if_neg hq, e]
  unfold negTo
  rw [this]
theorem negTo_one (T : Tab) (i k : Nat) : OneRow (negTo T i k) (negTo T i (k + 1)) i := by
  refine ⟨rfl, rfl, rfl, rfl, rfl, by rw [negTo_len, negTo_len], fun q hq hne => ?_⟩
  rw [negTo_len] at hq
  rw [negTo_row _ _ _ _ hq, negTo_row _ _ _ _ hq, if_neg hne, if_neg hne]
def negP (T : Tab) (i : Nat) : Tab := negTo T i T.wide
theorem negTo_small {T : Tab} (h : T.Sm) {i : Nat} (hi : i < T.rows.length) (k : Nat) : (negTo T i k).Sm := by
  have hw : (negTo T i k).wide = T.wide := rfl
  refine ⟨by rw [negTo_len]; exact h.one, by rw [negTo_len]; exact h.many, h.sets, h.n, by rw [negTo_len]; exact h.bas, h.den0, h.den, fun q hq => ?_, h.goal, fun q hq => h.basIn q (by rw [negTo_len] at hq; exact hq)⟩
  rw [negTo_len] at hq
  rw [negTo_row _ _ _ _ hq, hw]
  by_cases e : q = i
  · subst e
    rw [if_pos rfl]
    have hr := h.row q hq
    refine ⟨by simp [hr.len], fun j hj => ?_⟩
    rw [ith_map_range' _ _ _ (by rw [hr.len]; exact hj)]
    have := hr.ent j hj
    have e2 : T.ent q j = ith (T.row q) j := rfl
    split <;> rw [e2] <;> omega
  · rw [if_neg e]; exact h.row q hq
end Go.Proofs.Ytcngecibljgndaa

/- ready, of all tableaus: the walk. -/
namespace Go.Proofs.Ytcngecibljgndaa
open Go.RowKit Go.Shelf Go.Sort

/-- ready's loop, of all tableaus. -/
def readyG : Nat → Nat → Tab → Option Tab
  | 0, _, _ => none
  | f + 1, i, T => if T.sm = true then (if i < T.rows.length then (if ith T.basis i < T.sets then readyG f (i + 1) T
      else if firstI nzB ((T.row i).take T.sets) < 0 then (if 2 ≤ T.rows.length then readyG f i (dropI T i) else none)
      else if T.ent i (firstI nzB ((T.row i).take T.sets)).toNat < 0 then readyG f (i + 1) (pivotP (negP T i) i (firstI nzB ((T.row i).take T.sets)).toNat) else readyG f (i + 1) (pivotP T i (firstI nzB ((T.row i).take T.sets)).toNat)) else some T) else none
/-- ready: none where the fuel does not do; no tableau where there are no weights. -/
def readyQ (f : Nat) (T : Tab) : Option (Option Tab) := match runP (T.sets + T.n) f T with | none => none | some T1 => if T1.sets = T.sets ∧ T1.n = T.n ∧ T1.sm = true then (if ith T1.goal (T.sets + T.n) = 0 then (readyG f 0 T1).map some else some none) else none
/-- What ready returns. -/
def ReadyG (w0 : World) (B : Nat) (A : Ats) (o : Option Tab) (e : Ending) (w' : World) : Prop :=
  (o = none ∧ e = .returned (.bool false) ∧ Ext w0 w') ∨ ∃ T rb, o = some T ∧ e = .returned (.bool true) ∧ TabAt w' B { A with rb := rb } T ∧ Ext w0 w'
set_option maxRecDepth 100000 in
set_option maxHeartbeats 4000000 in
theorem readyQ_calls (w0 w : World) (B : Nat) (A : Ats) (T0 : Tab) (o : Option Tab) (f : Nat) (hT0 : TabAt w B A T0) (hx0 : Ext w0 w) (h0 : w0.heap.size ≤ B) (hse : T0.sets ≤ 1000) (hsn : T0.n ≤ 100) (hr : readyQ f T0 = some o) :
    Calls Try.prog 67 #[.pointer (some ⟨A.t, 0, none⟩)] w (ReadyG w0 B A o) := by
  have hent := enters_nz
  have h1 := hT0.c0
  have h2 := hT0.c1
  have hw1 : IntKind.i64.wrap ((T0.sets : Int) + (T0.n : Int)) = (T0.sets : Int) + (T0.n : Int) := by rw [IntKind.wrap_i64]; omega
  unfold readyQ at hr
  cases hrun : runP (T0.sets + T0.n) f T0 with
  | none => rw [hrun] at hr; simp at hr
  | some T1 =>
    rw [hrun] at hr
    simp only [] at hr
    by_cases hcnd : T1.sets = T0.sets ∧ T1.n = T0.n ∧ T1.sm = true
    · rw [if_pos hcnd] at hr
      obtain ⟨hq1, hq2, hq3⟩ := hcnd
      have HR := Lib.hid hr
      have HRUN := Lib.hid hrun
      have HQ := Lib.hid (And.intro hq1 hq2)
      have HS1 := Lib.hid (Tab.sm_iff hq3)
      clear hr hrun hq1 hq2 hq3
      go_enter Try.func67, Try.ntmps67
      go_wp2_with fail
      go_region
      go_wp2_with fail
      have hT0d := hT0.ext ((Ext.refl w).drew)
      have hx0d := hx0.drew
      generalize w.drew = w1 at *
      clear h1 h2 hT0 hx0
      rw [show (T0.sets : Int) + (T0.n : Int) = ((T0.sets + T0.n : Nat) : Int) by simp]
      refine (run_calls w0 w1 B A T0 T1 (T0.sets + T0.n) f hT0d hx0d h0 (Nat.le_refl _) HRUN.out).mono ?_
      rintro e w2 ⟨⟨v, rfl⟩, hT2, hx2⟩
      have hlw : T0.sets + T0.n < T1.wide := by unfold Tab.wide; have := HQ.out; omega
      have h3 := hT2.c3
      have h4 := (hT2.goalC _ hlw).1
      have hg2 := hT2.gbIn.2
      have ht2 := hT2.tIn.2
      generalize hL : T0.sets + T0.n = last at *
      have HLL := Lib.hid hL
      have hlwz : (last : Int) < (T1.wide : Int) := by omega
      clear hL hw1 hT0d hx0d
      have hR1 := HR.out
      obtain ⟨gv, hgv⟩ : ∃ gv, ith T1.goal last = gv := ⟨_, rfl⟩
      rw [hgv] at h4 hR1
      clear hgv HR
      by_cases hg0 : gv = 0
      case neg =>
        rw [if_neg hg0] at hR1
        have HO := Lib.hid (Option.some.inj hR1)
        have hgb : (gv != 0) = true := by simp [hg0]
        clear hR1
        go_wp2_with fail
        go_ret
        exact .inl ⟨HO.out.symm, rfl, hx2⟩
      rw [if_pos hg0] at hR1
      cases hrg : readyG f 0 T1 with
      | none => rw [hrg] at hR1; simp at hR1
      | some T' =>
      rw [hrg] at hR1
      have HO := Lib.hid (Option.some.inj hR1)
      have HR := Lib.hid hrg
      subst hg0
      clear hR1 hrg
      go_wp2_with fail
      clear h3 h4
      go_loopg [4] f (fun q iv wr => ∃ (i : Nat) (T : Tab) (rb : Nat → Nat), iv = .int .i64 i ∧ TabAt wr B { A with rb := rb } T ∧ Ext w0 wr ∧ Hid (readyG q i T = some T') ∧ i ≤ 1000)
      case atStart => exact ⟨0, T1, A.rb, rfl, hT2, hx2, HR, by omega⟩
      case round =>
        obtain ⟨i, T, rb, rfl, hT, hx, HG, hi1000⟩ := hrel
        obtain ⟨A', hA'⟩ : ∃ A' : Ats, A' = { A with rb := rb } := ⟨_, rfl⟩
        rw [← hA'] at hT
        have hAt : A.t = A'.t := by rw [hA']
        rw [hAt]
        have HA := Lib.hid hA'
        clear hAt hA' hT2
        obtain ⟨q, rfl⟩ : ∃ q, gk = q + 1 := by
          cases gk with
          | zero => have := HG.out; simp [readyG] at this
          | succ q => exact ⟨q, rfl⟩
        have hG := HG.out
        rw [readyG] at hG
        by_cases hsm : T.sm = true
        · rw [if_pos hsm] at hG
          have hS := Lib.hid (Tab.sm_iff hsm)
          have hmany := hS.out.many
          have hc2 := hT.c2
          clear HG hsm
          by_cases hi : i < T.rows.length
          · rw [if_pos hi] at hG
            have hc4 := hT.c4
            have hc0 := hT.c0
            have hbi := (hT.basC i hi).1
            have hbl := hT.bgIn.2
            have htl := hT.tIn.2
            have hiz : (i : Int) < (T.rows.length : Int) := by omega
            have hi0 : (0 : Int) ≤ (i : Int) := by omega
            by_cases hbs : ith T.basis i < T.sets
            · rw [if_pos hbs] at hG
              have HGX := Lib.hid hG
              clear hG
              go_wp2_with fail
              go_region
              go_wp2_with fail
              obtain rfl := HA.out
              go_roundg q
              case measure => omega
              case rel => exact ⟨i + 1, T, rb, by simp, hT.ext (Ext.refl _).drew, hx.drew, HGX, by omega⟩
            · rw [if_neg hbs] at hG
              have HGX := Lib.hid hG
              clear hG
              go_wp2_with fail
              go_region
              go_wp2_with fail
              have hTd := hT.ext (Ext.refl _).drew
              have hxd := hx.drew
              generalize wr.drew = w3 at *
              clear hc2 hc4 hc0 hbi hbl htl hT hx
              have hwd : T.sets ≤ T.wide := by unfold Tab.wide; omega
              have hwz : (T.sets : Int) ≤ (T.wide : Int) := by omega
              have hz0 : (0 : Int) ≤ (T.sets : Int) := by omega
              have hrow : IntsIn w3 (some ⟨A'.rb i, 0, none⟩) ((T.row i).take T.sets) := by
                intro k hk
                rw [List.length_take, (hS.out.row i hi).len] at hk
                rw [ith_take _ _ _ (by omega)]
                exact ⟨A'.rb i, 0, rfl, (hTd.rbIn i hi).2, by rw [Nat.zero_add]; exact (hTd.entC i k hi (by omega)).1⟩
              have hrl : ((T.row i).take T.sets).length = T.sets := by rw [List.length_take, (hS.out.row i hi).len]; omega
              have hsets := hS.out.sets
              have hidx := fun s : After w3 => indexFunc_calls s.at_ (some ⟨A'.rb i, 0, none⟩) T.wide ((T.row i).take T.sets) 104 #[] nzB (hrow.ext s.ext) (by omega) (pred_nz _)
              rw [hrl] at hidx
              have a1 := After.cell hTd.c2 hTd.tIn.2
              have a2 := After.cell hTd.c0 hTd.tIn.2
              have a3 := After.cell (hTd.rowC i hi).1 hTd.rgIn.2
              go_wp2_with fail
              refine wp_region_after (by kernel_rfl) (by kernel_rfl) ?_
              intro hne
              repeat (go_big_quiet_step ((go_at_call 103; exact Calls.after (hidx _))))
              refine wpQuiet_nil ?_
              intro w4 hx4
              have hT4 := hTd.ext hx4
              have hx04 := hxd.trans hx4
              clear a1 a2 a3 hidx hrow hTd hxd
              by_cases hneg : firstI nzB ((T.row i).take T.sets) < 0
              · have hG := HGX.out
                rw [if_pos hneg] at hG
                by_cases hn2 : 2 ≤ T.rows.length
                · rw [if_pos hn2] at hG
                  have HGY := Lib.hid hG
                  clear hG HGX
                  have hne1 := hT4.ap
                  have htl := hT4.tIn.2
                  have hrl4 := hT4.rgIn.2
                  have hbl4 := hT4.bgIn.2
                  have hcaps := hT4.caps
                  obtain ⟨hR0, hB0⟩ : (∀ q, q < T.rows.length → w4.cell? ⟨A'.rg, q, none⟩ = some (.slice (some ⟨A'.rb q, 0, none⟩) T.wide T.wide) ∧ w4.frozen? ⟨A'.rg, q, none⟩ = false) ∧ (∀ q, q < T.rows.length → w4.cell? ⟨A'.bg, q, none⟩ = some (.int .i64 (ith T.basis q)) ∧ w4.frozen? ⟨A'.bg, q, none⟩ = false) := ⟨hT4.rowC, hT4.basC⟩
                  have hdR : ∀ W : World, (∀ q, q < T.rows.length → W.cell? ⟨A'.rg, q, none⟩ = w4.cell? ⟨A'.rg, q, none⟩ ∧ W.frozen? ⟨A'.rg, q, none⟩ = w4.frozen? ⟨A'.rg, q, none⟩) →
                      Calls Try.prog 105 #[.slice (some ⟨A'.rg, 0, none⟩) T.rows.length A'.rc, .int .i64 i, .int .i64 ((i : Int) + 1)] W (DropG W A'.rg T.rows.length A'.rc i) := by
                    intro W hW
                    have := delRows_gen W A'.rg T.rows.length A'.rc T.wide i A'.rb (fun q hq => ⟨(hW q hq).1.trans (hR0 q hq).1, (hW q hq).2.trans (hR0 q hq).2⟩) hi hcaps.1 hcaps.2.1
                    simpa using this
                  have hdB : ∀ W : World, (∀ q, q < T.rows.length → W.cell? ⟨A'.bg, q, none⟩ = w4.cell? ⟨A'.bg, q, none⟩ ∧ W.frozen? ⟨A'.bg, q, none⟩ = w4.frozen? ⟨A'.bg, q, none⟩) →
                      Calls Try.prog 106 #[.slice (some ⟨A'.bg, 0, none⟩) T.rows.length A'.bc, .int .i64 i, .int .i64 ((i : Int) + 1)] W (DropG W A'.bg T.rows.length A'.bc i) := by
                    intro W hW
                    have := delInts_gen W A'.bg T.rows.length A'.bc i T.basis hS.out.bas (fun q hq => ⟨(hW q hq).1.trans (hB0 q hq).1, (hW q hq).2.trans (hB0 q hq).2⟩) hi hcaps.2.2.1 hcaps.2.2.2
                    simpa using this
                  have hw5 : IntKind.i64.wrap ((i : Int) + 1) = (i : Int) + 1 := by rw [IntKind.wrap_i64]; omega
                  have b2 := hT4.c2
                  have b4 := hT4.c4
                  have bf2 := hT4.free 2 (by omega) (by omega)
                  have bf4 := hT4.free 4 (by omega) (by omega)
                  have HR0 := Lib.hid hR0
                  have HB0 := Lib.hid hB0
                  clear hR0 hB0
                  go_wp2_with fail
                  have r1 : ∀ (W : World) (v : Value) (o q : Nat), (W.setCell ⟨A'.t, o, none⟩ v).cell? ⟨A'.bg, q, none⟩ = W.cell? ⟨A'.bg, q, none⟩ := fun W v o q => World.cell?_setCell_other _ _ _ _ (fun e => hne1.2.1 (by simp only [Addr.mk.injEq] at e; exact e.1))
                  have r2 : ∀ (W : World) (v : Value) (o q : Nat), (W.setCell ⟨A'.t, o, none⟩ v).cell? ⟨A'.rg, q, none⟩ = W.cell? ⟨A'.rg, q, none⟩ := fun W v o q => World.cell?_setCell_other _ _ _ _ (fun e => hne1.1 (by simp only [Addr.mk.injEq] at e; exact e.1))
                  have r3 : ∀ (W : World) (v : Value), (W.setCell ⟨A'.t, 2, none⟩ v).cell? ⟨A'.t, 4, none⟩ = W.cell? ⟨A'.t, 4, none⟩ := fun W v => World.cell?_setCell_other _ _ _ _ (by simp)
                  have r4 : ∀ (W : World) (v : Value), (W.setCell ⟨A'.t, 4, none⟩ v).cell? ⟨A'.t, 2, none⟩ = W.cell? ⟨A'.t, 2, none⟩ := fun W v => World.cell?_setCell_other _ _ _ _ (by simp)
                  go_region_with ((first
                    | (go_at_call 105; refine (hdR _ (by intro q hq; first | exact ⟨rfl, rfl⟩ | (constructor <;> simp [*]))).mono ?_; rintro e wR ⟨rfl, hgR, hcR⟩; have hszR := hgR.size; (try simp only [World.size_drew] at hszR); have ltR : A'.t < wR.heap.size := (by omega); have ltRg : A'.rg < wR.heap.size := (by omega); have ltRb : A'.bg < wR.heap.size := (by omega)
                       have cR : ∀ o, wR.cell? ⟨A'.t, o, none⟩ = _ := fun o => grownBy_cell hgR (p := ⟨A'.t, o, none⟩) (by show A'.t < _; first | omega | (simp <;> omega) | (simp only [World.size_drew, size_set] <;> omega)) (fun e => hne1.1 (by simpa using e))
                       have fR : ∀ o, wR.frozen? ⟨A'.t, o, none⟩ = _ := fun o => grownBy_frozen hgR (p := ⟨A'.t, o, none⟩) (by show A'.t < _; first | omega | (simp <;> omega) | (simp only [World.size_drew, size_set] <;> omega)) (fun e => hne1.1 (by simpa using e))
                       have cRb : ∀ o, wR.cell? ⟨A'.bg, o, none⟩ = _ := fun o => grownBy_cell hgR (p := ⟨A'.bg, o, none⟩) (by show A'.bg < _; first | omega | (simp <;> omega) | (simp only [World.size_drew, size_set] <;> omega)) (fun e => hne1.2.2.2.1 (by simpa using e.symm))
                       have fRb : ∀ o, wR.frozen? ⟨A'.bg, o, none⟩ = _ := fun o => grownBy_frozen hgR (p := ⟨A'.bg, o, none⟩) (by show A'.bg < _; first | omega | (simp <;> omega) | (simp only [World.size_drew, size_set] <;> omega)) (fun e => hne1.2.2.2.1 (by simpa using e.symm))
                       have HcR := Lib.hid hcR; have HgR := Lib.hid hgR; clear hcR hgR)
                    | (go_at_call 106; refine (hdB _ (by intro q hq; first | exact ⟨rfl, rfl⟩ | (constructor <;> simp [*]))).mono ?_; rintro e wB ⟨rfl, hgB, hcB⟩; have hszB := hgB.size; (try simp only [World.size_drew, size_set] at hszB); have ltB : A'.t < wB.heap.size := (by omega); have ltBg : A'.rg < wB.heap.size := (by omega); have ltBb : A'.bg < wB.heap.size := (by omega)
                       have cB : ∀ o, wB.cell? ⟨A'.t, o, none⟩ = _ := fun o => grownBy_cell hgB (p := ⟨A'.t, o, none⟩) (by show A'.t < _; first | omega | (simp <;> omega) | (simp only [World.size_drew, size_set] <;> omega)) (fun e => hne1.2.1 (by simpa using e))
                       have fB : ∀ o, wB.frozen? ⟨A'.t, o, none⟩ = _ := fun o => grownBy_frozen hgB (p := ⟨A'.t, o, none⟩) (by show A'.t < _; first | omega | (simp <;> omega) | (simp only [World.size_drew, size_set] <;> omega)) (fun e => hne1.2.1 (by simpa using e))
                       have cBr : ∀ o, wB.cell? ⟨A'.rg, o, none⟩ = _ := fun o => grownBy_cell hgB (p := ⟨A'.rg, o, none⟩) (by show A'.rg < _; first | omega | (simp <;> omega) | (simp only [World.size_drew, size_set] <;> omega)) (fun e => hne1.2.2.2.1 (by simpa using e))
                       have fBr : ∀ o, wB.frozen? ⟨A'.rg, o, none⟩ = _ := fun o => grownBy_frozen hgB (p := ⟨A'.rg, o, none⟩) (by show A'.rg < _; first | omega | (simp <;> omega) | (simp only [World.size_drew, size_set] <;> omega)) (fun e => hne1.2.2.2.1 (by simpa using e))
                       have HcB := Lib.hid hcB; have HgB := Lib.hid hgB; clear hcB hgB)))
                  all_goals
                    have hT5 := hT4.struck hi HgR.out HgB.out HcR.out HcB.out
                    have hx5 := (((hx04.drew.onto HgR.out (fun k hk => by simp only [Option.some.injEq] at hk; have := hT4.rgIn.1; omega)).onto HgB.out (fun k hk => by simp only [Option.some.injEq] at hk; have := hT4.bgIn.1; omega)).setOwn ⟨A'.t, 2, none⟩ (.slice (some ⟨A'.rg, 0, none⟩) (T.rows.length - 1) A'.rc) (by have := hT4.tIn.1; simp; omega)).setOwn ⟨A'.t, 4, none⟩ (.slice (some ⟨A'.bg, 0, none⟩) (T.rows.length - 1) A'.bc) (by have := hT4.tIn.1; simp; omega)
                    clear r1 r2 r3 r4 hdR hdB b2 b4 bf2 bf4
                    go_wp2_with fail
                    obtain rfl := HA.out
                    go_roundg q
                    case measure => omega
                    case rel => exact ⟨i, dropI T i, fun q => rb (skip i q), by simp, hT5, hx5, HGY, hi1000⟩
                · rw [if_neg hn2] at hG
                  simp at hG
              · obtain ⟨c, hcf, hcl⟩ := firstI_bounds nzB _ hneg
                have hG := HGX.out
                rw [if_neg hneg, hcf] at hG
                simp only [Int.toNat_natCast] at hG
                rw [hrl] at hcl
                have hcw : c < T.wide := by omega
                by_cases hen : T.ent i c < 0
                · rw [if_pos hen] at hG
                  have HGY := Lib.hid hG
                  rw [hcf]
                  clear hG HGX hneg hcf
                  have b1 := hT4.c2
                  have b2 := (hT4.rowC i hi).1
                  have b3 := (hT4.entC i c hi hcw).1
                  have b4 := hT4.tIn.2
                  have b5 := hT4.rgIn.2
                  have b6 := (hT4.rbIn i hi).2
                  have hwide : T.wide ≤ 2000 := by unfold Tab.wide; have := hS.out.sets; have := hS.out.n; omega
                  have hrw : (T.row i).length = T.wide := (hS.out.row i hi).len
                  have HRW := Lib.hid hrw
                  clear hrw
                  go_wp2_with fail
                  go_loopg [106, 6] T.wide (fun p kv uv wx => ∃ k : Nat, k ≤ T.wide ∧ kv = .int .i64 k ∧ p + k = T.wide ∧ TabAt wx B A' (negTo T i k) ∧ Ext w0 wx)
                  case atStart => exact ⟨0, by omega, rfl, by omega, by rw [negTo_zero]; exact hT4, hx04⟩
                  case round =>
                    rename World => wx
                    obtain ⟨k, hk, rfl, hpk, hTk, hxk⟩ := hrel
                    clear b1 b2 b3 b4 b5 b6
                    by_cases hkl : k < T.wide
                    · have d1 := hTk.c2
                      have hil : i < (negTo T i k).rows.length := by rw [negTo_len]; exact hi
                      have d2 := (hTk.rowC i hil).1
                      have d3 := hTk.entC i k hil hkl
                      have d4 := hTk.tIn.2
                      have d5 := hTk.rgIn.2
                      have d6 := (hTk.rbIn i hil).2
                      have hew : (negTo T i k).wide = T.wide := rfl
                      have hel : (negTo T i k).rows.length = T.rows.length := negTo_len T i k
                      have hee : (negTo T i k).ent i k = T.ent i k := by rw [negTo_ent _ _ _ _ hi (by rw [HRW.out]; exact hkl), if_neg (by omega)]
                      rw [hew] at d2
                      rw [hel] at d1
                      rw [hee] at d3
                      obtain ⟨d3, d7⟩ := d3
                      have hbn := (hS.out.row i hi).ent k hkl
                      obtain ⟨x, hx0⟩ : ∃ x, T.ent i k = x := ⟨_, rfl⟩
                      have hbx : -1000000000 ≤ x ∧ x ≤ 1000000000 := by rw [← hx0]; exact hbn
                      rw [hx0] at d3
                      have HX := Lib.hid hx0
                      clear hx0 hbn hee hew hel
                      have hwx : IntKind.i64.wrap (-x) = -x := by rw [IntKind.wrap_i64]; omega
                      have z0 : (0 : Int) ≤ (k : Int) := by omega
                      have z1 : (k : Int) < (T.wide : Int) := by omega
                      have z2 : (0 : Int) ≤ (i : Int) := by omega
                      have z3 : (i : Int) < (T.rows.length : Int) := by omega
                      go_wp2_with fail
                      go_region
                      go_wp2_with fail
                      go_roundg (T.wide - (k + 1))
                      case measure => omega
                      case rel =>
                        refine ⟨k + 1, by omega, by simp, by omega, ?_, hxk.drew.setOwn _ _ (by have := (hTk.rbIn i hil).1; simp; omega)⟩
                        refine (hTk.ext ((Ext.refl _).drew)).setRow (negTo_one T i k) hil (grownBy_setCell _ ⟨A'.rb i, k, none⟩ (.int .i64 (-x))) (fun j hj => ?_)
                        have hj2 : j < T.wide := hj
                        have hc0 := (hTk.ext ((Ext.refl _).drew)).entC i j hil hj
                        rw [negTo_ent _ _ _ _ hi (by rw [HRW.out]; exact hj2)]
                        change (((wx.drew).setCell ⟨A'.rb i, k, none⟩ (Value.int .i64 (-x))).cell? ⟨A'.rb i, j, none⟩ = _ ∧ ((wx.drew).setCell ⟨A'.rb i, k, none⟩ (Value.int .i64 (-x))).frozen? ⟨A'.rb i, j, none⟩ = _)
                        by_cases e : j = k
                        · subst e
                          rw [if_pos (by omega), HX.out]
                          exact ⟨World.cell?_setCell_same _ _ _ hc0.1, by rw [World.frozen?_setCell]; exact hc0.2⟩
                        · rw [World.cell?_setCell_other _ _ _ _ (fun e2 => e (by simp only [Addr.mk.injEq, and_true, true_and] at e2; exact e2.symm)), World.frozen?_setCell]
                          rw [negTo_ent _ _ _ _ hi (by rw [HRW.out]; exact hj2)] at hc0
                          have hlt : (j < k) ↔ (j < k + 1) := by omega
                          simp only [hlt] at hc0
                          exact hc0
                    · obtain rfl : k = T.wide := by omega
                      have hTn : TabAt wx B A' (negP T i) := hTk
                      go_wp2_with fail
                      refine (pivot_calls w0 wx B A' (negP T i) i c hTn (negTo_small hS.out hi _) hxk h0 (by rw [negP, negTo_len]; exact hi) hcw).mono ?_
                      rintro e w5 ⟨⟨v, rfl⟩, hT5, hx5⟩
                      go_wp2_with fail
                      obtain rfl := HA.out
                      go_roundg q
                      case measure => omega
                      case rel => exact ⟨i + 1, pivotP (negP T i) i c, rb, by simp, hT5, hx5, HGY, by omega⟩
                · rw [if_neg hen] at hG
                  have HGY := Lib.hid hG
                  rw [hcf]
                  clear hG HGX hneg hcf
                  have b1 := hT4.c2
                  have b2 := (hT4.rowC i hi).1
                  have b3 := (hT4.entC i c hi hcw).1
                  have b4 := hT4.tIn.2
                  have b5 := hT4.rgIn.2
                  have b6 := (hT4.rbIn i hi).2
                  go_wp2_with fail
                  refine (pivot_calls w0 w4 B A' T i c hT4 hS.out hx04 h0 hi hcw).mono ?_
                  rintro e w5 ⟨⟨v, rfl⟩, hT5, hx5⟩
                  go_wp2_with fail
                  obtain rfl := HA.out
                  go_roundg q
                  case measure => omega
                  case rel => exact ⟨i + 1, pivotP T i c, rb, by simp, hT5, hx5, HGY, by omega⟩
          · rw [if_neg hi] at hG
            have hTT := Lib.hid (Option.some.inj hG)
            clear hG
            go_wp2_with fail
            go_ret
            obtain rfl := HA.out
            refine .inr ⟨T', rb, HO.out.symm, rfl, ?_, hx⟩
            rw [← hTT.out]
            exact hT
        · rw [if_neg hsm] at hG
          simp at hG
    · rw [if_neg hcnd] at hr
      simp at hr
end Go.Proofs.Ytcngecibljgndaa
