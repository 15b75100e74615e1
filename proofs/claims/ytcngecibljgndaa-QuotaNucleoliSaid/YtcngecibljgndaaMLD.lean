/- The program's tableau as a whole-number tableau of the theory: its run ends, plain. -/
import Derived.Test.YtcngecibljgndaaMLC
import Derived.Test.YtcngecibljgndaaMQK
namespace Go.Proofs.Ytcngecibljgndaa
open Go.RowKit Go.Shelf

abbrev Tab.J (T : Tab) : Nat → Nat := fun m => (ith T.basis m).toNat
abbrev Tab.last (T : Tab) : Nat := T.sets + T.n
structure Rep (N : Nat) (F : (Nat → Nat) → Int) (s : Int) (c : Nat → Int) (cols : Nat) (T : Tab) : Prop where
  len : T.rows.length = N
  blen : T.basis.length = N
  wid : ∀ i, i < N → (T.row i).length = T.wide
  glen : T.goal.length = T.wide
  plu : Plu N F T.J T.ent T.den s
  goal : ∀ l, l < T.wide → ith T.goal l = gl N c T.J T.ent T.den l
  feas : Feas N T.last T.ent T.den
  bas : ∀ m, m < N → 0 ≤ ith T.basis m ∧ T.J m < T.last
  dead : ∀ m, m < N → cols ≤ T.J m → ∀ l, l < cols → T.ent m l = 0
  bnd : ∀ x, -5040 ≤ F x ∧ F x ≤ 5040
  cst : ∀ l, -1 ≤ c l ∧ c l ≤ 1
  one : 1 ≤ N
  seven : N ≤ 7
  sets : T.sets ≤ 128
  n : T.n ≤ 7
  colsLe : cols ≤ T.last
theorem Tab.sm_of {T : Tab} (h : T.Sm) : T.sm = true := by
  have sm : ∀ {m : Nat} {l : List Int}, SmL m l → smL m l = true := fun {m l} h => by
    simp only [smL, Bool.and_eq_true, beq_iff_eq, List.all_eq_true, decide_eq_true_eq]
    refine ⟨h.len, fun x hx => ?_⟩
    obtain ⟨k, hk, rfl⟩ := List.getElem_of_mem hx
    have := h.ent k (by have := h.len; omega)
    rwa [show ith l k = l[k] by simp [ith, hk]] at this
  simp only [Tab.sm, Bool.and_eq_true, decide_eq_true_eq, List.all_eq_true]
  refine ⟨⟨⟨⟨h.one, h.many, h.sets, h.n, h.bas, h.den0, h.den.1, h.den.2⟩, fun r hr => ?_⟩, sm h.goal⟩, fun x hx => ?_⟩
  · obtain ⟨k, hk, rfl⟩ := List.getElem_of_mem hr
    have := sm (h.row k hk)
    rwa [show T.row k = T.rows[k] by simp [Tab.row, hk]] at this
  · obtain ⟨k, hk, rfl⟩ := List.getElem_of_mem hx
    have := h.basIn k (by rw [← h.bas]; exact hk)
    rwa [show ith T.basis k = T.basis[k] by simp [ith, hk]] at this
section
variable {N : Nat} {F : (Nat → Nat) → Int} {s : Int} {c : Nat → Int} {cols : Nat} {T : Tab}
theorem Plu.congr {J J' : Nat → Nat} {R R' : Nat → Nat → Int} {b : Int} (h : Plu N F J R b s) (hJ : ∀ m, m < N → J' m = J m) (hR : ∀ m l, m < N → R' m l = R m l) : Plu N F J' R' b s := by
  refine ⟨h.alt, h.sign, by rw [h.val, h.alt.only J' J hJ], fun m l hm => ?_, fun x k l hk => ?_⟩
  · rw [hR m l hm, h.row m l hm]
    congr 1
    refine h.alt.only _ _ (fun x hx => ?_)
    by_cases e : x = m
    · rw [e, upd_same, upd_same]
    · rw [upd_other _ _ e, upd_other _ _ e, hJ x hx]
  · rw [h.exp x k l hk]
    exact sm_congr _ (fun m hm => by rw [hR m l hm, hJ m hm])
theorem gl_congr {J J' : Nat → Nat} {R R' : Nat → Nat → Int} {b : Int} {l : Nat} (hJ : ∀ m, m < N → J' m = J m) (hR : ∀ m, m < N → R' m l = R m l) : gl N c J' R' b l = gl N c J R b l := by
  unfold gl
  rw [sm_congr N (fun m hm => by rw [hJ m hm, hR m hm])]
theorem ith_long {l : List Int} {k : Nat} (h : l.length ≤ k) : ith l k = 0 := by simp [ith, h]
theorem Rep.ent_bnd (h : Rep N F s c cols T) {m : Nat} (hm : m < N) (l : Nat) : -5040 ≤ T.ent m l ∧ T.ent m l ≤ 5040 := by
  have h1 := h.plu.row m l hm
  have h2 := h.bnd (upd T.J m l)
  rcases h.plu.sign with h3 | h3 <;> rw [h1, h3] <;> omega
theorem Rep.den_bnd (h : Rep N F s c cols T) : 1 ≤ T.den ∧ T.den ≤ 5040 := by
  have h1 := h.plu.val
  have h2 := h.bnd T.J
  have h3 := h.feas.pos
  rcases h.plu.sign with h4 | h4 <;> rw [h4] at h1 <;> omega
theorem mul_cost {x y k : Int} (hx : -1 ≤ x ∧ x ≤ 1) (hy : -k ≤ y ∧ y ≤ k) : -k ≤ x * y ∧ x * y ≤ k := by
  have h : x = -1 ∨ x = 0 ∨ x = 1 := by omega
  rcases h with rfl | rfl | rfl <;> omega
theorem Rep.gl_bnd (h : Rep N F s c cols T) (l : Nat) : -100000 ≤ gl N c T.J T.ent T.den l ∧ gl N c T.J T.ent T.den l ≤ 100000 := by
  have h1 := h.den_bnd
  have h2 := mul_cost (k := 5040) (h.cst l) (y := T.den) (by omega)
  have h3 : ∀ m, m < N → -5040 ≤ c (T.J m) * T.ent m l ∧ c (T.J m) * T.ent m l ≤ 5040 := fun m hm => mul_cost (h.cst _) (by have := h.ent_bnd hm l; omega)
  have h4 := sm_le (f := fun _ => (-5040 : Int)) (g := fun m => c (T.J m) * T.ent m l) N (fun m hm => (h3 m hm).1)
  have h5 := sm_le (f := fun m => c (T.J m) * T.ent m l) (g := fun _ => (5040 : Int)) N (fun m hm => (h3 m hm).2)
  rw [sm_const] at h4 h5
  have h6 := h.seven
  unfold gl
  rw [Int.mul_comm T.den]
  omega
theorem Rep.small (h : Rep N F s c cols T) : T.Sm := by
  have h1 := h.den_bnd
  have h2 := h.sets
  have h3 := h.n
  have h4 := h.one
  have h5 := h.seven
  have h6 := h.len
  have h7 := h.blen
  refine ⟨by omega, by omega, by omega, by omega, by omega, by omega, by omega, fun i hi => ⟨h.wid i (by omega), fun k hk => ?_⟩, ⟨h.glen, fun k hk => ?_⟩, fun i hi => ?_⟩
  · have := h.ent_bnd (m := i) (by omega) k
    unfold Tab.ent at this
    omega
  · rw [h.goal k hk]
    have := h.gl_bnd k
    omega
  · have := h.bas i (by omega)
    unfold Tab.J Tab.last at this
    omega
theorem pivot_row (T : Tab) (i j m : Nat) : (pivotP T i j).row m = (stepTo T i j T.rows.length).row m := rfl
theorem pivot_ent (h : Rep N F s c cols T) {i j : Nat} (hi : i < N) (m l : Nat) : (pivotP T i j).ent m l = pivR T.ent T.den i j m l := by
  have hlen := h.len
  show ith ((pivotP T i j).row m) l = _
  rw [pivot_row]
  unfold pivR
  by_cases hm : m < N
  · rw [stepTo_row _ _ _ _ _ (by omega)]
    by_cases e : m = i
    · subst e; rw [if_neg (by omega), if_pos rfl]; rfl
    · rw [if_pos ⟨by omega, e⟩, if_neg e]
      by_cases hl : l < T.wide
      · rw [stepRow_at _ _ _ _ _ _ (by rw [h.wid m hm]; exact hl)]
        exact Int.tdiv_eq_ediv_of_dvd (h.plu.exact_ hi hm e l)
      · rw [ith_long (by rw [stepRow_length, h.wid m hm]; omega)]
        have z1 : T.ent m l = 0 := ith_long (by have := h.wid m hm; omega)
        have z2 : T.ent i l = 0 := ith_long (by have := h.wid i hi; omega)
        rw [z1, z2]; simp
  · rw [if_neg (by omega)]
    have r1 : (stepTo T i j T.rows.length).row m = [] := by
      unfold Tab.row
      rw [List.getD_eq_getElem?_getD, List.getElem?_eq_none (by rw [stepTo_len]; omega)]; rfl
    have r2 : T.row m = [] := by
      unfold Tab.row
      rw [List.getD_eq_getElem?_getD, List.getElem?_eq_none (by omega)]; rfl
    have z1 : ∀ l, T.ent m l = 0 := fun l => by show ith (T.row m) l = 0; rw [r2]; simp [ith]
    rw [r1, z1, z1]; simp [ith]
theorem pivot_J (h : Rep N F s c cols T) {i j : Nat} (hi : i < N) (m : Nat) : (pivotP T i j).J m = upd T.J i j m := by
  have hb := h.blen
  show (ith (T.basis.set i j) m).toNat = _
  by_cases e : m = i
  · subst e; rw [upd_same]; simp [ith, show m < T.basis.length by omega]
  · rw [upd_other _ _ e]
    have : ith (T.basis.set i j) m = ith T.basis m := by simp [ith, Ne.symm e]
    rw [this]
theorem Rep.pivotF (h : Rep N F s c cols T) {i j : Nat} (hi : i < N) (hpc : j < cols) (hf : Feas N T.last (pivR T.ent T.den i j) (T.ent i j)) : Rep N F s c cols (pivotP T i j) := by
  have hlen := h.len
  have hpos := h.feas.pos
  have hdn : (pivotP T i j).den = T.ent i j := rfl
  have hw : (pivotP T i j).wide = T.wide := rfl
  refine ⟨by rw [← hlen]; simp [pivotP, stepTo], by show (T.basis.set i j).length = N; rw [List.length_set]; exact h.blen, fun m hm => ?_, by show (stepRow _ _ _ _ T.goal).length = _; rw [stepRow_length]; exact h.glen, ?_, fun l hl => ?_, ?_, fun m hm => ?_, fun m hm hc l hl => ?_, h.bnd, h.cst, h.one, h.seven, h.sets, h.n, h.colsLe⟩
  · have e1 : (pivotP T i j).row m = (stepTo T i j T.rows.length).row m := rfl
    rw [e1, stepTo_row _ _ _ _ _ (by omega), hw]
    split
    · rw [stepRow_length]; exact h.wid m hm
    · exact h.wid m hm
  · rw [hdn]
    exact (h.plu.pivot (j := j) (by omega) hi).congr (fun m _ => pivot_J h hi m) (fun m l _ => pivot_ent h hi m l)
  · have hl2 : l < T.wide := hl
    have e1 : ith (pivotP T i j).goal l = (ith T.goal l * T.ent i j - ith T.goal j * ith (T.row i) l).tdiv T.den := stepRow_at _ _ _ _ _ _ (by rw [h.glen]; exact hl2)
    have hj : j < T.wide := by have := h.colsLe; unfold Tab.last at this; unfold Tab.wide; omega
    have hg := h.plu.gl_pivot c (i := i) (j := j) hi l
    rw [e1, h.goal l hl2, h.goal j hj]
    have e2 : ith (T.row i) l = T.ent i l := rfl
    rw [e2, ← hg, Int.mul_tdiv_cancel_left _ (by omega), hdn]
    exact (gl_congr (fun m _ => pivot_J h hi m) (fun m _ => pivot_ent h hi m l)).symm
  · rw [hdn]
    refine ⟨hf.pos, fun m hm => ?_⟩
    have e : (pivotP T i j).last = T.last := rfl
    rw [e, pivot_ent h hi]
    exact hf.rhs m hm
  · have h1 := h.bas m hm
    rw [pivot_J h hi]
    have hb := h.blen
    show 0 ≤ ith (T.basis.set i j) m ∧ _
    by_cases e : m = i
    · subst e
      rw [upd_same]
      refine ⟨?_, by have := h.colsLe; show j < T.last; omega⟩
      simp [ith, show m < T.basis.length by omega]
    · rw [upd_other _ _ e]
      refine ⟨?_, h1.2⟩
      have : ith (T.basis.set i j) m = ith T.basis m := by simp [ith, Ne.symm e]
      rw [this]; exact h1.1
  · rw [pivot_J h hi] at hc
    by_cases e : m = i
    · rw [e, upd_same] at hc; omega
    · rw [upd_other _ _ e] at hc
      rw [pivot_ent h hi]
      unfold pivR
      rw [if_neg e, h.dead m hm hc l hl, h.dead m hm hc j hpc]
      simp
theorem Rep.pivot (h : Rep N F s c cols T) {i j : Nat} (hp : Pick N cols T.last c T.J T.ent T.den i j) : Rep N F s c cols (pivotP T i j) := h.pivotF hp.slot hp.col (feas_pivot h.feas hp)
theorem frac_lt_left {x y z p q r : Int} (hq : 0 < q) (hp : 0 < p) (hr : 0 < r) (h1 : x * q < y * p) (h2 : y * r ≤ z * q) : x * r < z * p := by
  refine Int.lt_of_mul_lt_mul_right (a := q) ?_ (by omega)
  have h3 : x * q * r < y * p * r := Int.mul_lt_mul_of_pos_right h1 hr
  have h4 : y * r * p ≤ z * q * p := Int.mul_le_mul_of_nonneg_right h2 (by omega)
  have e1 : x * r * q = x * q * r := Int.mul_right_comm _ _ _
  have e2 : z * p * q = z * q * p := Int.mul_right_comm _ _ _
  have e3 : y * p * r = y * r * p := Int.mul_right_comm _ _ _
  omega
theorem frac_lt_right {x y z p q r : Int} (hq : 0 < q) (hp : 0 < p) (hr : 0 < r) (h1 : x * q ≤ y * p) (h2 : y * r < z * q) : x * r < z * p := by
  refine Int.lt_of_mul_lt_mul_right (a := q) ?_ (by omega)
  have h3 : x * q * r ≤ y * p * r := Int.mul_le_mul_of_nonneg_right h1 (by omega)
  have h4 : y * r * p < z * q * p := Int.mul_lt_mul_of_pos_right h2 hp
  have e1 : x * r * q = x * q * r := Int.mul_right_comm _ _ _
  have e2 : z * p * q = z * q * p := Int.mul_right_comm _ _ _
  have e3 : y * p * r = y * r * p := Int.mul_right_comm _ _ _
  omega
/-- Row o is before row m, by the ratio and then by the basis. -/
def Before (T : Tab) (j o m : Nat) : Prop := T.ent o T.last * T.ent m j < T.ent m T.last * T.ent o j ∨ (T.ent o T.last * T.ent m j = T.ent m T.last * T.ent o j ∧ ith T.basis o ≤ ith T.basis m)
theorem before_trans {j o' o m : Nat} (h1 : 0 < T.ent o' j) (h2 : 0 < T.ent o j) (h3 : 0 < T.ent m j) (a : Before T j o' o) (b : Before T j o m) : Before T j o' m := by
  rcases a with a | ⟨a, a2⟩ <;> rcases b with b | ⟨b, b2⟩
  · exact .inl (frac_lt_left h2 h1 h3 a (by omega))
  · exact .inl (frac_lt_left h2 h1 h3 a (by omega))
  · exact .inl (frac_lt_right h2 h1 h3 (by omega) b)
  · refine .inr ⟨?_, by omega⟩
    have x1 := frac_trans h2 h1 h3 (Int.le_of_eq a) (Int.le_of_eq b)
    have x2 := frac_trans (x := T.ent m T.last) (y := T.ent o T.last) (z := T.ent o' T.last) h2 h3 h1 (Int.le_of_eq b.symm) (Int.le_of_eq a.symm)
    omega
theorem outP_spec (T : Tab) (j : Nat) : ∀ k, match outP T j k with
    | none => ∀ m, m < k → T.ent m j ≤ 0
    | some o => o < k ∧ 0 < T.ent o j ∧ ∀ m, m < k → 0 < T.ent m j → Before T j o m
  | 0 => by simp [outP]
  | k + 1 => by
    have ih := outP_spec T j k
    rw [outP_succ]
    unfold pickP
    by_cases hk : T.ent k j ≤ 0
    · rw [if_pos hk]
      cases ho : outP T j k with
      | none =>
        rw [ho] at ih
        intro m hm
        by_cases e : m = k
        · rw [e]; exact hk
        · exact ih m (by omega)
      | some o =>
        rw [ho] at ih
        refine ⟨by have := ih.1; omega, ih.2.1, fun m hm hp => ?_⟩
        by_cases e : m = k
        · rw [e] at hp; omega
        · exact ih.2.2 m (by omega) hp
    · rw [if_neg hk]
      cases ho : outP T j k with
      | none =>
        rw [ho] at ih
        simp only []
        refine ⟨by omega, by omega, fun m hm hp => ?_⟩
        by_cases e : m = k
        · rw [e]; exact .inr ⟨rfl, Int.le_refl _⟩
        · have := ih m (by omega); omega
      | some o =>
        rw [ho] at ih
        simp only []
        obtain ⟨i1, i2, i3⟩ := ih
        by_cases hb : betterB T j k o = true
        · rw [if_pos hb]
          have hbf : Before T j k o := by
            simp only [betterB, Bool.or_eq_true, Bool.and_eq_true, decide_eq_true_eq] at hb
            rcases hb with hb | ⟨hb, hb2⟩
            · exact .inl hb
            · exact .inr ⟨hb, by omega⟩
          refine ⟨by omega, by omega, fun m hm hp => ?_⟩
          by_cases e : m = k
          · rw [e]; exact .inr ⟨rfl, Int.le_refl _⟩
          · exact before_trans (by omega) i2 hp hbf (i3 m (by omega) hp)
        · rw [if_neg hb]
          refine ⟨by omega, i2, fun m hm hp => ?_⟩
          by_cases e : m = k
          · rw [e]
            simp only [betterB, Bool.or_eq_true, Bool.and_eq_true, decide_eq_true_eq, not_or, not_and] at hb
            unfold Before Tab.last
            rcases Int.lt_trichotomy (T.ent o (T.sets + T.n) * T.ent k j) (T.ent k (T.sets + T.n) * T.ent o j) with h1 | h1 | h1
            · exact .inl h1
            · exact .inr ⟨h1, by have := hb.2 h1.symm; omega⟩
            · exact absurd h1 hb.1
          · exact i3 m (by omega) hp
/-- Nothing grows without bound. -/
def NoRay (N cols : Nat) (c : Nat → Int) (T : Tab) : Prop := ∀ y : Nat → Int, Ker N (T.last + 1) T.ent y → (∀ l, l < T.last → 0 ≤ y l) → y T.last = 0 → (∀ l, cols ≤ l → l < T.last → y l = 0) → 0 ≤ sm (T.last + 1) fun l => c l * y l
theorem Rep.some_pos (h : Rep N F s c cols T) (hn : NoRay N cols c T) {j : Nat} (hj : j < cols) (hg : gl N c T.J T.ent T.den j < 0) : ∃ m, m < N ∧ 0 < T.ent m j := by
  refine Classical.byContradiction fun hno => ?_
  have hle : ∀ m, m < N → T.ent m j ≤ 0 := fun m hm => by
    rcases Int.lt_or_le 0 (T.ent m j) with h1 | h1
    · exact absurd ⟨m, hm, h1⟩ hno
    · exact h1
  have hcl := h.colsLe
  have hd := h.feas.pos
  obtain ⟨y, hy⟩ : ∃ y : Nat → Int, y = fun l => (if l = j then T.den else 0) - sm N fun m => if l = T.J m then T.ent m j else 0 := ⟨_, rfl⟩
  have hdir : ∀ f : Nat → Int, (sm (T.last + 1) fun l => f l * y l) = f j * T.den - sm N fun m => f (T.J m) * T.ent m j := fun f => by
    rw [hy]; exact sm_dir f T.J (fun m => T.ent m j) j T.den (by omega) N (fun m hm => by have := (h.bas m hm).2; omega)
  have hk : Ker N (T.last + 1) T.ent y := by
    intro t ht
    rw [hdir (fun l => T.ent t l), sm_split _ t N ht, h.plu.unit ht ht, if_pos rfl]
    have : (sm N fun m => if m = t then 0 else T.ent t (T.J m) * T.ent m j) = 0 := sm_all0 N fun m hm => by
      by_cases e : m = t
      · rw [if_pos e]
      · rw [if_neg e, h.plu.unit ht hm, if_neg e, Int.zero_mul]
    rw [this]; grind
  have hy0 : ∀ l, 0 ≤ y l := fun l => by
    rw [hy]
    simp only []
    have h1 : (sm N fun m => if l = T.J m then T.ent m j else 0) ≤ sm N fun _ => 0 := sm_le N fun m hm => by
      split
      · exact hle m hm
      · exact Int.le_refl _
    rw [sm_zero] at h1
    split <;> omega
  have hyz : ∀ l, cols ≤ l → y l = 0 := fun l hl => by
    rw [hy]
    simp only []
    rw [if_neg (by omega), sm_all0 N (fun m hm => by
      by_cases e : l = T.J m
      · rw [if_pos e]; exact h.dead m hm (by omega) j hj
      · rw [if_neg e])]
    rfl
  have h1 := hn y hk (fun l _ => hy0 l) (hyz _ hcl) (fun l hl _ => hyz l hl)
  have h2 := ker_goal (c := c) (J := T.J) (b := T.den) hk
  rw [hdir (fun l => gl N c T.J T.ent T.den l)] at h2
  have z0 : (sm N fun m => gl N c T.J T.ent T.den (T.J m) * T.ent m j) = 0 := sm_all0 N fun m hm => by rw [h.plu.gl_unit c hm, Int.zero_mul]
  rw [z0, Int.sub_zero] at h2
  have h3 := Int.mul_neg_of_neg_of_pos hg hd
  have h4 := Int.mul_nonneg (show 0 ≤ T.den by omega) h1
  omega
/-- The column that comes in. -/
def inP (cols : Nat) (T : Tab) : Nat := (firstI negB (T.goal.take cols)).toNat
theorem firstI_spec (p : Int → Bool) (L : List Int) : (firstI p L < 0 ∧ ∀ k, k < L.length → p (ith L k) = false) ∨ (∃ k : Nat, firstI p L = k ∧ k < L.length ∧ p (ith L k) = true ∧ ∀ m, m < k → p (ith L m) = false) := by
  unfold firstI
  cases hf : L.findIdx? p with
  | none =>
    left
    rw [List.findIdx?_eq_none_iff] at hf
    refine ⟨by simp, fun k hk => ?_⟩
    rw [show ith L k = L[k] by simp [ith, hk]]
    exact hf _ (List.getElem_mem _)
  | some k =>
    right
    rw [List.findIdx?_eq_some_iff_getElem] at hf
    obtain ⟨h1, h2, h3⟩ := hf
    refine ⟨k, rfl, h1, by rw [show ith L k = L[k] by simp [ith, h1]]; exact h2, fun m hm => ?_⟩
    rw [show ith L m = L[m]'(by omega) by simp [ith, show m < L.length by omega]]
    have := h3 m hm
    simpa using this
/-- A tableau that shows some of the rows of another one. -/
structure SubOf (N : Nat) (H : Tab) (e : Nat → Nat) (T : Tab) : Prop where
  sets : T.sets = H.sets
  n : T.n = H.n
  den : T.den = H.den
  goal : T.goal = H.goal
  blen : T.basis.length = T.rows.length
  one : 1 ≤ T.rows.length
  row : ∀ i, i < T.rows.length → T.row i = H.row (e i)
  bas : ∀ i, i < T.rows.length → ith T.basis i = ith H.basis (e i)
  slot : ∀ i, i < T.rows.length → e i < N
  inj : ∀ i k, i < T.rows.length → k < T.rows.length → i ≠ k → e i ≠ e k
/-- The rows that are not shown have nothing. -/
def DeadOut (N : Nat) (H : Tab) (e : Nat → Nat) (k cols : Nat) : Prop := ∀ m, m < N → (∀ i, i < k → e i ≠ m) → (∀ l, l < cols → H.ent m l = 0) ∧ H.ent m H.last = 0 ∧ cols ≤ H.J m
theorem SubOf.ent {H T : Tab} {e : Nat → Nat} (h : SubOf N H e T) {i : Nat} (hi : i < T.rows.length) (l : Nat) : T.ent i l = H.ent (e i) l := by
  show ith (T.row i) l = ith (H.row (e i)) l; rw [h.row i hi]
theorem SubOf.wide {H T : Tab} {e : Nat → Nat} (h : SubOf N H e T) : T.wide = H.wide := by unfold Tab.wide; rw [h.sets, h.n]
theorem SubOf.last {H T : Tab} {e : Nat → Nat} (h : SubOf N H e T) : T.last = H.last := by unfold Tab.last; rw [h.sets, h.n]
theorem SubOf.many {H T : Tab} {e : Nat → Nat} (h : SubOf N H e T) : T.rows.length ≤ N := by
  rcases Nat.lt_or_ge N T.rows.length with h1 | h1
  · obtain ⟨p, q, hpq, hq, e1⟩ := pigeon N e (fun t ht => h.slot t (by omega))
    exact absurd e1 (h.inj p q (by omega) (by omega) (by omega))
  · exact h1
theorem SubOf.small {H T : Tab} {e : Nat → Nat} (hs : SubOf N H e T) (h : Rep N F s c cols H) : T.Sm := by
  have hH := h.small
  have h1 := hs.many
  have h2 := h.seven
  have h3 := h.len
  refine ⟨hs.one, by omega, by rw [hs.sets]; exact hH.sets, by rw [hs.n]; exact hH.n, hs.blen, by rw [hs.den]; exact hH.den0, by rw [hs.den]; exact hH.den, fun i hi => ?_, by rw [hs.wide, hs.goal]; exact hH.goal, fun i hi => ?_⟩
  · rw [hs.row i hi, hs.wide]; exact hH.row _ (by have := hs.slot i hi; omega)
  · rw [hs.bas i hi]; exact hH.basIn _ (by have := hs.slot i hi; omega)
theorem SubOf.pivot' {H T : Tab} {e : Nat → Nat} (hs : SubOf N H e T) (h3 : H.rows.length = N) (hb : H.basis.length = N) {i j : Nat} (hi : i < T.rows.length) : SubOf N (pivotP H (e i) j) e (pivotP T i j) := by
  have hlen : (pivotP T i j).rows.length = T.rows.length := by simp [pivotP, stepTo]
  have hd : (pivotP T i j).den = T.ent i j := rfl
  have hd2 : (pivotP H (e i) j).den = H.ent (e i) j := rfl
  refine ⟨hs.sets, hs.n, by rw [hd, hd2, hs.ent hi], ?_, by rw [hlen]; show (T.basis.set i j).length = _; rw [List.length_set]; exact hs.blen, by rw [hlen]; exact hs.one, fun q hq => ?_, fun q hq => ?_, fun q hq => hs.slot q (by omega), fun p q hp hq => hs.inj p q (by omega) (by omega)⟩
  · show stepRow (T.row i) (T.ent i j) T.den j T.goal = stepRow (H.row (e i)) (H.ent (e i) j) H.den j H.goal
    rw [hs.row i hi, hs.ent hi, hs.den, hs.goal]
  · rw [hlen] at hq
    have h4 := hs.slot q hq
    rw [pivot_row, pivot_row, stepTo_row _ _ _ _ _ hq, stepTo_row _ _ _ _ _ (by omega)]
    by_cases e1 : q = i
    · subst e1; rw [if_neg (by omega), if_neg (by omega)]; exact hs.row q hq
    · rw [if_pos ⟨hq, e1⟩, if_pos ⟨by omega, hs.inj q i hq hi e1⟩, hs.row i hi, hs.ent hi, hs.den, hs.row q hq]
  · rw [hlen] at hq
    show ith (T.basis.set i j) q = ith (H.basis.set (e i) j) (e q)
    have h4 := hs.slot q hq
    have h5 := hs.blen
    by_cases e1 : q = i
    · subst e1
      simp [ith, show q < T.basis.length by omega, show e q < H.basis.length by omega]
    · have e2 := hs.inj i q hi hq (Ne.symm e1)
      have := hs.bas q hq
      simp only [ith, List.getD_eq_getElem?_getD] at this ⊢
      rw [List.getElem?_set_ne (Ne.symm e1), List.getElem?_set_ne e2]
      exact this
theorem SubOf.pivot {H T : Tab} {e : Nat → Nat} (hs : SubOf N H e T) (h : Rep N F s c cols H) {i j : Nat} (hi : i < T.rows.length) : SubOf N (pivotP H (e i) j) e (pivotP T i j) := hs.pivot' h.len h.blen hi
theorem DeadOut.pivot {H : Tab} {e : Nat → Nat} {k : Nat} (hd : DeadOut N H e k cols) (h : Rep N F s c cols H) {i j : Nat} (hi : i < k) (hslot : e i < N) (hj : j < cols) : DeadOut N (pivotP H (e i) j) e k cols := by
  intro m hm hno
  obtain ⟨d1, d2, d3⟩ := hd m hm hno
  have hne : m ≠ e i := fun e1 => hno i hi e1.symm
  have hl : (pivotP H (e i) j).last = H.last := rfl
  refine ⟨fun l hl => ?_, ?_, by rw [pivot_J h hslot, upd_other _ _ hne]; exact d3⟩
  · rw [pivot_ent h hslot]; unfold pivR; rw [if_neg hne, d1 l hl, d1 j hj]; simp
  · rw [hl, pivot_ent h hslot]; unfold pivR; rw [if_neg hne, d2, d1 j hj]; simp
theorem Rep.pick {H : Tab} {e : Nat → Nat} (h : Rep N F s c cols H) (hs : SubOf N H e T) (hd : DeadOut N H e T.rows.length cols) (hn : NoRay N cols c H) (hneg : ¬ firstI negB (T.goal.take cols) < 0) : ∃ o, outP T (inP cols T) T.rows.length = some o ∧ o < T.rows.length ∧ Pick N cols H.last c H.J H.ent H.den (e o) (inP cols T) := by
  have hcl := h.colsLe
  have hgl := h.glen
  have hlen := h.len
  rcases firstI_spec negB (T.goal.take cols) with ⟨h1, -⟩ | ⟨k, h1, h2, h3, h4⟩
  · exact absurd h1 hneg
  have hk : inP cols T = k := by unfold inP; rw [h1]; rfl
  rw [hs.goal] at h2 h3 h4
  rw [List.length_take] at h2
  have hat : ∀ m, m < cols → ith (H.goal.take cols) m = gl N c H.J H.ent H.den m := fun m hm => by
    rw [← h.goal m (by unfold Tab.wide; unfold Tab.last at hcl; omega)]
    simp only [ith, List.getD_eq_getElem?_getD, List.getElem?_take]
    rw [if_pos hm]
  rw [hk]
  have hg : gl N c H.J H.ent H.den k < 0 := by
    rw [hat k (by omega)] at h3
    simpa [negB] using h3
  have hshown : ∀ m, m < N → 0 < H.ent m k → ∃ i, i < T.rows.length ∧ e i = m := fun m hm hp => by
    refine Classical.byContradiction fun hno => ?_
    have := (hd m hm (fun i hi e1 => hno ⟨i, hi, e1⟩)).1 k (by omega)
    omega
  obtain ⟨m, hm, hmp⟩ := h.some_pos hn (show k < cols by omega) hg
  obtain ⟨i, hi, rfl⟩ := hshown m hm hmp
  have hsp := outP_spec T k T.rows.length
  cases ho : outP T k T.rows.length with
  | none =>
    rw [ho] at hsp
    have := hsp i hi
    rw [hs.ent hi] at this
    omega
  | some o =>
    rw [ho] at hsp
    obtain ⟨s1, s2, s3⟩ := hsp
    rw [hs.ent s1] at s2
    refine ⟨o, rfl, s1, by omega, hg, fun l hl => ?_, hs.slot o s1, s2, fun m hm hp => ?_⟩
    · have := h4 l hl
      rw [hat l (by omega)] at this
      simpa [negB] using this
    · obtain ⟨q, hq, rfl⟩ := hshown m hm hp
      have hb := s3 q hq (by rw [hs.ent hq]; exact hp)
      have b1 := (h.bas _ (hs.slot q hq)).1
      have b2 := (h.bas _ (hs.slot o s1)).1
      unfold Before at hb
      rw [hs.ent s1, hs.ent hq, hs.ent s1, hs.ent hq, hs.last, hs.bas o s1, hs.bas q hq] at hb
      rcases hb with hb | ⟨hb, hb2⟩
      · exact .inl hb
      · exact .inr ⟨hb, by unfold Tab.J; omega⟩
theorem NoRay.pivot (h : Rep N F s c cols T) (hn : NoRay N cols c T) {i j : Nat} (hp : Pick N cols T.last c T.J T.ent T.den i j) : NoRay N cols c (pivotP T i j) := by
  intro y hk
  refine hn y ?_
  have := (h.plu.ker_pivot (W := T.last + 1) (by have := h.feas.pos; omega) hp.slot (j := j) (by have := hp.pos; omega) y).1
  refine this (fun m hm => ?_)
  have h2 := hk m hm
  rw [← h2]
  exact sm_congr _ (fun l _ => by rw [pivot_ent h hp.slot])
theorem Rep.ker_pivot' (h : Rep N F s c cols T) {i j : Nat} (hi : i < N) (hne : T.ent i j ≠ 0) (y : Nat → Int) : Ker N (T.last + 1) (pivotP T i j).ent y ↔ Ker N (T.last + 1) T.ent y := by
  rw [← h.plu.ker_pivot (W := T.last + 1) (by have := h.feas.pos; omega) hi (j := j) hne y]
  constructor
  · intro hk m hm; rw [← hk m hm]; exact sm_congr _ (fun l _ => by rw [pivot_ent h hi])
  · intro hk m hm; rw [← hk m hm]; exact sm_congr _ (fun l _ => by rw [pivot_ent h hi])
theorem Rep.ker_pivot (h : Rep N F s c cols T) {i j : Nat} (hp : Pick N cols T.last c T.J T.ent T.den i j) (y : Nat → Int) : Ker N (T.last + 1) (pivotP T i j).ent y ↔ Ker N (T.last + 1) T.ent y := h.ker_pivot' hp.slot (by have := hp.pos; omega) y
/-- What a run that ends leaves. -/
theorem run_spec {e : Nat → Nat} : ∀ (f : Nat) (T T' H : Tab), Rep N F s c cols H → SubOf N H e T → DeadOut N H e T.rows.length cols → NoRay N cols c H → runP cols f T = some T' →
    ∃ H', Rep N F s c cols H' ∧ SubOf N H' e T' ∧ DeadOut N H' e T'.rows.length cols ∧ T'.rows.length = T.rows.length ∧ (∀ l, l < cols → 0 ≤ gl N c H'.J H'.ent H'.den l) ∧ H'.sets = H.sets ∧ H'.n = H.n ∧ ∀ y, Ker N (H.last + 1) H'.ent y ↔ Ker N (H.last + 1) H.ent y
  | 0, T, T', H, _, _, _, _, hr => by simp [runP] at hr
  | f + 1, T, T', H, h, hs, hd, hn, hr => by
    unfold runP at hr
    rw [if_pos (Tab.sm_of (hs.small h))] at hr
    by_cases hneg : firstI negB (T.goal.take cols) < 0
    · rw [if_pos hneg, Option.some.injEq] at hr
      subst hr
      refine ⟨H, h, hs, hd, rfl, fun l hl => ?_, rfl, rfl, fun y => Iff.rfl⟩
      have hcl := h.colsLe
      have hgl := h.glen
      rcases firstI_spec negB (T.goal.take cols) with ⟨-, h2⟩ | ⟨k, h1, -⟩
      · have hw : l < H.wide := by unfold Tab.wide; unfold Tab.last at hcl; omega
        have h3 := h2 l (by rw [List.length_take, hs.goal]; omega)
        have h4 : ith (T.goal.take cols) l = ith H.goal l := by
          rw [hs.goal]
          simp only [ith, List.getD_eq_getElem?_getD, List.getElem?_take]
          rw [if_pos hl]
        rw [h4, h.goal l hw] at h3
        simpa [negB] using h3
      · omega
    · rw [if_neg hneg] at hr
      obtain ⟨o, ho, ho1, hp⟩ := h.pick hs hd hn hneg
      have e1 : (firstI negB (T.goal.take cols)).toNat = inP cols T := rfl
      rw [e1, ho] at hr
      have hl2 : (pivotP T o (inP cols T)).rows.length = T.rows.length := by simp [pivotP, stepTo]
      obtain ⟨H', r1, r2, r3, r4, r5, r6, r7, r8⟩ := run_spec f _ T' _ (h.pivot hp) (hs.pivot h ho1) (by rw [hl2]; exact hd.pivot h ho1 (hs.slot o ho1) hp.col) (hn.pivot h hp) hr
      exact ⟨H', r1, r2, r3, by rw [r4, hl2], r5, r6, r7, fun y => (r8 y).trans (h.ker_pivot hp y)⟩
def nxP (cols : Nat) (e : Nat → Nat) (p : Tab × Tab) : Tab × Tab := match outP p.2 (inP cols p.2) p.2.rows.length with | none => p | some o => (pivotP p.1 (e o) (inP cols p.2), pivotP p.2 o (inP cols p.2))
def itP (cols : Nat) (e : Nat → Nat) (p : Tab × Tab) : Nat → Tab × Tab
  | 0 => p
  | t + 1 => nxP cols e (itP cols e p t)
/-- A run ends. -/
theorem run_ends {H : Tab} {e : Nat → Nat} (h : Rep N F s c cols H) (hs : SubOf N H e T) (hd : DeadOut N H e T.rows.length cols) (hn : NoRay N cols c H) : ∃ f T', runP cols f T = some T' := by
  refine Classical.byContradiction fun hno => ?_
  have hnone : ∀ f, runP cols f T = none := fun f => by
    cases hr : runP cols f T with
    | none => rfl
    | some T' => exact absurd ⟨f, T', hr⟩ hno
  have key : ∀ t, Rep N F s c cols (itP cols e (H, T) t).1 ∧ SubOf N (itP cols e (H, T) t).1 e (itP cols e (H, T) t).2 ∧ DeadOut N (itP cols e (H, T) t).1 e (itP cols e (H, T) t).2.rows.length cols ∧ NoRay N cols c (itP cols e (H, T) t).1 ∧ (∀ f, runP cols f (itP cols e (H, T) t).2 = none) ∧ (itP cols e (H, T) t).1.last = H.last := by
    intro t
    induction t with
    | zero => exact ⟨h, hs, hd, hn, hnone, rfl⟩
    | succ t ih =>
      obtain ⟨i1, i2, i3, i4, i5, i6⟩ := ih
      have hneg : ¬ firstI negB ((itP cols e (H, T) t).2.goal.take cols) < 0 := fun hneg => by
        have := i5 1
        unfold runP at this
        rw [if_pos (Tab.sm_of (i2.small i1)), if_pos hneg] at this
        simp at this
      obtain ⟨o, ho, ho1, hp⟩ := i1.pick i2 i3 i4 hneg
      have e1 : itP cols e (H, T) (t + 1) = (pivotP (itP cols e (H, T) t).1 (e o) (inP cols (itP cols e (H, T) t).2), pivotP (itP cols e (H, T) t).2 o (inP cols (itP cols e (H, T) t).2)) := by rw [itP, nxP, ho]
      rw [e1]
      have hl2 : (pivotP (itP cols e (H, T) t).2 o (inP cols (itP cols e (H, T) t).2)).rows.length = (itP cols e (H, T) t).2.rows.length := by simp [pivotP, stepTo]
      refine ⟨i1.pivot hp, i2.pivot i1 ho1, by rw [hl2]; exact i3.pivot i1 ho1 (i2.slot o ho1) hp.col, i4.pivot i1 hp, fun f => ?_, i6⟩
      have := i5 (f + 1)
      unfold runP at this
      rw [if_pos (Tab.sm_of (i2.small i1)), if_neg hneg] at this
      have e2 : (firstI negB ((itP cols e (H, T) t).2.goal.take cols)).toNat = inP cols (itP cols e (H, T) t).2 := rfl
      rw [e2, ho] at this
      exact this
  have hpick : ∀ t, ∃ o, outP (itP cols e (H, T) t).2 (inP cols (itP cols e (H, T) t).2) (itP cols e (H, T) t).2.rows.length = some o ∧ Pick N cols (itP cols e (H, T) t).1.last c (itP cols e (H, T) t).1.J (itP cols e (H, T) t).1.ent (itP cols e (H, T) t).1.den (e o) (inP cols (itP cols e (H, T) t).2) := fun t => by
    obtain ⟨i1, i2, i3, i4, i5, i6⟩ := key t
    have hneg : ¬ firstI negB ((itP cols e (H, T) t).2.goal.take cols) < 0 := fun hneg => by
      have := i5 1
      unfold runP at this
      rw [if_pos (Tab.sm_of (i2.small i1)), if_pos hneg] at this
      simp at this
    obtain ⟨o, ho, ho1, hp⟩ := i1.pick i2 i3 i4 hneg
    exact ⟨o, ho, hp⟩
  obtain ⟨o, ho⟩ := Classical.axiomOfChoice hpick
  have hnext : ∀ t, (itP cols e (H, T) (t + 1)).1 = pivotP (itP cols e (H, T) t).1 (e (o t)) (inP cols (itP cols e (H, T) t).2) := fun t => by rw [itP, nxP, (ho t).1]
  have hE : Endless N cols H.last c F s (fun t => (itP cols e (H, T) t).1.J) (fun t => (itP cols e (H, T) t).1.ent) (fun t => (itP cols e (H, T) t).1.den) (fun t => e (o t)) (fun t => inP cols (itP cols e (H, T) t).2) := by
    refine ⟨h.colsLe, fun t => (key t).1.plu, fun t => by rw [← (key t).2.2.2.2.2]; exact (key t).1.feas, fun t => by rw [← (key t).2.2.2.2.2]; exact (ho t).2, fun t => ?_, fun t => ?_, fun t => ?_, fun t m hm => ?_⟩
    · rw [hnext]
      funext m
      exact pivot_J (key t).1 (ho t).2.slot m
    · rw [hnext]
      funext m l
      exact pivot_ent (key t).1 (ho t).2.slot m l
    · rw [hnext]
      rfl
    · have h1 := ((key t).1.bas m hm).2
      have h2 := (key t).2.2.2.2.2
      omega
  exact hE.false
end
end Go.Proofs.Ytcngecibljgndaa
