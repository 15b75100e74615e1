/- The first tableau; a negated pivot; what an optimum says; plain. -/
import Derived.Test.YtcngecibljgndaaMLD
import Derived.Test.YtcngecibljgndaaMQX
import Derived.Test.YtcngecibljgndaaMQH
namespace Go.Proofs.Ytcngecibljgndaa
open Go.RowKit Go.Shelf

theorem rowOf_at (n : Nat) (ss : List Int) (r l : Nat) (hr : r < n) (hl : l < ss.length + n + 1) : ith (rowOf n ss r) l = if l < ss.length then inB (ith ss l) r else if l = ss.length + r then 1 else if l = ss.length + n then 1 else 0 := by
  have h1 : (rowK n ss r ss.length).length = ss.length + n + 1 := by simp [rowK]
  unfold rowOf
  rw [ith_set _ _ _ _ (by rw [List.length_set, h1]; omega), ith_set _ _ _ _ (by rw [h1]; omega)]
  unfold rowK
  rw [ith_map_range' _ _ _ (by omega)]
  by_cases h2 : l < ss.length
  · rw [if_neg (by omega), if_neg (by omega), if_pos h2, if_pos h2]
  · rw [if_neg h2, if_neg h2]
    by_cases h3 : l = ss.length + r
    · rw [if_neg (by omega), if_pos h3, if_pos h3]
    · rw [if_neg h3, if_neg h3]
theorem rowOf_length (n : Nat) (ss : List Int) (r : Nat) : (rowOf n ss r).length = ss.length + n + 1 := by simp [rowOf, rowK]
theorem tab_row (n : Nat) (ss : List Int) (r : Nat) (hr : r < n) : (tabK n ss n).row r = rowOf n ss r := by
  show ((List.range n).map (rowOf n ss)).getD r [] = _
  simp [hr]
theorem tab_ent (n : Nat) (ss : List Int) (r l : Nat) (hr : r < n) (hl : l < ss.length + n + 1) : (tabK n ss n).ent r l = if l < ss.length then inB (ith ss l) r else if l = ss.length + r then 1 else if l = ss.length + n then 1 else 0 := by
  show ith ((tabK n ss n).row r) l = _
  rw [tab_row _ _ _ hr]; exact rowOf_at n ss r l hr hl
theorem tab_long (n : Nat) (ss : List Int) (r l : Nat) (hr : r < n) (hl : ss.length + n + 1 ≤ l) : (tabK n ss n).ent r l = 0 := by
  show ith ((tabK n ss n).row r) l = 0
  rw [tab_row _ _ _ hr]; exact ith_long (by rw [rowOf_length]; exact hl)
theorem inB_01 (s : Int) (c : Nat) : inB s c = 0 ∨ inB s c = 1 := by unfold inB; split <;> simp
theorem tab_01 (n : Nat) (ss : List Int) (r l : Nat) (hr : r < n) : (tabK n ss n).ent r l = 0 ∨ (tabK n ss n).ent r l = 1 := by
  by_cases hl : l < ss.length + n + 1
  · rw [tab_ent n ss r l hr hl]
    split
    · exact inB_01 _ _
    · split
      · exact .inr rfl
      · split
        · exact .inr rfl
        · exact .inl rfl
  · exact .inl (tab_long n ss r l hr (by omega))
theorem tab_J (n : Nat) (ss : List Int) (q : Nat) (hq : q < n) : (tabK n ss n).J q = ss.length + q ∧ 0 ≤ ith (tabK n ss n).basis q := by
  have e : ith (tabK n ss n).basis q = ((ss.length + q : Nat) : Int) := ith_map_range' _ _ _ hq
  refine ⟨?_, by rw [e]; omega⟩
  show (ith (tabK n ss n).basis q).toNat = _
  rw [e]; rfl
theorem goalOf_length (n : Nat) (ss : List Int) : ∀ k, (goalOf n ss k).length = ss.length + n + 1
  | 0 => by simp [goalOf]
  | k + 1 => by simp [goalOf, lessRow]
theorem goalOf_at (n : Nat) (ss : List Int) (l : Nat) (hl : l < ss.length + n + 1) : ∀ k, k ≤ n → ith (goalOf n ss k) l = if l < ss.length ∨ l = ss.length + n then - sm k (fun r => (tabK n ss n).ent r l) else 0
  | 0, _ => by
    have : ith (goalOf n ss 0) l = 0 := by simp [goalOf, ith, hl]
    rw [this]; simp [sm]
  | k + 1, hk => by
    have ih := goalOf_at n ss l hl k (by omega)
    have e : ith (goalOf n ss (k + 1)) l = if l < ss.length + n + 1 ∧ (l < ss.length ∨ l = ss.length + n) then ith (goalOf n ss k) l - ith (rowOf n ss k) l else ith (goalOf n ss k) l := ith_map_range' _ _ _ hl
    have e2 : (tabK n ss n).ent k l = ith (rowOf n ss k) l := by show ith ((tabK n ss n).row k) l = _; rw [tab_row _ _ _ (by omega)]
    rw [e, ih, sm, e2]
    by_cases h : l < ss.length ∨ l = ss.length + n
    · rw [if_pos ⟨hl, h⟩, if_pos h, if_pos h]; omega
    · rw [if_neg (fun h2 => h h2.2), if_neg h, if_neg h]
/-- The costs of the beginning: one for each that is only there for it. -/
def cost1 (m n : Nat) (l : Nat) : Int := if m ≤ l ∧ l < m + n then 1 else 0
def colOf (n : Nat) (ss : List Int) : Nat → Nat → Int := fun l r => (tabK n ss n).ent r l
theorem fct_seven {n : Nat} (h : n ≤ 7) : fct n ≤ 5040 := by
  have : n = 0 ∨ n = 1 ∨ n = 2 ∨ n = 3 ∨ n = 4 ∨ n = 5 ∨ n = 6 ∨ n = 7 := by omega
  rcases this with rfl | rfl | rfl | rfl | rfl | rfl | rfl | rfl <;> decide
theorem rep_start (n : Nat) (ss : List Int) (hn : 1 ≤ n ∧ n ≤ 7) (hs : ss.length ≤ 128) : Rep n (Fof n (colOf n ss)) 1 (cost1 ss.length n) (ss.length + n) (tabK n ss n) := by
  have hJ : ∀ m r, m < n → r < n → colOf n ss ((tabK n ss n).J m) r = if r = m then 1 else 0 := fun m r hm hr => by
    rw [(tab_J n ss m hm).1]
    unfold colOf
    rw [tab_ent n ss r _ hr (by omega), if_neg (by omega)]
    by_cases e : r = m
    · subst e; rw [if_pos rfl, if_pos rfl]
    · rw [if_neg (by omega), if_neg (by omega), if_neg e]
  have hw : (tabK n ss n).wide = ss.length + n + 1 := rfl
  have hl : (tabK n ss n).last = ss.length + n := rfl
  have hplu := plu_start n (colOf n ss) (tabK n ss n).J hJ
  refine ⟨by show ((List.range n).map (rowOf n ss)).length = n; simp, by show ((List.range n).map fun q => ((ss.length + q : Nat) : Int)).length = n; simp, fun i hi => by rw [tab_row _ _ _ hi, rowOf_length]; rfl, goalOf_length n ss n, hplu, fun l hl2 => ?_, ⟨by show (0 : Int) < 1; omega, fun m hm => ?_⟩, fun m hm => ⟨(tab_J n ss m hm).2, by rw [(tab_J n ss m hm).1, hl]; omega⟩, fun m hm hc l _ => ?_, fun x => ?_, fun l => by unfold cost1; split <;> omega, hn.1, hn.2, hs, hn.2, by rw [hl]; exact Nat.le_refl _⟩
  · rw [hw] at hl2
    have hg := goalOf_at n ss l hl2 n (Nat.le_refl _)
    have e1 : ith (tabK n ss n).goal l = ith (goalOf n ss n) l := rfl
    rw [e1, hg]
    unfold gl
    have e2 : (sm n fun m => cost1 ss.length n ((tabK n ss n).J m) * (tabK n ss n).ent m l) = sm n fun m => (tabK n ss n).ent m l := sm_congr n (fun m hm => by
      rw [(tab_J n ss m hm).1]
      have : cost1 ss.length n (ss.length + m) = 1 := by unfold cost1; rw [if_pos (by omega)]
      rw [this, Int.one_mul])
    have e3 : (tabK n ss n).den = 1 := rfl
    rw [e2, e3, Int.one_mul]
    by_cases h : l < ss.length ∨ l = ss.length + n
    · rw [if_pos h]
      have : cost1 ss.length n l = 0 := by unfold cost1; rw [if_neg (by omega)]
      rw [this]; omega
    · rw [if_neg h]
      have h1 : cost1 ss.length n l = 1 := by unfold cost1; rw [if_pos (by omega)]
      have h2 : (sm n fun m => (tabK n ss n).ent m l) = 1 := by
        obtain ⟨q, rfl⟩ : ∃ q, l = ss.length + q := ⟨l - ss.length, by omega⟩
        rw [sm_congr n (g := fun m => if m = q then 1 else 0) (fun m hm => by
          rw [tab_ent n ss m _ hm (by omega), if_neg (by omega)]
          by_cases e : m = q
          · subst e; rw [if_pos rfl, if_pos rfl]
          · rw [if_neg (by omega), if_neg (by omega), if_neg e]), sm_one q (fun _ => 1), if_pos (by omega)]
      rw [h1, h2]; rfl
  · rw [hl, tab_ent n ss m _ hm (by omega), if_neg (by omega)]
    split
    · omega
    · rw [if_pos rfl]; omega
  · rw [(tab_J n ss m hm).1] at hc; omega
  · have hb := det_bound n (fun s => colOf n ss (x s)) (fun s r _ hr => by
      have := tab_01 n ss r (x s) hr
      unfold colOf
      omega)
    have hf := fct_seven hn.2
    unfold Fof
    omega
section
variable {N : Nat} {F : (Nat → Nat) → Int} {s : Int} {c : Nat → Int} {cols : Nat} {T : Tab}
theorem Rep.pivot0 (h : Rep N F s c cols T) {i j : Nat} (hi : i < N) (hj : j < cols) (hp : 0 < T.ent i j) (hz : T.ent i T.last = 0) : Rep N F s c cols (pivotP T i j) := by
  refine h.pivotF hi hj ⟨hp, fun m hm => ?_⟩
  unfold pivR
  split
  · omega
  · rw [hz, Int.mul_zero, Int.sub_zero]
    exact Int.ediv_nonneg (Int.mul_nonneg (h.feas.rhs m hm) (by omega)) (by have := h.feas.pos; omega)
theorem neg_row (T : Tab) (i q : Nat) (hq : q < T.rows.length) (hne : q ≠ i) : (negP T i).row q = T.row q := by
  show (negTo T i T.wide).row q = _
  rw [negTo_row _ _ _ _ hq, if_neg hne]
theorem neg_ent (h : Rep N F s c cols T) {i : Nat} (hi : i < N) (l : Nat) : (negP T i).ent i l = - T.ent i l := by
  have hl := h.len
  have hw := h.wid i hi
  by_cases h2 : l < T.wide
  · show (negTo T i T.wide).ent i l = _
    rw [negTo_ent _ _ _ _ (by omega) (by omega), if_pos h2]
  · have e1 : T.ent i l = 0 := ith_long (by omega)
    have e2 : (negP T i).ent i l = 0 := by
      show ith ((negTo T i T.wide).row i) l = 0
      rw [negTo_row _ _ _ _ (by omega), if_pos rfl]
      exact ith_long (by simp; omega)
    rw [e1, e2]; rfl
theorem negPivot_ent (h : Rep N F s c cols T) {i j : Nat} (hi : i < N) (m l : Nat) : (pivotP (negP T i) i j).ent m l = - (pivotP T i j).ent m l := by
  have hlen := h.len
  have hl2 : (negP T i).rows.length = N := by rw [negP, negTo_len]; exact hlen
  by_cases hm : m < N
  · show ith ((pivotP (negP T i) i j).row m) l = - ith ((pivotP T i j).row m) l
    rw [pivot_row, pivot_row, stepTo_row _ _ _ _ _ (by omega), stepTo_row _ _ _ _ _ (by omega)]
    by_cases e : m = i
    · subst e
      rw [if_neg (by omega), if_neg (by omega)]
      exact neg_ent h hi l
    · rw [if_pos ⟨by omega, e⟩, if_pos ⟨by omega, e⟩, neg_row _ _ _ (by omega) e]
      by_cases hl : l < T.wide
      · rw [stepRow_at _ _ _ _ _ _ (by rw [h.wid m hm]; exact hl), stepRow_at _ _ _ _ _ _ (by rw [h.wid m hm]; exact hl), neg_ent h hi]
        have e1 : ith ((negP T i).row i) l = - T.ent i l := neg_ent h hi l
        have e2 : ith (T.row i) l = T.ent i l := rfl
        have e3 : (negP T i).den = T.den := rfl
        rw [e1, e2, e3]
        have e4 : ith (T.row m) l * -T.ent i j - ith (T.row m) j * -T.ent i l = -(ith (T.row m) l * T.ent i j - ith (T.row m) j * T.ent i l) := by grind
        rw [e4, Int.neg_tdiv]
      · rw [ith_long (by rw [stepRow_length, h.wid m hm]; omega), ith_long (by rw [stepRow_length, h.wid m hm]; omega)]; rfl
  · have r1 : ∀ T' : Tab, T'.rows.length = N → T'.ent m l = 0 := fun T' hT' => by
      show ith (T'.row m) l = 0
      have : T'.row m = [] := by
        unfold Tab.row
        rw [List.getD_eq_getElem?_getD, List.getElem?_eq_none (by omega)]; rfl
      rw [this]; simp [ith]
    rw [r1 _ (by simp [pivotP, stepTo]; exact hl2), r1 _ (by simp [pivotP, stepTo]; exact hlen)]; rfl
theorem Rep.negPivot (h : Rep N F s c cols T) {i j : Nat} (hi : i < N) (hj : j < cols) (hp : T.ent i j < 0) (hz : T.ent i T.last = 0) : Rep N F (-s) c cols (pivotP (negP T i) i j) := by
  have hlen := h.len
  have hpos := h.feas.pos
  have hl2 : (negP T i).rows.length = N := by rw [negP, negTo_len]; exact hlen
  have hden : (pivotP (negP T i) i j).den = - T.ent i j := neg_ent h hi j
  have hplu := (h.plu.pivot (j := j) (by omega) hi).neg
  have hbas : (pivotP (negP T i) i j).basis = (pivotP T i j).basis := rfl
  have hgoal : ∀ l, l < T.wide → ith (pivotP (negP T i) i j).goal l = - ith (pivotP T i j).goal l := fun l hl => by
    have e1 : ith (pivotP (negP T i) i j).goal l = (ith T.goal l * (negP T i).ent i j - ith T.goal j * ith ((negP T i).row i) l).tdiv T.den := stepRow_at _ _ _ _ _ _ (by rw [show (negP T i).goal = T.goal from rfl, h.glen]; exact hl)
    have e2 : ith (pivotP T i j).goal l = (ith T.goal l * T.ent i j - ith T.goal j * ith (T.row i) l).tdiv T.den := stepRow_at _ _ _ _ _ _ (by rw [h.glen]; exact hl)
    have e3 : ith ((negP T i).row i) l = - T.ent i l := neg_ent h hi l
    rw [e1, e2, neg_ent h hi, e3, ← Int.neg_tdiv]
    have e5 : ith (T.row i) l = T.ent i l := rfl
    rw [e5]
    congr 1
    grind
  have hwd : ∀ m, m < N → ((pivotP (negP T i) i j).row m).length = T.wide := fun m hm => by
    rw [pivot_row, stepTo_row _ _ _ _ _ (by omega)]
    by_cases e : m = i
    · subst e
      rw [if_neg (by omega)]
      show ((negTo T m T.wide).row m).length = _
      rw [negTo_row _ _ _ _ (by omega), if_pos rfl]
      simp; exact h.wid m hm
    · rw [if_pos ⟨by omega, e⟩, stepRow_length, neg_row _ _ _ (by omega) e]; exact h.wid m hm
  have hJm : ∀ m, (pivotP (negP T i) i j).J m = upd T.J i j m := fun m => pivot_J h hi m
  have hgl : ∀ l, gl N c (pivotP (negP T i) i j).J (pivotP (negP T i) i j).ent (pivotP (negP T i) i j).den l = - gl N c (upd T.J i j) (pivR T.ent T.den i j) (T.ent i j) l := fun l => by
    unfold gl
    rw [hden]
    have e1 : (sm N fun m => c ((pivotP (negP T i) i j).J m) * (pivotP (negP T i) i j).ent m l) = - sm N fun m => c (upd T.J i j m) * pivR T.ent T.den i j m l := by
      rw [← sm_neg]
      exact sm_congr N (fun m _ => by rw [hJm, negPivot_ent h hi, pivot_ent h hi]; grind)
    rw [e1]; grind
  refine ⟨by simp [pivotP, stepTo]; exact hl2, by show (T.basis.set i j).length = N; rw [List.length_set]; exact h.blen, fun m hm => hwd m hm, by show (stepRow _ _ _ _ T.goal).length = _; rw [stepRow_length]; exact h.glen, ?_, fun l hl => ?_, ⟨by rw [hden]; omega, fun m hm => ?_⟩, fun m hm => ?_, fun m hm hc l hl => ?_, h.bnd, h.cst, h.one, h.seven, h.sets, h.n, h.colsLe⟩
  · rw [hden]
    exact hplu.congr (fun m _ => hJm m) (fun m l _ => by rw [negPivot_ent h hi, pivot_ent h hi])
  · have hl2 : l < T.wide := hl
    rw [hgl, hgoal l hl2]
    congr 1
    have hjw : j < T.wide := by have := h.colsLe; unfold Tab.last at this; unfold Tab.wide; omega
    have hg := h.plu.gl_pivot c (i := i) (j := j) hi l
    have e1 : ith (pivotP T i j).goal l = (ith T.goal l * T.ent i j - ith T.goal j * ith (T.row i) l).tdiv T.den := stepRow_at _ _ _ _ _ _ (by rw [h.glen]; exact hl2)
    have e2 : ith (T.row i) l = T.ent i l := rfl
    rw [e1, h.goal l hl2, h.goal j hjw, e2, ← hg, Int.mul_tdiv_cancel_left _ (by omega)]
  · have e : (pivotP (negP T i) i j).last = T.last := rfl
    rw [e, negPivot_ent h hi, pivot_ent h hi]
    by_cases e2 : m = i
    · subst e2; unfold pivR; rw [if_pos rfl, hz]; omega
    · have h3 := h.plu.pivR_mul (j := j) hi hm e2 T.last
      rw [hz, Int.mul_zero, Int.sub_zero] at h3
      have h4 := Int.mul_nonpos_of_nonneg_of_nonpos (h.feas.rhs m hm) (show T.ent i j ≤ 0 by omega)
      rcases Int.lt_or_le 0 (pivR T.ent T.den i j m T.last) with h5 | h5
      · have := Int.mul_pos hpos h5; omega
      · omega
  · rw [hJm]
    have h1 := h.bas m hm
    show 0 ≤ ith (T.basis.set i j) m ∧ _
    have hb := h.blen
    have hcl := h.colsLe
    have e : (pivotP (negP T i) i j).last = T.last := rfl
    rw [e]
    by_cases e : m = i
    · subst e
      rw [upd_same]
      refine ⟨?_, by omega⟩
      simp [ith, show m < T.basis.length by omega]
    · rw [upd_other _ _ e]
      refine ⟨?_, h1.2⟩
      have : ith (T.basis.set i j) m = ith T.basis m := by simp [ith, Ne.symm e]
      rw [this]; exact h1.1
  · rw [hJm] at hc
    by_cases e : m = i
    · rw [e, upd_same] at hc; omega
    · rw [upd_other _ _ e] at hc
      rw [negPivot_ent h hi, pivot_ent h hi]
      unfold pivR
      rw [if_neg e, h.dead m hm hc l hl, h.dead m hm hc j hj]
      simp
theorem Rep.ker_neg (h : Rep N F s c cols T) {i j : Nat} (hi : i < N) (hne : T.ent i j ≠ 0) (y : Nat → Int) : Ker N (T.last + 1) (pivotP (negP T i) i j).ent y ↔ Ker N (T.last + 1) T.ent y := by
  rw [← h.ker_pivot' hi hne y]
  constructor
  · intro hk m hm
    have := hk m hm
    have e : (sm (T.last + 1) fun l => (pivotP (negP T i) i j).ent m l * y l) = - sm (T.last + 1) fun l => (pivotP T i j).ent m l * y l := by
      rw [← sm_neg]; exact sm_congr _ (fun l _ => by rw [negPivot_ent h hi, Int.neg_mul])
    omega
  · intro hk m hm
    have := hk m hm
    have e : (sm (T.last + 1) fun l => (pivotP (negP T i) i j).ent m l * y l) = - sm (T.last + 1) fun l => (pivotP T i j).ent m l * y l := by
      rw [← sm_neg]; exact sm_congr _ (fun l _ => by rw [negPivot_ent h hi, Int.neg_mul])
    omega
/-- The solution of a tableau. -/
def solY (N : Nat) (T : Tab) : Nat → Int := fun l => (if l = T.last then - T.den else 0) - sm N fun m => if l = T.J m then - T.ent m T.last else 0
theorem Rep.sol_sum (h : Rep N F s c cols T) (f : Nat → Int) : (sm (T.last + 1) fun l => f l * solY N T l) = (sm N fun m => f (T.J m) * T.ent m T.last) - f T.last * T.den := by
  have := sm_dir (W := T.last + 1) f T.J (fun m => - T.ent m T.last) T.last (- T.den) (by omega) N (fun m hm => by have := (h.bas m hm).2; omega)
  unfold solY
  rw [this]
  have e : (sm N fun m => f (T.J m) * -T.ent m T.last) = - sm N fun m => f (T.J m) * T.ent m T.last := by rw [← sm_neg]; exact sm_congr _ (fun m _ => by rw [Int.mul_neg])
  rw [e, Int.mul_neg]; omega
theorem Rep.sol_ker (h : Rep N F s c cols T) : Ker N (T.last + 1) T.ent (solY N T) := by
  intro t ht
  rw [h.sol_sum (fun l => T.ent t l), sm_split _ t N ht, h.plu.unit ht ht, if_pos rfl]
  have : (sm N fun m => if m = t then 0 else T.ent t (T.J m) * T.ent m T.last) = 0 := sm_all0 N fun m hm => by
    by_cases e : m = t
    · rw [if_pos e]
    · rw [if_neg e, h.plu.unit ht hm, if_neg e, Int.zero_mul]
  rw [this]; grind
theorem Rep.sol_last (h : Rep N F s c cols T) : solY N T T.last = - T.den := by
  unfold solY
  rw [if_pos rfl, sm_all0 N (fun m hm => by have := (h.bas m hm).2; rw [if_neg (by omega)])]
  omega
theorem Rep.sol_at (h : Rep N F s c cols T) {m : Nat} (hm : m < N) : solY N T (T.J m) = T.ent m T.last := by
  unfold solY
  have h1 := (h.bas m hm).2
  rw [if_neg (by omega), sm_split _ m N hm, if_pos rfl]
  rw [sm_all0 N (fun q hq => by
    by_cases e : q = m
    · rw [if_pos e]
    · rw [if_neg e]
      refine if_neg fun e2 => ?_
      have := h.plu.alt.same T.J m q hm hq (Ne.symm e) e2
      have h3 := h.plu.val
      have h4 := h.feas.pos
      rw [this] at h3
      omega)]
  omega
theorem Rep.sol_out (_ : Rep N F s c cols T) {l : Nat} (hl : l ≠ T.last) (ho : ¬ In N T.J l) : solY N T l = 0 := by
  unfold solY
  rw [if_neg hl, sm_all0 N (fun m hm => if_neg fun e => ho ⟨m, hm, e.symm⟩)]
  rfl
theorem Rep.sol_nonneg (h : Rep N F s c cols T) {l : Nat} (hl : l ≠ T.last) : 0 ≤ solY N T l := by
  by_cases hi : In N T.J l
  · obtain ⟨m, hm, e⟩ := hi
    rw [← e, h.sol_at hm]; exact h.feas.rhs m hm
  · rw [h.sol_out hl hi]; exact Int.le_refl _
end
end Go.Proofs.Ytcngecibljgndaa
