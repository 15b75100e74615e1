/- Where the run of a game ends there is a saddle, of numbers that are not great; plain. -/
import Derived.Test.YtefmioppamdceaaDoorMIL
namespace Go.Proofs.YtefmioppamdceaaDoor

theorem sm_append (f : Nat → Int) (m : Nat) : ∀ k, sm (m + k) f = sm m f + sm k fun i => f (m + i)
  | 0 => by simp [sm]
  | k + 1 => by rw [show m + (k + 1) = (m + k) + 1 from rfl, sm, sm_append f m k, sm]; omega
section
variable {n m : Nat} {A : Nat → Nat → Int} {T : GT}
/-- The direction of a column. -/
def dirG (n : Nat) (T : GT) (j l : Nat) : Int := (if l = j then T.b else 0) - sm n fun t => if l = T.J t then T.R t j else 0
theorem Gm.dir (h : Gm n m A T) {j : Nat} (hj : j ≤ m + n) (f : Nat → Int) : (sm (m + n + 1) fun l => f l * dirG n T j l) = f j * T.b - sm n fun t => f (T.J t) * T.R t j :=
  sm_dir f T.J (fun t => T.R t j) j T.b (by omega) n (fun t ht => by have := h.bas t ht; omega)
theorem Gm.dir_ker (h : Gm n m A T) {j : Nat} (hj : j ≤ m + n) : Ker n (m + n + 1) T.R (dirG n T j) := by
  intro t ht
  rw [h.dir hj (fun l => T.R t l), sm_split _ t n ht, h.plu.unit ht ht, if_pos rfl]
  have : (sm n fun k => if k = t then 0 else T.R t (T.J k) * T.R k j) = 0 := sm_all0 n fun k hk => by
    by_cases e : k = t
    · rw [if_pos e]
    · rw [if_neg e, h.plu.unit ht hk, if_neg e, Int.zero_mul]
  rw [this]; grind
/-- What the columns get. -/
def colX (n : Nat) (T : GT) (last j : Nat) : Int := sm n fun t => if j = T.J t then T.R t last else 0
theorem Gm.J_inj (h : Gm n m A T) {s t : Nat} (hs : s < n) (ht : t < n) (e : T.J s = T.J t) : s = t := by
  refine Classical.byContradiction fun hne => ?_
  have h1 := h.plu.alt.same T.J s t hs ht hne e
  have h2 := h.plu.val
  have h3 := h.feas.pos
  omega
theorem Gm.colX_in (h : Gm n m A T) {t : Nat} (ht : t < n) (last : Nat) : colX n T last (T.J t) = T.R t last := by
  unfold colX
  rw [sm_split _ t n ht, if_pos rfl]
  have : (sm n fun s => if s = t then 0 else if T.J t = T.J s then T.R s last else 0) = 0 := sm_all0 n fun s hs => by
    by_cases e : s = t
    · rw [if_pos e]
    · rw [if_neg e, if_neg (fun e2 => e (h.J_inj hs ht e2.symm))]
  omega
theorem colX_out {last j : Nat} (h : ∀ t, t < n → T.J t ≠ j) : colX n T last j = 0 := sm_all0 n fun t ht => by rw [if_neg (fun e => h t ht e.symm)]
theorem Gm.colX_nonneg (h : Gm n m A T) (j : Nat) : 0 ≤ colX n T (m + n) j := sm_nonneg n fun t ht => by
  by_cases e : j = T.J t
  · simp only [if_pos e]; exact h.feas.rhs t ht
  · simp only [if_neg e]; exact Int.le_refl _
theorem Gm.dir_last (_h : Gm n m A T) {l : Nat} (hl : l < m + n) : dirG n T (m + n) l = - colX n T (m + n) l := by
  unfold dirG colX
  rw [if_neg (by omega)]; omega
theorem Gm.dir_end (h : Gm n m A T) : dirG n T (m + n) (m + n) = T.b := by
  unfold dirG
  rw [if_pos rfl, sm_all0 n (fun t ht => by rw [if_neg (by have := h.bas t ht; omega)])]; omega
theorem Gm.rows_pay (h : Gm n m A T) {i : Nat} (hi : i < n) : (sm m fun l => A i l * colX n T (m + n) l) ≤ T.b := by
  have h1 := (h.ker _).1 (h.dir_ker (j := m + n) (Nat.le_refl _)) i hi
  rw [ent0_row hi, h.dir_end, h.dir_last (l := m + i) (by omega)] at h1
  have e : (sm m fun l => A i l * dirG n T (m + n) l) = - sm m fun l => A i l * colX n T (m + n) l := by
    rw [← sm_neg]
    refine sm_congr _ (fun l hl => ?_)
    rw [h.dir_last (by omega), Int.mul_neg]
  have := h.colX_nonneg (m + i)
  omega
theorem Gm.sumX (h : Gm n m A T) : sm m (colX n T (m + n)) = T.R n (m + n) := by
  have h1 := ker_goal (c := cost0 m) (J := T.J) (b := T.b) (h.dir_ker (j := m + n) (Nat.le_refl _))
  rw [h.dir (Nat.le_refl _) (fun l => gl n (cost0 m) T.J T.R T.b l), sm_all0 n (fun t ht => by rw [h.plu.gl_unit _ ht, Int.zero_mul]), Int.sub_zero, ← h.goal] at h1
  have e : (sm (m + n + 1) fun l => cost0 m l * dirG n T (m + n) l) = sm m (colX n T (m + n)) := by
    rw [show m + n + 1 = m + (n + 1) from rfl, sm_append]
    have z : (sm (n + 1) fun i => cost0 m (m + i) * dirG n T (m + n) (m + i)) = 0 := sm_all0 _ fun i _ => by unfold cost0; rw [if_neg (by omega), Int.zero_mul]
    rw [z, Int.add_zero]
    refine sm_congr _ (fun l hl => ?_)
    rw [h.dir_last (by omega)]
    unfold cost0
    rw [if_pos hl]; omega
  rw [e, Int.mul_comm] at h1
  have hb := h.feas.pos
  exact (Int.eq_of_mul_eq_mul_left (by omega) h1).symm
/-- What the goal says of a column. -/
theorem Gm.col_goal (h : Gm n m A T) {j : Nat} (hj : j < m ∨ j = m + n) : T.R n j = T.b * cost0 m j + sm n fun i => ent0 n m A i j * T.R n (m + i) := by
  obtain ⟨u, hu⟩ : ∃ u : Nat → Int, u = fun l => (if l = j then 1 else 0) - (if m ≤ l ∧ l < m + n then ent0 n m A (l - m) j else 0) := ⟨_, rfl⟩
  have hsum : ∀ f : Nat → Int, (sm (m + n + 1) fun l => f l * u l) = f j - sm n fun i => ent0 n m A i j * f (m + i) := by
    intro f
    have e1 : (sm (m + n + 1) fun l => f l * u l) = (sm (m + n + 1) fun l => if l = j then f l else 0) - sm (m + n + 1) fun l => if m ≤ l ∧ l < m + n then ent0 n m A (l - m) j * f l else 0 := by
      rw [← sm_sub]
      refine sm_congr _ (fun l _ => ?_)
      rw [hu]
      simp only []
      by_cases a : l = j <;> by_cases b : m ≤ l ∧ l < m + n
      · rw [if_pos a, if_pos b, if_pos a, if_pos b]; grind
      · rw [if_pos a, if_neg b, if_pos a, if_neg b]; grind
      · rw [if_neg a, if_pos b, if_neg a, if_pos b]; grind
      · rw [if_neg a, if_neg b, if_neg a, if_neg b]; grind
    have e2 : (sm (m + n + 1) fun l => if m ≤ l ∧ l < m + n then ent0 n m A (l - m) j * f l else 0) = sm n fun i => ent0 n m A i j * f (m + i) := by
      rw [sm, sm_append, if_neg (by omega), Int.add_zero, sm_all0 m (fun l hl => by rw [if_neg (by omega)]), Int.zero_add]
      refine sm_congr _ (fun i hi => ?_)
      rw [if_pos (by omega), show m + i - m = i by omega]
    rw [e1, e2, sm_one j f, if_pos (by omega)]
  have hk0 : Ker n (m + n + 1) (fun i l => ent0 n m A i l) u := by
    intro i hi
    rw [hsum (fun l => ent0 n m A i l), sm_split _ i n hi]
    have e0 : (sm n fun t => if t = i then 0 else ent0 n m A t j * ent0 n m A i (m + t)) = 0 := sm_all0 n fun t ht => by
      by_cases e : t = i
      · rw [if_pos e]
      · have : ent0 n m A i (m + t) = 0 := by unfold ent0; rw [if_neg (by omega), if_neg (by omega), if_neg (by omega)]
        rw [if_neg e, this, Int.mul_zero]
    have e1 : ent0 n m A i (m + i) = 1 := by unfold ent0; rw [if_neg (by omega), if_neg (by omega), if_pos rfl]
    rw [e0, e1]; omega
  have hk := (h.ker u).2 hk0
  have h1 := ker_goal (c := cost0 m) (J := T.J) (b := T.b) hk
  rw [hsum (fun l => gl n (cost0 m) T.J T.R T.b l), hsum (cost0 m)] at h1
  have z : (sm n fun i => ent0 n m A i j * cost0 m (m + i)) = 0 := sm_all0 n fun i _ => by unfold cost0; rw [if_neg (by omega), Int.mul_zero]
  rw [z, Int.sub_zero] at h1
  have e : (sm n fun i => ent0 n m A i j * gl n (cost0 m) T.J T.R T.b (m + i)) = sm n fun i => ent0 n m A i j * T.R n (m + i) := sm_congr _ (fun i _ => by rw [h.goal])
  rw [e, ← h.goal] at h1
  omega
/-- A saddle, unscaled: what rows and columns get, their sum, and what is paid. -/
structure Sad (n m : Nat) (A : Nat → Nat → Int) (X Y : Nat → Int) (z b : Int) : Prop where
  X0 : ∀ l, l < m → 0 ≤ X l
  Y0 : ∀ i, i < n → 0 ≤ Y i
  sumX : sm m X = z
  sumY : sm n Y = z
  rows : ∀ i, i < n → (sm m fun l => A i l * X l) ≤ b
  cols : ∀ l, l < m → b ≤ sm n fun i => A i l * Y i
  pos : 0 < z
theorem Gm.sad (h : Gm n m A T) (hn : 0 < n) (hm : 0 < m) (hg : ∀ l, l < m + n → 0 ≤ T.R n l) : Sad n m A (colX n T (m + n)) (fun i => T.R n (m + i)) (T.R n (m + n)) T.b := by
  have hY : ∀ i, i < n → 0 ≤ T.R n (m + i) := fun i hi => hg _ (by omega)
  have hsY : (sm n fun i => T.R n (m + i)) = T.R n (m + n) := by
    have h1 := h.col_goal (j := m + n) (.inr rfl)
    have h2 : cost0 m (m + n) = 0 := by unfold cost0; rw [if_neg (by omega)]
    rw [h2, Int.mul_zero, Int.zero_add] at h1
    rw [h1]
    refine sm_congr _ (fun i _ => ?_)
    unfold ent0
    rw [if_neg (by omega), if_pos rfl, Int.one_mul]
  have hcols : ∀ l, l < m → T.b ≤ sm n fun i => A i l * T.R n (m + i) := fun l hl => by
    have h1 := h.col_goal (j := l) (.inl hl)
    have h2 : cost0 m l = -1 := by unfold cost0; rw [if_pos hl]
    have h3 := hg l (by omega)
    have e : (sm n fun i => ent0 n m A i l * T.R n (m + i)) = sm n fun i => A i l * T.R n (m + i) := sm_congr _ (fun i _ => by unfold ent0; rw [if_pos hl])
    rw [h2, e] at h1
    omega
  refine ⟨fun l _ => h.colX_nonneg l, hY, h.sumX, hsY, fun i hi => h.rows_pay hi, hcols, ?_⟩
  have hz := sm_nonneg n hY
  rw [hsY] at hz
  rcases Int.lt_or_eq_of_le hz with h1 | h1
  · exact h1
  · have h2 := hcols 0 hm
    have h3 := h.feas.pos
    have h4 : ∀ i, i < n → T.R n (m + i) = 0 := fun i hi => by
      have := sm_ge_one n hY hi
      have := hY i hi
      simp only [hsY] at *
      omega
    rw [sm_all0 n (fun i hi => by rw [h4 i hi, Int.mul_zero])] at h2
    omega
end
/-- With a number taken away from all entries. -/
theorem Sad.less {n m : Nat} {A : Nat → Nat → Int} {X Y : Nat → Int} {z b : Int} (h : Sad n m A X Y z b) (d : Int) (G : Nat → Nat → Int) (hG : ∀ i l, i < n → l < m → A i l = G i l + d) : Sad n m G X Y z (b - d * z) := by
  refine ⟨h.X0, h.Y0, h.sumX, h.sumY, fun i hi => ?_, fun l hl => ?_, h.pos⟩
  · have h1 := h.rows i hi
    have e : (sm m fun l => A i l * X l) = (sm m fun l => G i l * X l) + d * z := by
      rw [← h.sumX, ← sm_mul, ← sm_add]
      exact sm_congr _ (fun l hl => by rw [hG i l hi hl]; grind)
    omega
  · have h1 := h.cols l hl
    have e : (sm n fun i => A i l * Y i) = (sm n fun i => G i l * Y i) + d * z := by
      rw [← h.sumY, ← sm_mul, ← sm_add]
      exact sm_congr _ (fun i hi => by rw [hG i l hi hl]; grind)
    omega

/-! How great determinants are. -/
def cpr : Nat → (Nat → Int) → Int
  | 0, _ => 1
  | n + 1, C => C 0 * cpr n (fun s => C (s + 1))
theorem mul_abs {a b p q : Int} (ha : -p ≤ a ∧ a ≤ p) (hb : -q ≤ b ∧ b ≤ q) : -(p * q) ≤ a * b ∧ a * b ≤ p * q := by
  have h : (a * b).natAbs ≤ p.natAbs * q.natAbs := by rw [Int.natAbs_mul]; exact Nat.mul_le_mul (by omega) (by omega)
  have e : ((p.natAbs * q.natAbs : Nat) : Int) = p * q := by rw [Int.natCast_mul, show (p.natAbs : Int) = p by omega, show (q.natAbs : Int) = q by omega]
  omega
theorem det_cols : ∀ (n : Nat) (M : Nat → Nat → Int) (C : Nat → Int), (∀ s, s < n → 0 ≤ C s) → (∀ s r, s < n → r < n → - C s ≤ M s r ∧ M s r ≤ C s) → - (fct n * cpr n C) ≤ det n M ∧ det n M ≤ fct n * cpr n C
  | 0, _, _, _, _ => by simp [det, fct, cpr]
  | n + 1, M, C, hC, h => by
    have hf := fct_nonneg n
    have key : ∀ i, i < n + 1 → - (C 0 * (fct n * cpr n fun s => C (s + 1))) ≤ sgn i * M 0 i * det n (fun s r => M (s + 1) (skip i r)) ∧ sgn i * M 0 i * det n (fun s r => M (s + 1) (skip i r)) ≤ C 0 * (fct n * cpr n fun s => C (s + 1)) := by
      intro i hi
      have h1 := det_cols n (fun s r => M (s + 1) (skip i r)) (fun s => C (s + 1)) (fun s hs => hC (s + 1) (by omega)) (fun s r hs hr => h (s + 1) (skip i r) (by omega) (skip_lt hr))
      have h2 := h 0 i (by omega) hi
      have h3 : sgn i = 1 ∨ sgn i = -1 := by unfold sgn; split <;> simp
      refine mul_abs ?_ h1
      rcases h3 with h3 | h3 <;> rw [h3] <;> omega
    have e1 := sm_le (f := fun _ => - (C 0 * (fct n * cpr n fun s => C (s + 1)))) (n + 1) (fun i hi => (key i hi).1)
    have e2 := sm_le (g := fun _ => C 0 * (fct n * cpr n fun s => C (s + 1))) (n + 1) (fun i hi => (key i hi).2)
    rw [sm_const] at e1 e2
    rw [det, fct, cpr]
    have e3 : ((n + 1 : Nat) : Int) * -(C 0 * (fct n * cpr n fun s => C (s + 1))) = -(((n : Int) + 1) * fct n * (C 0 * cpr n fun s => C (s + 1))) := by
      rw [Int.mul_neg, show ((n + 1 : Nat) : Int) = (n : Int) + 1 from rfl]; grind
    have e4 : ((n + 1 : Nat) : Int) * (C 0 * (fct n * cpr n fun s => C (s + 1))) = ((n : Int) + 1) * fct n * (C 0 * cpr n fun s => C (s + 1)) := by
      rw [show ((n + 1 : Nat) : Int) = (n : Int) + 1 from rfl]; grind
    omega
theorem det_le {n : Nat} (hn : n ≤ 5) (C : Int) (hC : 1 ≤ C) (M : Nat → Nat → Int) (h : ∀ s r, s < n → r < n → - C ≤ M s r ∧ M s r ≤ C) : - (120 * C ^ 5) ≤ det n M ∧ det n M ≤ 120 * C ^ 5 := by
  have h1 := det_cols n M (fun _ => C) (fun _ _ => by omega) h
  have hp : ∀ k, 1 ≤ C ^ k := fun k => by
    induction k with
    | zero => simp
    | succ k ih => rw [Int.pow_succ]; have := Int.mul_le_mul_of_nonneg_left hC (show 0 ≤ C ^ k by omega); omega
  have h2 : fct n * cpr n (fun _ => C) ≤ 120 * C ^ 5 := by
    have e : ∀ k, cpr k (fun _ => C) = C ^ k := fun k => by
      induction k with
      | zero => simp [cpr]
      | succ k ih => rw [cpr, ih, Int.pow_succ, Int.mul_comm]
    rw [e]
    have hf : fct n ≤ 120 ∧ 0 ≤ fct n := by
      have : n = 0 ∨ n = 1 ∨ n = 2 ∨ n = 3 ∨ n = 4 ∨ n = 5 := by omega
      rcases this with rfl | rfl | rfl | rfl | rfl | rfl <;> decide
    have hle : C ^ n ≤ C ^ 5 := by
      obtain ⟨k, hk⟩ : ∃ k, 5 = n + k := ⟨5 - n, by omega⟩
      rw [hk, Int.pow_add]
      have := Int.mul_le_mul_of_nonneg_left (hp k) (show 0 ≤ C ^ n by have := hp n; omega)
      omega
    have a1 := Int.mul_le_mul_of_nonneg_left hle hf.2
    have a2 := Int.mul_le_mul_of_nonneg_right hf.1 (show 0 ≤ C ^ 5 by have := hp 5; omega)
    omega
  omega
theorem cpr_one : ∀ n, n ≤ 5 → ∀ k, k < n → fct n * cpr n (fun s => if s = k then 1 else 100) ≤ 12000000000 := by
  intro n hn k hk
  have : (n = 1 ∨ n = 2 ∨ n = 3 ∨ n = 4 ∨ n = 5) ∧ (k = 0 ∨ k = 1 ∨ k = 2 ∨ k = 3 ∨ k = 4) := by omega
  obtain ⟨rfl | rfl | rfl | rfl | rfl, rfl | rfl | rfl | rfl | rfl⟩ := this <;> first | omega | decide
/-- A column more, many times, in all others does not turn a determinant. -/
theorem det_more {n k : Nat} (hk : k < n) (M N : Nat → Nat → Int) (a : Nat → Int) (h0 : M k = N k) (h : ∀ s, s < n → s ≠ k → M s = fun r => N s r + a s * N k r) : det n M = det n N := by
  have key : ∀ q, q ≤ n → det n (fun s => if s < q then N s else M s) = det n M := by
    intro q
    induction q with
    | zero => intro _; congr 1
    | succ q ih =>
      intro hq
      rw [← ih (by omega)]
      by_cases e : q = k
      · congr 1
        funext s
        by_cases h1 : s < q
        · rw [if_pos h1, if_pos (by omega)]
        · by_cases h2 : s = q
          · subst h2; subst e; rw [if_pos (by omega), if_neg h1]; exact h0.symm
          · rw [if_neg h1, if_neg (by omega)]
      · have e1 : (fun s => if s < q then N s else M s) = upd (fun s => if s < q + 1 then N s else M s) q fun r => 1 * N q r + a q * N k r := by
          funext s
          by_cases h2 : s = q
          · subst h2; rw [upd_same, if_neg (by omega), h s (by omega) e]; funext r; omega
          · rw [upd_other _ _ h2]
            by_cases h1 : s < q
            · rw [if_pos h1, if_pos (by omega)]
            · rw [if_neg h1, if_neg (by omega)]
        rw [e1, det_linear 1 (a q) n q _ (N q) (N k) (by omega)]
        have e2 : upd (fun s => if s < q + 1 then N s else M s) q (N q) = fun s => if s < q + 1 then N s else M s := by
          funext s
          by_cases h2 : s = q
          · subst h2; rw [upd_same, if_pos (by omega)]
          · rw [upd_other _ _ h2]
        have e3 : det n (upd (fun s => if s < q + 1 then N s else M s) q (N k)) = 0 := by
          refine det_same (a := q) (b := k) (by omega) hk e _ ?_
          rw [upd_same, upd_other _ _ (Ne.symm e)]
          by_cases h1 : k < q + 1
          · rw [if_pos h1]
          · rw [if_neg h1]; exact h0.symm
        rw [e2, e3]; omega
  have := key n (Nat.le_refl _)
  rw [← this]
  exact det_congr n _ _ (fun s r hs _ => by rw [if_pos hs])
section
variable {n m : Nat} {A G : Nat → Nat → Int} {T : GT} {d : Int}
/-- The columns of a basis, with the entries that are not shifted. -/
def gcol (n m : Nat) (G : Nat → Nat → Int) (l i : Nat) : Int := ent0 n m G i l
theorem gcol_shift (hG : ∀ i l, i < n → l < m → A i l = G i l + d) {l i : Nat} (hi : i < n) : ent0 n m A i l = gcol n m G l i + (if l < m then d else 0) := by
  unfold gcol ent0
  by_cases h : l < m
  · rw [if_pos h, if_pos h, if_pos h, hG i l hi h]
  · rw [if_neg h, if_neg h, if_neg h]; omega
theorem gcol_last (i : Nat) : gcol n m G (m + n) i = 1 := by unfold gcol ent0; rw [if_neg (by omega), if_pos rfl]
/-- With a column of ones the shift is not seen. -/
theorem ones_shift (hG : ∀ i l, i < n → l < m → A i l = G i l + d) (x : Nat → Nat) {k : Nat} (hk : k < n) (hx : x k = m + n) : (Fof n fun l i => ent0 n m A i l) x = Fof n (gcol n m G) x := by
  have e : (Fof n fun l i => ent0 n m A i l) x = det n fun s r => if r < n then ent0 n m A r (x s) else gcol n m G (x s) r + (if x s < m then d else 0) := det_congr n _ _ (fun s r _ hr => by rw [if_pos hr])
  rw [e]
  refine det_more hk _ _ (fun s => if x s < m then d else 0) ?_ (fun s hs hne => ?_)
  · funext r
    by_cases hr : r < n
    · rw [if_pos hr, gcol_shift hG hr, hx, if_neg (by omega), Int.add_zero]
    · rw [if_neg hr, hx, if_neg (by omega), Int.add_zero]
  · funext r
    simp only [hx, gcol_last, Int.mul_one]
    by_cases hr : r < n
    · rw [if_pos hr, gcol_shift hG hr]
    · rw [if_neg hr]
theorem gcol_abs (hB : ∀ i l, i < n → l < m → -100 ≤ G i l ∧ G i l ≤ 100) (l : Nat) {i : Nat} (hi : i < n) : -100 ≤ gcol n m G l i ∧ gcol n m G l i ≤ 100 := by
  unfold gcol ent0
  split
  · rename_i h; exact hB i l hi h
  · split
    · decide
    · split <;> decide
theorem ones_abs (hn : n ≤ 5) (hG : ∀ i l, i < n → l < m → A i l = G i l + d) (hB : ∀ i l, i < n → l < m → -100 ≤ G i l ∧ G i l ≤ 100) (x : Nat → Nat) {k : Nat} (hk : k < n) (hx : x k = m + n) :
    -12000000000 ≤ (Fof n fun l i => ent0 n m A i l) x ∧ (Fof n fun l i => ent0 n m A i l) x ≤ 12000000000 := by
  rw [ones_shift hG x hk hx]
  have h1 := det_cols n (fun s => gcol n m G (x s)) (fun s => if s = k then 1 else 100) (fun s _ => by split <;> decide) (fun s r hs hr => by
    by_cases e : s = k
    · subst e; rw [if_pos rfl, hx, gcol_last]; decide
    · rw [if_neg e]; exact gcol_abs hB _ hr)
  have h2 := cpr_one n hn k hk
  unfold Fof
  omega
theorem Gm.z_eq (h : Gm n m A T) : T.R n (m + n) = sm n fun t => if T.J t < m then T.R t (m + n) else 0 := by
  rw [h.goal]
  unfold gl
  have h1 : cost0 m (m + n) = 0 := by unfold cost0; rw [if_neg (by omega)]
  rw [h1, Int.mul_zero, Int.zero_sub, ← sm_neg]
  refine sm_congr _ (fun t _ => ?_)
  unfold cost0
  by_cases e : T.J t < m
  · rw [if_pos e, if_pos e]; omega
  · rw [if_neg e, if_neg e]; omega
theorem sm_abs {f : Nat → Int} {B : Int} (k : Nat) (h : ∀ i, i < k → -B ≤ f i ∧ f i ≤ B) : -(k * B) ≤ sm k f ∧ sm k f ≤ k * B := by
  have h1 := sm_le (f := fun _ => -B) k (fun i hi => (h i hi).1)
  have h2 := sm_le (g := fun _ => B) k (fun i hi => (h i hi).2)
  rw [sm_const] at h1 h2
  rw [Int.mul_neg] at h1
  omega
theorem Gm.z_abs (h : Gm n m A T) (hn : n ≤ 5) (hG : ∀ i l, i < n → l < m → A i l = G i l + d) (hB : ∀ i l, i < n → l < m → -100 ≤ G i l ∧ G i l ≤ 100) : -60000000000 ≤ T.R n (m + n) ∧ T.R n (m + n) ≤ 60000000000 := by
  rw [h.z_eq]
  have h1 := sm_abs (f := fun t => if T.J t < m then T.R t (m + n) else 0) (B := 12000000000) n (fun t ht => by
    show _ ≤ (if T.J t < m then T.R t (m + n) else 0) ∧ (if T.J t < m then T.R t (m + n) else 0) ≤ _
    by_cases e : T.J t < m
    · rw [if_pos e, h.plu.row t _ ht, Int.one_mul]
      exact ones_abs hn hG hB _ ht (by rw [upd_same])
    · rw [if_neg e]; decide)
  have : (n : Int) ≤ 5 := by omega
  omega
/-- What the value is over is a determinant of the entries that are not shifted. -/
theorem Gm.v_eq (h : Gm n m A T) (hG : ∀ i l, i < n → l < m → A i l = G i l + d) : T.b - d * T.R n (m + n) = Fof n (gcol n m G) T.J := by
  have key : ∀ q, q ≤ n → det n (fun s r => if s < q then gcol n m G (T.J s) r else if r < n then ent0 n m A r (T.J s) else 0) = T.b - d * sm q fun t => if T.J t < m then T.R t (m + n) else 0 := by
    intro q
    induction q with
    | zero =>
      intro _
      rw [sm, Int.mul_zero, Int.sub_zero, h.plu.val, Int.one_mul]
      exact det_congr n _ _ (fun s r _ hr => by rw [if_neg (by omega), if_pos hr])
    | succ q ih =>
      intro hq
      rw [sm, Int.mul_add, ← Int.sub_sub, ← ih (by omega)]
      have e1 : det n (fun s r => if s < q + 1 then gcol n m G (T.J s) r else if r < n then ent0 n m A r (T.J s) else 0) = det n (upd (fun s r => if s < q then gcol n m G (T.J s) r else if r < n then ent0 n m A r (T.J s) else 0) q fun r => 1 * (if r < n then ent0 n m A r (T.J q) else 0) + (-(if T.J q < m then d else 0)) * 1) := by
        refine det_congr n _ _ (fun s r _ hr => ?_)
        by_cases h2 : s = q
        · subst h2
          rw [upd_same, if_pos (by omega), if_pos hr, gcol_shift hG hr]; omega
        · rw [upd_other _ _ h2]
          by_cases h1 : s < q
          · rw [if_pos h1, if_pos (by omega)]
          · rw [if_neg h1, if_neg (by omega)]
      rw [e1, det_linear 1 (-(if T.J q < m then d else 0)) n q _ (fun r => if r < n then ent0 n m A r (T.J q) else 0) (fun _ => 1) (by omega)]
      have e2 : upd (fun s r => if s < q then gcol n m G (T.J s) r else if r < n then ent0 n m A r (T.J s) else 0) q (fun r => if r < n then ent0 n m A r (T.J q) else 0) = fun s r => if s < q then gcol n m G (T.J s) r else if r < n then ent0 n m A r (T.J s) else 0 := by
        funext s
        by_cases h2 : s = q
        · subst h2; rw [upd_same]; funext r; rw [if_neg (show ¬ s < s by omega)]
        · rw [upd_other _ _ h2]
      rw [e2]
      by_cases e : T.J q < m
      · rw [if_pos e, if_pos e]
        have e3 : det n (upd (fun s r => if s < q then gcol n m G (T.J s) r else if r < n then ent0 n m A r (T.J s) else 0) q fun _ => 1) = T.R q (m + n) := by
          rw [h.plu.row q _ (by omega), Int.one_mul, ones_shift hG _ (k := q) (by omega) (by rw [upd_same])]
          unfold Fof
          have e4 : det n (upd (fun s r => if s < q then gcol n m G (T.J s) r else if r < n then ent0 n m A r (T.J s) else 0) q fun _ => 1) = det n (upd (fun s r => if s < q then gcol n m G (T.J s) r else gcol n m G (T.J s) r + (if T.J s < m then d else 0)) q fun _ => 1) := by
            refine det_congr n _ _ (fun s r _ hr => ?_)
            by_cases h2 : s = q
            · subst h2; rw [upd_same, upd_same]
            · rw [upd_other _ _ h2, upd_other _ _ h2]
              by_cases h1 : s < q
              · rw [if_pos h1, if_pos h1]
              · rw [if_neg h1, if_neg h1, if_pos hr, gcol_shift hG hr]
          rw [e4]
          refine det_more (show q < n by omega) _ _ (fun s => if s < q then 0 else if T.J s < m then d else 0) ?_ (fun s _ hne => ?_)
          · rw [upd_same, upd_same]; funext r; rw [gcol_last]
          · rw [upd_other _ _ hne]
            funext r
            simp only [upd_same, upd_other _ _ hne, gcol_last]
            by_cases h1 : s < q
            · rw [if_pos h1, if_pos h1]; omega
            · rw [if_neg h1, if_neg h1]; omega
        rw [e3]; grind
      · rw [if_neg e, if_neg e]; grind
  rw [h.z_eq, ← key n (Nat.le_refl _)]
  exact det_congr n _ _ (fun s r hs _ => by rw [if_pos hs])
theorem Gm.v_abs (h : Gm n m A T) (hn : n ≤ 5) (hG : ∀ i l, i < n → l < m → A i l = G i l + d) (hB : ∀ i l, i < n → l < m → -100 ≤ G i l ∧ G i l ≤ 100) : -1200000000000 ≤ T.b - d * T.R n (m + n) ∧ T.b - d * T.R n (m + n) ≤ 1200000000000 := by
  rw [h.v_eq hG]
  have := det_le hn 100 (by decide) (fun s => gcol n m G (T.J s)) (fun s r _ hr => gcol_abs hB _ hr)
  unfold Fof
  omega
/-- All entries of a tableau fit. -/
theorem Gm.ent_abs (h : Gm n m A T) (hn : n ≤ 5) (hA : ∀ i l, i < n → l < m → 1 ≤ A i l ∧ A i l ≤ 201) {t : Nat} (ht : t ≤ n) (l : Nat) : -300000000000000 ≤ T.R t l ∧ T.R t l ≤ 300000000000000 := by
  have hE : ∀ (l i : Nat), i < n → -201 ≤ ent0 n m A i l ∧ ent0 n m A i l ≤ 201 := fun l i hi => by
    unfold ent0
    split
    · rename_i h1; have := hA i l hi h1; omega
    · split
      · decide
      · split <;> decide
  have hF : ∀ x : Nat → Nat, -39369648120120 ≤ (Fof n fun l i => ent0 n m A i l) x ∧ (Fof n fun l i => ent0 n m A i l) x ≤ 39369648120120 := fun x => by
    have h1 := det_le hn 201 (by decide) (fun s r => ent0 n m A r (x s)) (fun s r _ hr => hE _ r hr)
    show _ ≤ det n (fun s r => ent0 n m A r (x s)) ∧ det n (fun s r => ent0 n m A r (x s)) ≤ _
    omega
  have hrow : ∀ t l, t < n → -39369648120120 ≤ T.R t l ∧ T.R t l ≤ 39369648120120 := fun t l ht => by
    rw [h.plu.row t l ht, Int.one_mul]; exact hF _
  by_cases e : t < n
  · have := hrow t l e; omega
  · obtain rfl : t = n := by omega
    rw [h.goal]
    unfold gl
    have hc : ∀ l, cost0 m l = -1 ∨ cost0 m l = 0 := fun l => by unfold cost0; split <;> simp
    have hb : -39369648120120 ≤ T.b ∧ T.b ≤ 39369648120120 := by rw [h.plu.val, Int.one_mul]; exact hF _
    have h1 := sm_abs (f := fun s => cost0 m (T.J s) * T.R s l) (B := 39369648120120) t (fun s hs => by
      have := hrow s l hs
      show _ ≤ cost0 m (T.J s) * T.R s l ∧ cost0 m (T.J s) * T.R s l ≤ _
      rcases hc (T.J s) with h2 | h2 <;> rw [h2] <;> omega)
    have h3 : -39369648120120 ≤ T.b * cost0 m l ∧ T.b * cost0 m l ≤ 39369648120120 := by
      rcases hc l with h2 | h2 <;> rw [h2] <;> omega
    have : (t : Int) ≤ 5 := by omega
    omega
theorem Gm.b_abs (h : Gm n m A T) (hn : n ≤ 5) (hA : ∀ i l, i < n → l < m → 1 ≤ A i l ∧ A i l ≤ 201) : 0 < T.b ∧ T.b ≤ 300000000000000 := by
  refine ⟨h.feas.pos, ?_⟩
  have h1 := h.plu.val
  have h2 : ∀ l i, i < n → -201 ≤ ent0 n m A i l ∧ ent0 n m A i l ≤ 201 := fun l i hi => by
    unfold ent0
    split
    · rename_i h1; have := hA i l hi h1; omega
    · split
      · decide
      · split <;> decide
  have := det_le hn 201 (by decide) (fun s r => ent0 n m A r (T.J s)) (fun s r _ hr => h2 _ r hr)
  have e : T.b = det n fun s r => ent0 n m A r (T.J s) := by rw [h1, Int.one_mul]; rfl
  omega
end
end Go.Proofs.YtefmioppamdceaaDoor
