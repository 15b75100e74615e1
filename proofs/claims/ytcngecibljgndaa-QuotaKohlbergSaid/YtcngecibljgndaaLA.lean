/- An integer function of columns that is linear in each of them and 0 where two are the same: by expansion along the first column; plain, no program in sight. -/
namespace Go.Proofs.Ytcngecibljgndaa

/-- The sum of the first terms. -/
def sm : Nat → (Nat → Int) → Int
  | 0, _ => 0
  | n + 1, f => sm n f + f n
theorem sm_congr {f g : Nat → Int} : ∀ n, (∀ i, i < n → f i = g i) → sm n f = sm n g
  | 0, _ => rfl
  | n + 1, h => by rw [sm, sm, sm_congr n (fun i hi => h i (by omega)), h n (by omega)]
theorem sm_add (f g : Nat → Int) : ∀ n, sm n (fun i => f i + g i) = sm n f + sm n g
  | 0 => rfl
  | n + 1 => by rw [sm, sm, sm, sm_add f g n]; omega
theorem sm_mul (c : Int) (f : Nat → Int) : ∀ n, sm n (fun i => c * f i) = c * sm n f
  | 0 => by simp [sm]
  | n + 1 => by rw [sm, sm, sm_mul c f n, Int.mul_add]
theorem sm_zero : ∀ n, sm n (fun _ => 0) = 0
  | 0 => rfl
  | n + 1 => by rw [sm, sm_zero n]; rfl
theorem sm_all0 {f : Nat → Int} (n : Nat) (h : ∀ i, i < n → f i = 0) : sm n f = 0 := by rw [sm_congr n h, sm_zero]
theorem sm_neg (f : Nat → Int) (n : Nat) : sm n (fun i => - f i) = - sm n f := by
  have := sm_mul (-1) f n
  simpa using this
theorem sm_sub (f g : Nat → Int) (n : Nat) : sm n (fun i => f i - g i) = sm n f - sm n g := by
  have h := sm_add f (fun i => - g i) n
  rw [sm_neg] at h
  simpa [Int.sub_eq_add_neg] using h
theorem sm_swap (f : Nat → Nat → Int) (m : Nat) : ∀ n, sm n (fun i => sm m fun j => f i j) = sm m (fun j => sm n fun i => f i j)
  | 0 => by simp only [sm]; rw [sm_zero]
  | n + 1 => by
    have h : (fun j => sm (n + 1) fun i => f i j) = fun j => sm n (fun i => f i j) + f n j := rfl
    rw [sm, sm_swap f m n, h, sm_add]
theorem sm_one (a : Nat) (c : Nat → Int) : ∀ n, sm n (fun i => if i = a then c i else 0) = if a < n then c a else 0
  | 0 => by simp [sm]
  | n + 1 => by
    rw [sm, sm_one a c n]
    by_cases h : n = a
    · subst h; simp
    · rw [if_neg h]
      by_cases h2 : a < n
      · rw [if_pos h2, if_pos (by omega)]; omega
      · rw [if_neg h2, if_neg (by omega)]; rfl
theorem sm_le {f g : Nat → Int} : ∀ n, (∀ i, i < n → f i ≤ g i) → sm n f ≤ sm n g
  | 0, _ => Int.le_refl _
  | n + 1, h => by
    have h1 := sm_le n (fun i hi => h i (by omega))
    have h2 := h n (by omega)
    rw [sm, sm]; omega
theorem sm_const (c : Int) : ∀ n, sm n (fun _ => c) = n * c
  | 0 => by simp [sm]
  | n + 1 => by rw [sm, sm_const c n, Int.natCast_add, Int.add_mul]; simp

/-- Row r of those that are left without row i. -/
def skip (i r : Nat) : Nat := if r < i then r else r + 1
def sgn (i : Nat) : Int := if i % 2 = 0 then 1 else -1
theorem sgn_sq (i : Nat) : sgn i * sgn i = 1 := by unfold sgn; split <;> rfl
theorem sgn_succ (i : Nat) : sgn (i + 1) = - sgn i := by
  unfold sgn
  by_cases h : i % 2 = 0
  · rw [if_pos h, if_neg (by omega)]
  · rw [if_neg h, if_pos (by omega)]; rfl
/-- The determinant; M slot row. -/
def det : Nat → (Nat → Nat → Int) → Int
  | 0, _ => 1
  | n + 1, M => sm (n + 1) fun i => sgn i * M 0 i * det n fun s r => M (s + 1) (skip i r)
theorem skip_lt {i r n : Nat} (h : r < n) : skip i r < n + 1 := by unfold skip; split <;> omega
theorem det_congr : ∀ (n : Nat) (M N : Nat → Nat → Int), (∀ s r, s < n → r < n → M s r = N s r) → det n M = det n N
  | 0, _, _, _ => rfl
  | n + 1, M, N, h => by
    unfold det
    refine sm_congr _ (fun i hi => ?_)
    rw [h 0 i (by omega) hi, det_congr n _ (fun s r => N (s + 1) (skip i r)) (fun s r hs hr => h (s + 1) (skip i r) (by omega) (skip_lt hr))]
/-- One slot anew. -/
def upd {α : Type} (M : Nat → α) (k : Nat) (u : α) : Nat → α := fun s => if s = k then u else M s
theorem upd_same {α : Type} (M : Nat → α) (k : Nat) (u : α) : upd M k u k = u := by simp [upd]
theorem upd_other {α : Type} (M : Nat → α) {k s : Nat} (u : α) (h : s ≠ k) : upd M k u s = M s := by simp [upd, h]
theorem upd_self {α : Type} (M : Nat → α) (k : Nat) : upd M k (M k) = M := by
  funext s; unfold upd; split
  · rename_i h; rw [h]
  · rfl
theorem upd_upd {α : Type} (M : Nat → α) (k : Nat) (u v : α) : upd (upd M k u) k v = upd M k v := by
  funext s; unfold upd; split <;> rfl
theorem upd_comm {α : Type} (M : Nat → α) {k l : Nat} (u v : α) (h : k ≠ l) : upd (upd M k u) l v = upd (upd M l v) k u := by
  funext s; unfold upd
  by_cases h1 : s = l
  · subst h1; rw [if_pos rfl, if_neg (Ne.symm h), if_pos rfl]
  · rw [if_neg h1]
    by_cases h2 : s = k
    · rw [if_pos h2, if_pos h2]
    · rw [if_neg h2, if_neg h2, if_neg h1]
theorem det_linear (a b : Int) : ∀ (n k : Nat) (M : Nat → Nat → Int) (u v : Nat → Int), k < n → det n (upd M k fun r => a * u r + b * v r) = a * det n (upd M k u) + b * det n (upd M k v)
  | 0, k, _, _, _, h => absurd h (by omega)
  | n + 1, 0, M, u, v, _ => by
    unfold det
    rw [← sm_mul, ← sm_mul, ← sm_add]
    refine sm_congr _ (fun i _ => ?_)
    have e : ∀ w : Nat → Int, (fun s r => upd M 0 w (s + 1) (skip i r)) = fun s r => M (s + 1) (skip i r) := fun w => by funext s r; rw [upd_other _ _ (by omega)]
    rw [e, e, e, upd_same, upd_same, upd_same]
    grind
  | n + 1, k + 1, M, u, v, h => by
    unfold det
    rw [← sm_mul, ← sm_mul, ← sm_add]
    refine sm_congr _ (fun i _ => ?_)
    have e : ∀ w : Nat → Int, (fun s r => upd M (k + 1) w (s + 1) (skip i r)) = upd (fun s r => M (s + 1) (skip i r)) k (fun r => w (skip i r)) := fun w => by
      funext s r
      by_cases hs : s = k
      · subst hs; rw [upd_same, upd_same]
      · rw [upd_other _ _ hs, upd_other _ _ (by omega)]
    rw [e, e, e, upd_other _ _ (by omega), upd_other _ _ (by omega), upd_other _ _ (by omega), det_linear a b n k _ _ _ (by omega)]
    grind
/-- A sum over all rows but one. -/
theorem sm_skip (i : Nat) (h : Nat → Int) : ∀ n, i ≤ n → sm n (fun j => h (skip i j)) = sm (n + 1) (fun r => if r = i then 0 else h r)
  | 0, hi => by
    obtain rfl : i = 0 := by omega
    simp [sm]
  | n + 1, hi => by
    rw [sm, sm]
    by_cases h1 : i ≤ n
    · rw [sm_skip i h n h1]
      have : skip i n = n + 1 := by unfold skip; rw [if_neg (by omega)]
      rw [this, if_neg (by omega)]
    · obtain rfl : i = n + 1 := by omega
      rw [if_pos rfl, Int.add_zero]
      have e : sm n (fun j => h (skip (n + 1) j)) + h (skip (n + 1) n) = sm (n + 1) (fun j => h (skip (n + 1) j)) := rfl
      rw [e]
      refine sm_congr _ (fun j hj => ?_)
      rw [if_neg (by omega)]
      unfold skip
      rw [if_pos hj]
def unskip (i r : Nat) : Nat := if r < i then r else r - 1
theorem unskip_skip (i j : Nat) : unskip i (skip i j) = j := by
  unfold unskip skip
  by_cases h : j < i
  · rw [if_pos h, if_pos h]
  · rw [if_neg h, if_neg (by omega)]; omega
theorem skip_unskip {i s : Nat} (h : s ≠ i) : skip i (unskip i s) = s := by
  unfold unskip skip
  by_cases h1 : s < i
  · rw [if_pos h1, if_pos h1]
  · rw [if_neg h1, if_neg (by omega)]; omega
theorem skip_skip {i k : Nat} (h : i ≤ k) (r : Nat) : skip i (skip k r) = skip (k + 1) (skip i r) := by unfold skip; repeat split <;> try omega
/-- The first two columns the same. -/
theorem det_same01 (n : Nat) (M : Nat → Nat → Int) (h : M 0 = M 1) : det (n + 2) M = 0 := by
  have e : det (n + 2) M = sm (n + 2) fun i => sm (n + 2) fun r => if r = i then 0 else sgn i * M 0 i * (sgn (unskip i r) * M 0 r * det n fun s t => M (s + 2) (skip i (skip (unskip i r) t))) := by
    rw [det]
    refine sm_congr _ (fun i hi => ?_)
    rw [det, ← sm_mul, ← sm_skip i (fun r => sgn i * M 0 i * (sgn (unskip i r) * M 0 r * det n fun s t => M (s + 2) (skip i (skip (unskip i r) t)))) (n + 1) (by omega)]
    refine sm_congr _ (fun j _ => ?_)
    rw [unskip_skip, h]
  obtain ⟨g, hg⟩ : ∃ g : Nat → Nat → Int, g = fun i r => if r = i then 0 else sgn i * M 0 i * (sgn (unskip i r) * M 0 r * det n fun s t => M (s + 2) (skip i (skip (unskip i r) t))) := ⟨_, rfl⟩
  have hanti : ∀ i r, i < r → g i r = - g r i := by
    intro i r hir
    rw [hg]
    simp only []
    rw [if_neg (by omega), if_neg (by omega)]
    have e1 : unskip i r = r - 1 := by unfold unskip; rw [if_neg (by omega)]
    have e2 : unskip r i = i := by unfold unskip; rw [if_pos hir]
    obtain ⟨k, rfl⟩ : ∃ k, r = k + 1 := ⟨r - 1, by omega⟩
    rw [e1, e2, Nat.add_sub_cancel, sgn_succ]
    have e3 : (fun s t => M (s + 2) (skip i (skip k t))) = fun s t => M (s + 2) (skip (k + 1) (skip i t)) := by
      funext s t; rw [skip_skip (by omega)]
    rw [e3]
    grind
  have hsym : ∀ i r, g i r = - g r i := by
    intro i r
    rcases Nat.lt_trichotomy i r with h1 | h1 | h1
    · exact hanti i r h1
    · subst h1; rw [hg]; simp
    · have := hanti r i h1; omega
  have e2 : det (n + 2) M = sm (n + 2) fun i => sm (n + 2) fun r => g i r := by rw [e, hg]
  have e3 : (sm (n + 2) fun i => sm (n + 2) fun r => g i r) = - (sm (n + 2) fun i => sm (n + 2) fun r => g i r) := by
    conv => lhs; rw [sm_swap]
    rw [← sm_neg]
    refine sm_congr _ (fun r _ => ?_)
    rw [← sm_neg]
    exact sm_congr _ (fun i _ => hsym i r)
  rw [e2]; omega
theorem det_next : ∀ (n k : Nat) (M : Nat → Nat → Int), k + 1 < n → M k = M (k + 1) → det n M = 0
  | 0, _, _, h, _ => absurd h (by omega)
  | 1, _, _, h, _ => absurd h (by omega)
  | n + 2, 0, M, _, e => det_same01 n M e
  | n + 2, k + 1, M, h, e => by
    rw [det]
    rw [show (fun i => sgn i * M 0 i * det (n + 1) fun s r => M (s + 1) (skip i r)) = fun _ => 0 from by
      funext i
      rw [det_next (n + 1) k (fun s r => M (s + 1) (skip i r)) (by omega) (by funext r; exact congrFun e (skip i r)), Int.mul_zero]]
    exact sm_zero _
/-- Two slots exchanged. -/
def swp {α : Type} (M : Nat → α) (a b : Nat) : Nat → α := upd (upd M a (M b)) b (M a)
theorem det_add (n k : Nat) (M : Nat → Nat → Int) (u v : Nat → Int) (h : k < n) : det n (upd M k fun r => u r + v r) = det n (upd M k u) + det n (upd M k v) := by
  have := det_linear 1 1 n k M u v h
  simpa using this
theorem anti_of_same {n a b : Nat} (ha : a < n) (hb : b < n) (hab : a ≠ b) (hs : ∀ M : Nat → Nat → Int, M a = M b → det n M = 0) (M : Nat → Nat → Int) : det n (swp M a b) = - det n M := by
  have h0 := hs (upd (upd M a fun r => M a r + M b r) b fun r => M a r + M b r) (by rw [upd_other _ _ hab, upd_same, upd_same])
  rw [det_add _ _ _ _ _ hb, upd_comm _ _ _ hab, upd_comm _ _ _ hab, det_add _ _ _ _ _ ha, det_add _ _ _ _ _ ha] at h0
  have h1 := hs (upd (upd M b (M a)) a (M a)) (by rw [upd_same, upd_other _ _ (Ne.symm hab), upd_same])
  have h2 := hs (upd (upd M b (M b)) a (M b)) (by rw [upd_same, upd_other _ _ (Ne.symm hab), upd_same])
  have e1 : upd (upd M b (M a)) a (M b) = swp M a b := by unfold swp; rw [upd_comm _ _ _ (Ne.symm hab)]
  have e2 : upd (upd M b (M b)) a (M a) = M := by rw [upd_self, upd_self]
  rw [h1, h2, e1, e2] at h0
  omega
theorem det_same_lt : ∀ (c n a : Nat) (M : Nat → Nat → Int), a + c + 1 < n → M a = M (a + c + 1) → det n M = 0
  | 0, n, a, M, h, e => det_next n a M h e
  | c + 1, n, a, M, h, e => by
    have h1 := anti_of_same (n := n) (a := a + c + 1) (b := a + (c + 1) + 1) (by omega) h (by omega) (fun N hN => det_next n (a + c + 1) N h hN) M
    have h2 := det_same_lt c n a (swp M (a + c + 1) (a + (c + 1) + 1)) (by omega) (by
      unfold swp
      rw [upd_other _ _ (by omega), upd_other _ _ (by omega), upd_other _ _ (by omega), upd_same]
      exact e)
    omega
theorem det_same {n a b : Nat} (ha : a < n) (hb : b < n) (hab : a ≠ b) (M : Nat → Nat → Int) (e : M a = M b) : det n M = 0 := by
  rcases Nat.lt_or_gt_of_ne hab with h | h
  · obtain ⟨c, rfl⟩ : ∃ c, b = a + c + 1 := ⟨b - a - 1, by omega⟩
    exact det_same_lt c n a M hb e
  · obtain ⟨c, rfl⟩ : ∃ c, a = b + c + 1 := ⟨a - b - 1, by omega⟩
    exact det_same_lt c n b M ha e.symm
theorem det_swp {n a b : Nat} (ha : a < n) (hb : b < n) (hab : a ≠ b) (M : Nat → Nat → Int) : det n (swp M a b) = - det n M :=
  anti_of_same ha hb hab (fun N h => det_same ha hb hab N h) M
/-- One slot a sum of many. -/
theorem det_sum (n k : Nat) (M : Nat → Nat → Int) (hk : k < n) (c : Nat → Int) (u : Nat → Nat → Int) : ∀ m, det n (upd M k fun r => sm m fun t => c t * u t r) = sm m fun t => c t * det n (upd M k (u t))
  | 0 => by
    have := det_linear 0 0 n k M (fun _ => 0) (fun _ => 0) hk
    simp only [Int.zero_mul, Int.add_zero] at this
    simpa [sm] using this
  | m + 1 => by
    have h := det_linear 1 (c m) n k M (fun r => sm m fun t => c t * u t r) (u m) hk
    have e : (fun r => sm (m + 1) fun t => c t * u t r) = fun r => 1 * (sm m fun t => c t * u t r) + c m * u m r := by
      funext r; rw [sm]; omega
    rw [e, h, det_sum n k M hk c u m, sm]; omega
def fct : Nat → Int
  | 0 => 1
  | n + 1 => (n + 1) * fct n
theorem fct_nonneg : ∀ n, 0 ≤ fct n
  | 0 => by simp [fct]
  | n + 1 => by rw [fct]; exact Int.mul_nonneg (by omega) (fct_nonneg n)
/-- Where all entries are at most 1, the determinant is at most the number of orders. -/
theorem det_bound : ∀ (n : Nat) (M : Nat → Nat → Int), (∀ s r, s < n → r < n → -1 ≤ M s r ∧ M s r ≤ 1) → - fct n ≤ det n M ∧ det n M ≤ fct n
  | 0, _, _ => by simp [det, fct]
  | n + 1, M, h => by
    have hf := fct_nonneg n
    have key : ∀ i, i < n + 1 → - fct n ≤ sgn i * M 0 i * det n (fun s r => M (s + 1) (skip i r)) ∧ sgn i * M 0 i * det n (fun s r => M (s + 1) (skip i r)) ≤ fct n := by
      intro i hi
      have h1 := det_bound n (fun s r => M (s + 1) (skip i r)) (fun s r hs hr => h (s + 1) (skip i r) (by omega) (skip_lt hr))
      have h2 := h 0 i (by omega) hi
      have h3 : sgn i = 1 ∨ sgn i = -1 := by unfold sgn; split <;> simp
      have h4 : M 0 i = 0 ∨ M 0 i = 1 ∨ M 0 i = -1 := by omega
      generalize det n (fun s r => M (s + 1) (skip i r)) = z at *
      rcases h3 with h3 | h3 <;> rcases h4 with h4 | h4 | h4 <;> rw [h3, h4] <;> simp <;> omega
    have e1 := sm_le (f := fun _ => - fct n) (n + 1) (fun i hi => (key i hi).1)
    have e2 := sm_le (g := fun _ => fct n) (n + 1) (fun i hi => (key i hi).2)
    rw [sm_const] at e1 e2
    rw [det, fct]
    have e3 : ((n + 1 : Nat) : Int) * -fct n = -(((n : Int) + 1) * fct n) := by rw [Int.mul_neg]; rfl
    have e4 : ((n + 1 : Nat) : Int) * fct n = ((n : Int) + 1) * fct n := rfl
    omega
end Go.Proofs.Ytcngecibljgndaa
