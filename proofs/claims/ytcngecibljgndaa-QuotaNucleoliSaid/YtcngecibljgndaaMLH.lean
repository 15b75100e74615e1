/- A determinant is at most the volume of its edges (Hadamard); plain. -/
import Derived.Test.YtcngecibljgndaaMLA
import Derived.Test.YtcngecibljgndaaMNE
namespace Go.Proofs.Ytcngecibljgndaa

/-- Forms of all degrees over n directions. -/
def MV : Nat → Type
  | 0 => Int
  | n + 1 => MV n × MV n
/-- s x + t y. -/
def mlin : (n : Nat) → Int → MV n → Int → MV n → MV n
  | 0, s, x, t, y => (show Int from s * (show Int from x) + t * (show Int from y))
  | n + 1, s, x, t, y => (mlin n s x.1 t y.1, mlin n s x.2 t y.2)
def mzero : (n : Nat) → MV n
  | 0 => (0 : Int)
  | n + 1 => (mzero n, mzero n)
def mone : (n : Nat) → MV n
  | 0 => (1 : Int)
  | n + 1 => (mone n, mzero n)
def mip : (n : Nat) → MV n → MV n → Int
  | 0, x, y => (show Int from x) * (show Int from y)
  | n + 1, x, y => mip n x.1 y.1 + mip n x.2 y.2
/-- A vector in front. -/
def wdg : (n : Nat) → (Nat → Int) → MV n → MV n
  | 0, _, _ => (0 : Int)
  | n + 1, b, x => (wdg n b x.1, mlin n (b n) x.1 (-1) (wdg n b x.2))
/-- A vector taken out. -/
def ctr : (n : Nat) → (Nat → Int) → MV n → MV n
  | 0, _, _ => (0 : Int)
  | n + 1, b, x => (mlin n 1 (ctr n b x.1) (b n) x.2, mlin n (-1) (ctr n b x.2) 0 (mzero n))
theorem mip_lin : ∀ (n : Nat) (s t : Int) (x y z : MV n), mip n (mlin n s x t y) z = s * mip n x z + t * mip n y z
  | 0, s, t, x, y, z => by
    show (s * (show Int from x) + t * (show Int from y)) * (show Int from z) = s * ((show Int from x) * (show Int from z)) + t * ((show Int from y) * (show Int from z))
    grind
  | n + 1, s, t, x, y, z => by
    show mip n (mlin n s x.1 t y.1) z.1 + mip n (mlin n s x.2 t y.2) z.2 = s * (mip n x.1 z.1 + mip n x.2 z.2) + t * (mip n y.1 z.1 + mip n y.2 z.2)
    rw [mip_lin n, mip_lin n]; grind
theorem mip_comm : ∀ (n : Nat) (x y : MV n), mip n x y = mip n y x
  | 0, x, y => Int.mul_comm (show Int from x) (show Int from y)
  | n + 1, x, y => by
    show mip n x.1 y.1 + mip n x.2 y.2 = mip n y.1 x.1 + mip n y.2 x.2
    rw [mip_comm n, mip_comm n x.2]
theorem mip_lin_r (n : Nat) (s t : Int) (x y z : MV n) : mip n z (mlin n s x t y) = s * mip n z x + t * mip n z y := by
  rw [mip_comm, mip_lin, mip_comm n x, mip_comm n y]
theorem mip_zero : ∀ (n : Nat) (x : MV n), mip n (mzero n) x = 0
  | 0, x => Int.zero_mul (show Int from x)
  | n + 1, x => by
    show mip n (mzero n) x.1 + mip n (mzero n) x.2 = 0
    rw [mip_zero n, mip_zero n]; rfl
theorem mip_sq : ∀ (n : Nat) (x : MV n), 0 ≤ mip n x x
  | 0, x => by
    have h : 0 ≤ (show Int from x) * (show Int from x) := by
      rcases Int.le_total 0 (show Int from x) with h | h
      · exact Int.mul_nonneg h h
      · exact Int.mul_nonneg_of_nonpos_of_nonpos h h
    exact h
  | n + 1, x => by
    have h1 := mip_sq n x.1
    have h2 := mip_sq n x.2
    show 0 ≤ mip n x.1 x.1 + mip n x.2 x.2
    omega
theorem wdg_adj : ∀ (n : Nat) (b : Nat → Int) (x y : MV n), mip n (wdg n b x) y = mip n x (ctr n b y)
  | 0, b, x, y => by
    show (0 : Int) * (show Int from y) = (show Int from x) * (0 : Int)
    omega
  | n + 1, b, x, y => by
    show mip n (wdg n b x.1) y.1 + mip n (mlin n (b n) x.1 (-1) (wdg n b x.2)) y.2 = mip n x.1 (mlin n 1 (ctr n b y.1) (b n) y.2) + mip n x.2 (mlin n (-1) (ctr n b y.2) 0 (mzero n))
    rw [mip_lin, mip_lin_r, mip_lin_r, wdg_adj n, wdg_adj n]
    grind
theorem wdg_norm : ∀ (n : Nat) (b : Nat → Int) (x : MV n), mip n (wdg n b x) (wdg n b x) + mip n (ctr n b x) (ctr n b x) = (sm n fun i => b i * b i) * mip n x x
  | 0, b, x => by
    show (0 : Int) * 0 + 0 * 0 = 0 * ((show Int from x) * (show Int from x))
    omega
  | n + 1, b, x => by
    have h1 := wdg_norm n b x.1
    have h2 := wdg_norm n b x.2
    have e1 : mip n x.1 (wdg n b x.2) = mip n (ctr n b x.1) x.2 := by rw [mip_comm, wdg_adj, mip_comm]
    have e2 : mip n (wdg n b x.2) x.1 = mip n (ctr n b x.1) x.2 := by rw [wdg_adj, mip_comm]
    have e3 : mip n x.2 (ctr n b x.1) = mip n (ctr n b x.1) x.2 := mip_comm _ _ _
    show mip n (wdg n b x.1) (wdg n b x.1) + mip n (mlin n (b n) x.1 (-1) (wdg n b x.2)) (mlin n (b n) x.1 (-1) (wdg n b x.2)) + (mip n (mlin n 1 (ctr n b x.1) (b n) x.2) (mlin n 1 (ctr n b x.1) (b n) x.2) + mip n (mlin n (-1) (ctr n b x.2) 0 (mzero n)) (mlin n (-1) (ctr n b x.2) 0 (mzero n))) = (sm (n + 1) fun i => b i * b i) * (mip n x.1 x.1 + mip n x.2 x.2)
    simp only [mip_lin, mip_lin_r, mip_zero, sm, e1, e2, e3]
    grind
/-- Vectors put together. -/
def wed (n : Nat) : Nat → (Nat → Nat → Int) → MV n
  | 0, _ => mone n
  | k + 1, v => wdg n (v 0) (wed n k fun s => v (s + 1))
def prd : Nat → (Nat → Int) → Int
  | 0, _ => 1
  | k + 1, f => f 0 * prd k fun s => f (s + 1)
theorem sq_nonneg (x : Int) : 0 ≤ x * x := by
  rcases Int.le_total 0 x with h | h
  · exact Int.mul_nonneg h h
  · exact Int.mul_nonneg_of_nonpos_of_nonpos h h
theorem sq_sum (n : Nat) (b : Nat → Int) : 0 ≤ sm n fun i => b i * b i := by
  have := sm_le (f := fun _ => (0 : Int)) (g := fun i => b i * b i) n (fun i _ => sq_nonneg _)
  rwa [sm_zero] at this
theorem mone_sq : ∀ n : Nat, mip n (mone n) (mone n) = 1
  | 0 => rfl
  | n + 1 => by
    show mip n (mone n) (mone n) + mip n (mzero n) (mzero n) = 1
    rw [mone_sq n, mip_zero]; rfl
theorem wed_norm (n : Nat) : ∀ (k : Nat) (v : Nat → Nat → Int), mip n (wed n k v) (wed n k v) ≤ prd k fun s => sm n fun i => v s i * v s i
  | 0, v => by
    show mip n (mone n) (mone n) ≤ 1
    rw [mone_sq]; exact Int.le_refl _
  | k + 1, v => by
    have h1 := wed_norm n k fun s => v (s + 1)
    have h2 := wdg_norm n (v 0) (wed n k fun s => v (s + 1))
    have h3 := mip_sq n (ctr n (v 0) (wed n k fun s => v (s + 1)))
    have h4 := sq_sum n (v 0)
    show mip n (wdg n (v 0) (wed n k fun s => v (s + 1))) (wdg n (v 0) (wed n k fun s => v (s + 1))) ≤ (sm n fun i => v 0 i * v 0 i) * prd k fun s => sm n fun i => v (s + 1) i * v (s + 1) i
    have h5 := Int.mul_le_mul_of_nonneg_left h1 h4
    omega
def mtop : (n : Nat) → MV n → Int
  | 0, x => x
  | n + 1, x => mtop n x.2
theorem mtop_sq : ∀ (n : Nat) (x : MV n), mtop n x * mtop n x ≤ mip n x x
  | 0, x => Int.le_refl _
  | n + 1, x => by
    have h1 := mtop_sq n x.2
    have h2 := mip_sq n x.1
    show mtop n x.2 * mtop n x.2 ≤ mip n x.1 x.1 + mip n x.2 x.2
    omega
theorem mtop_lin : ∀ (n : Nat) (s t : Int) (x y : MV n), mtop n (mlin n s x t y) = s * mtop n x + t * mtop n y
  | 0, _, _, _, _ => rfl
  | n + 1, s, t, x, y => mtop_lin n s t x.2 y.2
/-- Without a direction. -/
def prj : (n : Nat) → Nat → MV (n + 1) → MV n
  | 0, _, x => x.1
  | n + 1, r, x => if r = n + 1 then x.1 else (prj n r x.1, prj n r x.2)
theorem prj_top (n r : Nat) (x : MV (n + 2)) (h : r = n + 1) : prj (n + 1) r x = x.1 := if_pos h
theorem prj_low (n r : Nat) (x : MV (n + 2)) (h : ¬ r = n + 1) : prj (n + 1) r x = (prj n r x.1, prj n r x.2) := if_neg h
theorem prj_lin : ∀ (n r : Nat) (s t : Int) (x y : MV (n + 1)), prj n r (mlin (n + 1) s x t y) = mlin n s (prj n r x) t (prj n r y)
  | 0, _, _, _, _, _ => rfl
  | n + 1, r, s, t, x, y => by
    by_cases h : r = n + 1
    · rw [prj_top n r _ h, prj_top n r _ h, prj_top n r _ h]; rfl
    · rw [prj_low n r _ h, prj_low n r _ h, prj_low n r _ h]
      show (prj n r (mlin (n + 1) s x.1 t y.1), prj n r (mlin (n + 1) s x.2 t y.2)) = (mlin n s (prj n r x.1) t (prj n r y.1), mlin n s (prj n r x.2) t (prj n r y.2))
      rw [prj_lin n, prj_lin n]
theorem wdg_congr : ∀ (n : Nat) (b c : Nat → Int) (x : MV n), (∀ i, i < n → b i = c i) → wdg n b x = wdg n c x
  | 0, _, _, _, _ => rfl
  | n + 1, b, c, x, h => by
    show (wdg n b x.1, mlin n (b n) x.1 (-1) (wdg n b x.2)) = (wdg n c x.1, mlin n (c n) x.1 (-1) (wdg n c x.2))
    rw [wdg_congr n b c x.1 (fun i hi => h i (by omega)), wdg_congr n b c x.2 (fun i hi => h i (by omega)), h n (by omega)]
theorem prj_wdg : ∀ (n r : Nat) (b : Nat → Int) (x : MV (n + 1)), r < n + 1 → prj n r (wdg (n + 1) b x) = wdg n (fun i => b (skip r i)) (prj n r x)
  | 0, _, _, _, _ => rfl
  | n + 1, r, b, x, hr => by
    by_cases h : r = n + 1
    · rw [prj_top n r _ h, prj_top n r _ h]
      exact wdg_congr _ _ _ _ (fun i hi => by rw [show skip r i = i by unfold skip; rw [if_pos (by omega)]])
    · rw [prj_low n r _ h, prj_low n r _ h]
      show (prj n r (wdg (n + 1) b x.1), prj n r (mlin (n + 1) (b (n + 1)) x.1 (-1) (wdg (n + 1) b x.2))) = (wdg n (fun i => b (skip r i)) (prj n r x.1), mlin n (b (skip r n)) (prj n r x.1) (-1) (wdg n (fun i => b (skip r i)) (prj n r x.2)))
      rw [prj_lin, prj_wdg n r b _ (by omega), prj_wdg n r b _ (by omega), show skip r n = n + 1 by unfold skip; rw [if_neg (by omega)]]
theorem prj_zero : ∀ (n r : Nat), prj n r (mzero (n + 1)) = mzero n
  | 0, _ => rfl
  | n + 1, r => by
    by_cases h : r = n + 1
    · rw [prj_top n r _ h]; rfl
    · rw [prj_low n r _ h]
      show (prj n r (mzero (n + 1)), prj n r (mzero (n + 1))) = (mzero n, mzero n)
      rw [prj_zero n]
theorem prj_one : ∀ (n r : Nat), prj n r (mone (n + 1)) = mone n
  | 0, _ => rfl
  | n + 1, r => by
    by_cases h : r = n + 1
    · rw [prj_top n r _ h]; rfl
    · rw [prj_low n r _ h]
      show (prj n r (mone (n + 1)), prj n r (mzero (n + 1))) = (mone n, mzero n)
      rw [prj_one n, prj_zero n]
theorem prj_wed (n r : Nat) (hr : r < n + 1) : ∀ (k : Nat) (v : Nat → Nat → Int), prj n r (wed (n + 1) k v) = wed n k fun s i => v s (skip r i)
  | 0, v => prj_one n r
  | k + 1, v => by
    show prj n r (wdg (n + 1) (v 0) (wed (n + 1) k fun s => v (s + 1))) = wdg n (fun i => v 0 (skip r i)) (wed n k fun s i => v (s + 1) (skip r i))
    rw [prj_wdg n r _ _ hr, prj_wed n r hr k]
/-- The last part of a vector in front, by all directions. -/
theorem mtop_wdg : ∀ (n : Nat) (b : Nat → Int) (x : MV (n + 1)), mtop (n + 1) (wdg (n + 1) b x) = sm (n + 1) fun r => sgn n * sgn r * b r * mtop n (prj n r x)
  | 0, b, x => by
    show b 0 * (show Int from x.1) + -1 * (0 : Int) = 0 + sgn 0 * sgn 0 * b 0 * (show Int from x.1)
    rw [sgn_sq]; grind
  | n + 1, b, x => by
    show mtop (n + 1) (mlin (n + 1) (b (n + 1)) x.1 (-1) (wdg (n + 1) b x.2)) = _
    rw [mtop_lin, mtop_wdg n b x.2]
    have e0 : (sm (n + 1 + 1) fun r => sgn (n + 1) * sgn r * b r * mtop (n + 1) (prj (n + 1) r x)) = (sm (n + 1) fun r => sgn (n + 1) * sgn r * b r * mtop (n + 1) (prj (n + 1) r x)) + sgn (n + 1) * sgn (n + 1) * b (n + 1) * mtop (n + 1) (prj (n + 1) (n + 1) x) := rfl
    rw [e0]
    have e1 : (sm (n + 1) fun r => sgn (n + 1) * sgn r * b r * mtop (n + 1) (prj (n + 1) r x)) = - sm (n + 1) fun r => sgn n * sgn r * b r * mtop n (prj n r x.2) := by
      rw [← sm_neg]
      refine sm_congr _ (fun r hr => ?_)
      rw [prj_low n r x (by omega)]
      show sgn (n + 1) * sgn r * b r * mtop n (prj n r x.2) = _
      rw [sgn_succ]; grind
    rw [e1, prj_top n (n + 1) x rfl, sgn_sq]; grind
theorem det_wed : ∀ n : Nat, ∃ s : Int, s * s = 1 ∧ ∀ M : Nat → Nat → Int, det n M = s * mtop n (wed n n M)
  | 0 => ⟨1, rfl, fun _ => rfl⟩
  | n + 1 => by
    obtain ⟨s, hs, h⟩ := det_wed n
    have hg := sgn_sq n
    refine ⟨s * sgn n, by grind, fun M => ?_⟩
    have e : mtop (n + 1) (wed (n + 1) (n + 1) M) = _ := mtop_wdg n (M 0) (wed (n + 1) n fun s => M (s + 1))
    rw [e, ← sm_mul, det]
    refine sm_congr _ (fun r hr => ?_)
    rw [prj_wed n r hr, h]
    grind
/-- Hadamard's bound. -/
theorem hadamard (n : Nat) (M : Nat → Nat → Int) : det n M * det n M ≤ prd n fun s => sm n fun i => M s i * M s i := by
  obtain ⟨s, hs, h⟩ := det_wed n
  have h1 := mtop_sq n (wed n n M)
  have h2 := wed_norm n n M
  rw [h]
  have e : s * mtop n (wed n n M) * (s * mtop n (wed n n M)) = mtop n (wed n n M) * mtop n (wed n n M) := by grind
  omega
theorem prd_le : ∀ (k : Nat) (f : Nat → Int) (B : Int), (∀ s, s < k → 0 ≤ f s ∧ f s ≤ B) → 0 ≤ prd k f ∧ prd k f ≤ B ^ k
  | 0, _, _, _ => by simp [prd]
  | k + 1, f, B, h => by
    have h1 := prd_le k (fun s => f (s + 1)) B (fun s hs => h (s + 1) (by omega))
    have h0 := h 0 (by omega)
    refine ⟨Int.mul_nonneg h0.1 h1.1, ?_⟩
    show f 0 * prd k (fun s => f (s + 1)) ≤ B ^ (k + 1)
    rw [Int.pow_succ, Int.mul_comm _ B]
    exact Int.mul_le_mul h0.2 h1.2 h1.1 (by omega)
theorem det_scale (n : Nat) (c : Int) : ∀ (k : Nat) (M : Nat → Nat → Int), k ≤ n → det n (fun s r => if s < k then c * M s r else M s r) = c ^ k * det n M
  | 0, M, _ => by simp
  | k + 1, M, hk => by
    have ih := det_scale n c k M (by omega)
    have h := det_linear c 0 n k (fun s r => if s < k then c * M s r else M s r) (M k) (fun _ => 0) (by omega)
    have e1 : (upd (fun s r => if s < k then c * M s r else M s r) k fun r => c * M k r + 0 * 0) = fun s r => if s < k + 1 then c * M s r else M s r := by
      funext s r
      unfold upd
      by_cases e : s = k
      · subst e; rw [if_pos rfl, if_pos (by omega)]; omega
      · rw [if_neg e]
        try simp only []
        by_cases e2 : s < k
        · rw [if_pos e2, if_pos (by omega)]
        · rw [if_neg e2, if_neg (by omega)]
    have e2 : upd (fun s r => if s < k then c * M s r else M s r) k (M k) = fun s r => if s < k then c * M s r else M s r := by
      funext s r
      unfold upd
      by_cases e : s = k
      · subst e; rw [if_pos rfl, if_neg (by omega)]
      · rw [if_neg e]
    rw [e1, e2, ih] at h
    rw [h, Int.pow_succ]; grind
theorem det_norow : ∀ (n r0 : Nat), r0 < n → ∀ M : Nat → Nat → Int, (∀ s, s < n → M s r0 = 0) → det n M = 0
  | 0, r0, h, _, _ => by omega
  | n + 1, r0, hr, M, h => by
    rw [det]
    refine sm_all0 _ (fun i hi => ?_)
    by_cases e : i = r0
    · rw [e, h 0 (by omega), Int.mul_zero, Int.zero_mul]
    · rw [det_norow n (unskip i r0) (by unfold unskip; split <;> omega) _ (fun s hs => by
        rw [skip_unskip (Ne.symm e)]; exact h (s + 1) (by omega)), Int.mul_zero]
/-- The determinant of signs around one of noughts and ones. -/
theorem det_signs (n : Nat) (M : Nat → Nat → Int) : ∃ S : Nat → Nat → Int, (∀ s r, S s r = 1 ∨ ∃ s' r', s = s' + 1 ∧ r = r' + 1 ∧ S s r = 1 - 2 * M s' r') ∧ det (n + 1) S = (-2) ^ n * det n M := by
  refine ⟨fun s r => match s, r with | 0, _ => 1 | _ + 1, 0 => 1 | s + 1, r + 1 => 1 - 2 * M s r, fun s r => ?_, ?_⟩
  · match s, r with
    | 0, _ => exact .inl rfl
    | _ + 1, 0 => exact .inl rfl
    | s + 1, r + 1 => exact .inr ⟨s, r, rfl, rfl, rfl⟩
  · -- take the first slot away from all others
    obtain ⟨S, hS⟩ : ∃ S : Nat → Nat → Int, S = fun s r => match s, r with | 0, _ => 1 | _ + 1, 0 => 1 | s + 1, r + 1 => 1 - 2 * M s r := ⟨_, rfl⟩
    have key : ∀ k, k ≤ n → det (n + 1) (fun s r => if 1 ≤ s ∧ s < k + 1 then S s r - S 0 r else S s r) = det (n + 1) S := by
      intro k
      induction k with
      | zero =>
        intro _
        refine det_congr _ _ _ (fun s r _ _ => ?_)
        rw [if_neg (by omega)]
      | succ k ih =>
        intro hk
        rw [← ih (by omega)]
        have h := det_linear 1 (-1) (n + 1) (k + 1) (fun s r => if 1 ≤ s ∧ s < k + 1 then S s r - S 0 r else S s r) (S (k + 1)) (S 0) (by omega)
        have hz : det (n + 1) (upd (fun s r => if 1 ≤ s ∧ s < k + 1 then S s r - S 0 r else S s r) (k + 1) (S 0)) = 0 := by
          refine det_same (a := 0) (b := k + 1) (by omega) (by omega) (by omega) _ ?_
          rw [upd_same, upd_other _ _ (by omega)]
          funext r
          rw [if_neg (by omega)]
        have e1 : (upd (fun s r => if 1 ≤ s ∧ s < k + 1 then S s r - S 0 r else S s r) (k + 1) fun r => 1 * S (k + 1) r + -1 * S 0 r) = fun s r => if 1 ≤ s ∧ s < k + 1 + 1 then S s r - S 0 r else S s r := by
          funext s r
          unfold upd
          by_cases e : s = k + 1
          · subst e; rw [if_pos rfl, if_pos (by omega)]; omega
          · rw [if_neg e]
            try simp only []
            by_cases e2 : 1 ≤ s ∧ s < k + 1
            · rw [if_pos e2, if_pos (by omega)]
            · rw [if_neg e2, if_neg (by omega)]
        have e2 : upd (fun s r => if 1 ≤ s ∧ s < k + 1 then S s r - S 0 r else S s r) (k + 1) (S (k + 1)) = fun s r => if 1 ≤ s ∧ s < k + 1 then S s r - S 0 r else S s r := by
          funext s r
          unfold upd
          by_cases e : s = k + 1
          · subst e; rw [if_pos rfl, if_neg (by omega)]
          · rw [if_neg e]
        rw [e1, e2, hz] at h
        rw [h]; omega
    rw [← hS, ← key n (Nat.le_refl _)]
    rw [det, sm_congr _ (g := fun i => if i = 0 then (-2) ^ n * det n M else 0) (fun i hi => ?_), sm_one 0 (fun _ => (-2) ^ n * det n M), if_pos (by omega)]
    by_cases hi0 : i = 0
    · rw [if_pos hi0, hi0]
      have e1 : det n (fun s r => (fun s r => if 1 ≤ s ∧ s < n + 1 then S s r - S 0 r else S s r) (s + 1) (skip 0 r)) = det n (fun s r => if s < n then -2 * M s r else M s r) := by
        refine det_congr _ _ _ (fun s r hs hr => ?_)
        try simp only []
        rw [if_pos (by omega), if_pos hs, show skip 0 r = r + 1 by unfold skip; rw [if_neg (by omega)], hS]
        show 1 - 2 * M s r - 1 = -2 * M s r
        omega
      rw [e1, det_scale n (-2) n M (Nat.le_refl _)]
      have e2 : (if 1 ≤ 0 ∧ 0 < n + 1 then S 0 0 - S 0 0 else S 0 0) = 1 := by rw [if_neg (by omega), hS]
      rw [e2, show sgn 0 = 1 from rfl]; omega
    · rw [if_neg hi0]
      have hz : det n (fun s r => (fun s r => if 1 ≤ s ∧ s < n + 1 then S s r - S 0 r else S s r) (s + 1) (skip i r)) = 0 := by
        refine det_norow n 0 (by omega) _ (fun s hs => ?_)
        try simp only []
        rw [if_pos (by omega), show skip i 0 = 0 by unfold skip; rw [if_pos (by omega)], hS]
        rfl
      rw [hz, Int.mul_zero]
theorem det_bits {n : Nat} (h1 : 1 ≤ n ∧ n ≤ 7) {M : Nat → Nat → Int} (hM : ∀ s r, s < n → r < n → M s r = 0 ∨ M s r = 1) : -32 ≤ det n M ∧ det n M ≤ 32 := by
  obtain ⟨S, hS, hd⟩ := det_signs n fun s r => if s < n ∧ r < n then M s r else 0
  have hsq : ∀ s r, S s r * S s r = 1 := fun s r => by
    rcases hS s r with h | ⟨s', r', -, -, h⟩
    · rw [h]; rfl
    · rw [h]
      by_cases hc : s' < n ∧ r' < n
      · rw [if_pos hc]
        rcases hM s' r' hc.1 hc.2 with h | h <;> rw [h] <;> rfl
      · rw [if_neg hc]; rfl
  have hh := hadamard (n + 1) S
  have hp := (prd_le (n + 1) (fun s => sm (n + 1) fun i => S s i * S s i) ((n + 1 : Nat) : Int) (fun s _ => by
    rw [sm_congr _ (g := fun _ => 1) (fun i _ => hsq s i), sm_const]; omega)).2
  have e : det n (fun s r => if s < n ∧ r < n then M s r else 0) = det n M := det_congr _ _ _ (fun s r hs hr => by rw [if_pos ⟨hs, hr⟩])
  rw [hd, e] at hh
  generalize det n M = d at *
  have hb : d * d ≤ 1024 := by
    have : n = 1 ∨ n = 2 ∨ n = 3 ∨ n = 4 ∨ n = 5 ∨ n = 6 ∨ n = 7 := by omega
    rcases this with rfl | rfl | rfl | rfl | rfl | rfl | rfl
    all_goals
      simp only [show (1 + 1 : Nat) = 2 from rfl, show (2 + 1 : Nat) = 3 from rfl, show (3 + 1 : Nat) = 4 from rfl, show (4 + 1 : Nat) = 5 from rfl, show (5 + 1 : Nat) = 6 from rfl, show (6 + 1 : Nat) = 7 from rfl, show (7 + 1 : Nat) = 8 from rfl] at hh hp
      have e2 : ∀ c : Int, c * d * (c * d) = c * c * (d * d) := fun c => by grind
      rw [e2] at hh
      generalize d * d = x at *
      omega
  rcases Int.lt_or_le 32 d with h | h
  · have := Int.mul_le_mul (show 33 ≤ d by omega) (show 33 ≤ d by omega) (by omega) (by omega); omega
  · rcases Int.lt_or_le d (-32) with h2 | h2
    · have := Int.mul_le_mul (show 33 ≤ -d by omega) (show 33 ≤ -d by omega) (by omega) (by omega)
      rw [Int.neg_mul_neg] at this; omega
    · exact ⟨h2, h⟩
end Go.Proofs.Ytcngecibljgndaa

/- Balanced: the divisors, what each step adds, and what comes out; plain. -/
namespace Go.Proofs.Ytcngecibljgndaa
open Go.RowKit Go.Shelf

theorem Std.den32 {n : Nat} {ss : List Int} {e : Nat → Nat} {H T : Tab} (h : Std n ss e H T) (hn : 1 ≤ n ∧ n ≤ 7) : 1 ≤ T.den ∧ T.den ≤ 32 := by
  obtain ⟨s, c, hR⟩ := h.rep
  have hv := hR.plu.val
  have hp := hR.feas.pos
  have hb := det_bits hn (M := fun a r => colOf n ss (H.J a) r) (fun a r _ hr => tab_01 n ss r _ hr)
  have e1 : Fof n (colOf n ss) H.J = det n fun a r => colOf n ss (H.J a) r := rfl
  rw [e1] at hv
  rw [h.sub.den]
  rcases hR.plu.sign with h4 | h4 <;> rw [h4] at hv <;> omega
theorem IsW.le {n : Nat} {ss : List Int} {w : Nat → Int} {D : Int} (h : IsW n ss w D) {k : Nat} (hk : k < ss.length) (hne : ∃ r, r < n ∧ inB (ith ss k) r = 1) : w k ≤ D := by
  obtain ⟨r, hr, h1⟩ := hne
  have h2 := h.all r hr
  have h3 := sm_split (fun k => inB (ith ss k) r * w k) k ss.length hk
  have h4 : 0 ≤ sm ss.length fun m => if m = k then 0 else inB (ith ss m) r * w m := sm_ge0 _ (fun i hi => by
    split
    · exact Int.le_refl _
    · exact Int.mul_nonneg (by rcases inB_01 (ith ss i) r with e | e <;> omega) (h.low i hi))
  rw [h1, Int.one_mul] at h3
  omega
theorem dvd32a : ∀ b : Fin 33, b.val ≠ 0 → 144403552893600 % b.val = 0 := by decide
theorem dvd32 {b : Nat} (h1 : 1 ≤ b) (h2 : b ≤ 32) : b ∣ 144403552893600 := Nat.dvd_of_mod_eq_zero (dvd32a ⟨b, by omega⟩ (by simp; omega))
/-- Two divisors put together. -/
theorem lcm_facts {D b : Nat} (hD : 0 < D) (hb : 0 < b) : ∃ c e M : Nat, D / Nat.gcd D b * b = M ∧ M = D * c ∧ M = b * e ∧ 0 < c ∧ 0 < e ∧ ∀ L, D ∣ L → b ∣ L → M ∣ L := by
  have hl : D / Nat.gcd D b * b = Nat.lcm D b := by
    rw [Nat.lcm, Nat.mul_comm, Nat.mul_comm D b]
    exact (Nat.mul_div_assoc b (Nat.gcd_dvd_left D b)).symm
  obtain ⟨c, hc⟩ := Nat.dvd_lcm_left D b
  obtain ⟨e, he⟩ := Nat.dvd_lcm_right D b
  have hp : 0 < Nat.lcm D b := Nat.lcm_pos hD hb
  refine ⟨c, e, Nat.lcm D b, hl, hc, he, Nat.pos_of_ne_zero (fun h => by subst h; rw [Nat.mul_zero] at hc; omega), Nat.pos_of_ne_zero (fun h => by subst h; rw [Nat.mul_zero] at he; omega), fun L h1 h2 => Nat.lcm_dvd h1 h2⟩
/-- The sums of the first k weights, over a divisor. -/
structure BalTo (n : Nat) (ss : List Int) (k : Nat) (tot : Nat → Int) (D : Nat) : Prop where
  pos : 0 < D
  dvd : D ∣ 144403552893600
  low : ∀ i, i < ss.length → 0 ≤ tot i ∧ tot i ≤ (D : Int) * k
  all : ∀ r, r < n → (sm ss.length fun i => inB (ith ss i) r * tot i) = (D : Int) * k
  has : ∀ i, i < k → 0 < tot i
theorem BalTo.zero (n : Nat) (ss : List Int) : BalTo n ss 0 (fun _ => 0) 1 :=
  ⟨by omega, ⟨_, (Nat.one_mul _).symm⟩, fun i _ => by simp, fun r _ => by rw [sm_all0 _ (fun i _ => Int.mul_zero _)]; simp, fun i hi => by omega⟩
theorem BalTo.small {n : Nat} {ss : List Int} {k : Nat} {tot : Nat → Int} {D : Nat} (h : BalTo n ss k tot D) : D ≤ 144403552893600 := Nat.le_of_dvd (by omega) h.dvd
theorem BalTo.step {n : Nat} {ss : List Int} {k : Nat} {tot : Nat → Int} {D : Nat} (h : BalTo n ss k tot D) (hk : k < ss.length) {w : Nat → Int} {b : Nat} (hb : 1 ≤ b ∧ b ≤ 32) (hw : IsW n ss w b) (hle : ∀ i, i < ss.length → w i ≤ b) (h0 : 0 < w k) :
    ∃ c e M : Nat, D / Nat.gcd D b * b = M ∧ M = D * c ∧ M = b * e ∧ 0 < c ∧ 0 < e ∧ BalTo n ss (k + 1) (fun i => tot i * c + w i * e) M := by
  obtain ⟨c, e, M, h1, h2, h3, h4, h5, h6⟩ := lcm_facts h.pos (show 0 < b by omega)
  have hM : 0 < M := by rw [h2]; exact Nat.mul_pos h.pos h4
  have z2 : (M : Int) = D * c := by rw [h2]; simp
  have z3 : (M : Int) = b * e := by rw [h3]; simp
  refine ⟨c, e, M, h1, h2, h3, h4, h5, hM, h6 _ h.dvd (dvd32 hb.1 hb.2), fun i hi => ⟨?_, ?_⟩, fun r hr => ?_, fun i hi => ?_⟩
  · exact Int.add_nonneg (Int.mul_nonneg (h.low i hi).1 (by omega)) (Int.mul_nonneg (hw.low i hi) (by omega))
  · have a1 := Int.mul_le_mul_of_nonneg_right (h.low i hi).2 (show (0 : Int) ≤ c by omega)
    have a2 := Int.mul_le_mul_of_nonneg_right (hle i hi) (show (0 : Int) ≤ e by omega)
    have a3 : (M : Int) * ((k + 1 : Nat) : Int) = (D : Int) * k * c + b * e := by rw [← z3, z2]; simp; grind
    rw [a3]; omega
  · have e1 : (sm ss.length fun i => inB (ith ss i) r * (tot i * c + w i * e)) = c * (sm ss.length fun i => inB (ith ss i) r * tot i) + e * sm ss.length fun i => inB (ith ss i) r * w i := by
      rw [← sm_mul, ← sm_mul, ← sm_add]
      exact sm_congr _ (fun i _ => by grind)
    rw [e1, h.all r hr, hw.all r hr]
    have a3 : (M : Int) * ((k + 1 : Nat) : Int) = (D : Int) * k * c + b * e := by rw [← z3, z2]; simp; grind
    rw [a3]; grind
  · by_cases hi2 : i < k
    · have a1 := Int.mul_pos (h.has i hi2) (show (0 : Int) < c by omega)
      have a2 : 0 ≤ w i * e := Int.mul_nonneg (hw.low i (by omega)) (by omega)
      omega
    · obtain rfl : i = k := by omega
      have a1 : 0 ≤ tot i * c := Int.mul_nonneg (h.low i hk).1 (by omega)
      have a2 := Int.mul_pos h0 (show (0 : Int) < e by omega)
      omega
/-- Positive weights in lowest terms. -/
structure Weighs (n : Nat) (ss l : List Int) (d : Int) : Prop where
  some_ : 0 < ss.length
  len : l.length = ss.length
  den : 0 < d ∧ d ≤ 100000000000000000
  low : gcdL d l = 1
  num : ∀ i, i < ss.length → 0 < ith l i ∧ ith l i ≤ d
  all : ∀ r, r < n → (sm ss.length fun i => inB (ith ss i) r * ith l i) = d
theorem BalTo.done {n : Nat} {ss : List Int} {tot : Nat → Int} {D : Nat} (h : BalTo n ss ss.length tot D) (h0 : 0 < ss.length) (hs : ss.length ≤ 128) {xs : List Int} (hl : xs.length = ss.length) (hx : ∀ i, i < ss.length → ith xs i = tot i) :
    Weighs n ss (xs.map (· / (gcdL ((D : Int) * ss.length) xs : Int))) ((D : Int) * ss.length / gcdL ((D : Int) * ss.length) xs) := by
  have hD := h.pos
  have hs2 := h.small
  have hp : 0 < (D : Int) * ss.length := Int.mul_pos (by omega) (by omega)
  have hle : (D : Int) * ss.length ≤ 144403552893600 * 128 := Int.mul_le_mul (by omega) (by omega) (by omega) (by omega)
  obtain ⟨g, hg, g1, g2⟩ := low_times (p := (xs, (D : Int) * ss.length)) hp
  have hlow := gcdL_map_div ((D : Int) * ss.length) xs hp
  have e1 : (lowP (xs, (D : Int) * ss.length)).1 = xs.map (· / (gcdL ((D : Int) * ss.length) xs : Int)) := rfl
  have e2 : (lowP (xs, (D : Int) * ss.length)).2 = (D : Int) * ss.length / gcdL ((D : Int) * ss.length) xs := rfl
  rw [← e1, ← e2] at hlow ⊢
  generalize lowP (xs, (D : Int) * ss.length) = p at *
  have hlen : p.1.length = ss.length := by rw [e1]; simp [hl]
  simp only [] at g1 g2
  have hpd : 0 < p.2 := by
    rcases Int.lt_or_le 0 p.2 with h1 | h1
    · exact h1
    · have := Int.mul_le_mul_of_nonneg_left h1 (show 0 ≤ g by omega)
      omega
  refine ⟨h0, hlen, ⟨hpd, ?_⟩, hlow, fun i hi => ?_, fun r hr => ?_⟩
  · have := Int.mul_le_mul_of_nonneg_right (show 1 ≤ g by omega) (show 0 ≤ p.2 by omega)
    omega
  · have a1 := g2 i (by omega)
    rw [hx i hi] at a1
    have a2 := h.has i hi
    have a3 := (h.low i hi).2
    rw [a1] at a2
    rw [a1, g1] at a3
    exact ⟨by
      rcases Int.lt_or_le 0 (ith p.1 i) with h1 | h1
      · exact h1
      · have := Int.mul_le_mul_of_nonneg_left h1 (show 0 ≤ g by omega)
        omega, Int.le_of_mul_le_mul_left a3 hg⟩
  · refine Int.eq_of_mul_eq_mul_left (show g ≠ 0 by omega) ?_
    rw [← g1, ← h.all r hr, ← sm_mul]
    refine sm_congr _ (fun i hi => ?_)
    have a1 := g2 i (by omega)
    rw [hx i hi] at a1
    rw [a1]; grind
/-- Sets are balanced. -/
def Bal (n : Nat) (ss : List Int) : Prop := 0 < ss.length ∧ ∀ k, k < ss.length → ∃ w D, IsW n ss w D ∧ 0 < w k
/-- Sets that may be asked. -/
structure GoodS (n : Int) (ss : List Int) : Prop where
  n1 : 1 ≤ n ∧ n ≤ 7
  len : ss.length ≤ 128
  sets : ∀ x ∈ ss, 1 ≤ x ∧ x < 2 ^ n.toNat
end Go.Proofs.Ytcngecibljgndaa
