/- Whole-number tableaus: goals, what a pivot keeps, and that the rule of the lowest column ends (Bland); plain. -/
import Derived.Test.YtefmioppamdceaaDoorMWQ
namespace Go.Proofs.YtefmioppamdceaaDoor

/-- The row of the goal, by its costs. -/
def gl (n : Nat) (c : Nat → Int) (J : Nat → Nat) (R : Nat → Nat → Int) (b : Int) (l : Nat) : Int := b * c l - sm n fun m => c (J m) * R m l
theorem Plu.gl_unit {n : Nat} {F : (Nat → Nat) → Int} {J : Nat → Nat} {R : Nat → Nat → Int} {b s : Int} (h : Plu n F J R b s) (c : Nat → Int) {t : Nat} (ht : t < n) : gl n c J R b (J t) = 0 := by
  unfold gl
  rw [sm_split _ t n ht, h.unit ht ht, if_pos rfl]
  have : (sm n fun m => if m = t then 0 else c (J m) * R m (J t)) = 0 := sm_all0 n fun m hm => by
    by_cases e : m = t
    · rw [if_pos e]
    · rw [if_neg e, h.unit hm ht, if_neg (Ne.symm e), Int.mul_zero]
  rw [this]
  grind
theorem Plu.pivR_mul {n : Nat} {F : (Nat → Nat) → Int} {J : Nat → Nat} {R : Nat → Nat → Int} {b s : Int} (h : Plu n F J R b s) {i j m : Nat} (hi : i < n) (hm : m < n) (hmi : m ≠ i) (l : Nat) :
    b * pivR R b i j m l = R m l * R i j - R m j * R i l := by
  unfold pivR
  rw [if_neg hmi]
  exact Int.mul_ediv_cancel' (h.exact_ hi hm hmi l)
theorem Plu.gl_pivot {n : Nat} {F : (Nat → Nat) → Int} {J : Nat → Nat} {R : Nat → Nat → Int} {b s : Int} (h : Plu n F J R b s) (c : Nat → Int) {i j : Nat} (hi : i < n) (l : Nat) :
    b * gl n c (upd J i j) (pivR R b i j) (R i j) l = gl n c J R b l * R i j - gl n c J R b j * R i l := by
  unfold gl
  rw [sm_split (fun m => c (upd J i j m) * pivR R b i j m l) i n hi, upd_same, show pivR R b i j i l = R i l by unfold pivR; rw [if_pos rfl], sm_split (fun m => c (J m) * R m l) i n hi, sm_split (fun m => c (J m) * R m j) i n hi]
  have e : b * (sm n fun m => if m = i then 0 else c (upd J i j m) * pivR R b i j m l) = (sm n fun m => if m = i then 0 else c (J m) * R m l) * R i j - (sm n fun m => if m = i then 0 else c (J m) * R m j) * R i l := by
    rw [← sm_mul, Int.mul_comm _ (R i j), Int.mul_comm _ (R i l), ← sm_mul, ← sm_mul, ← sm_sub]
    refine sm_congr _ (fun m hm => ?_)
    by_cases e : m = i
    · simp [e]
    · rw [if_neg e, if_neg e, if_neg e, upd_other _ _ e]
      have := h.pivR_mul (j := j) hi hm e l
      have e2 : b * (c (J m) * pivR R b i j m l) = c (J m) * (b * pivR R b i j m l) := Int.mul_left_comm _ _ _
      rw [e2, this]; grind
  rw [Int.mul_sub, Int.mul_add, e]
  grind
/-- What all rows take to 0. -/
def Ker (n W : Nat) (R : Nat → Nat → Int) (y : Nat → Int) : Prop := ∀ m, m < n → (sm W fun l => R m l * y l) = 0
theorem Plu.ker_pivot {n W : Nat} {F : (Nat → Nat) → Int} {J : Nat → Nat} {R : Nat → Nat → Int} {b s : Int} (h : Plu n F J R b s) (hb : b ≠ 0) {i j : Nat} (hi : i < n) (hd : R i j ≠ 0) (y : Nat → Int) :
    Ker n W (pivR R b i j) y ↔ Ker n W R y := by
  have e : ∀ m, m < n → m ≠ i → b * (sm W fun l => pivR R b i j m l * y l) = R i j * (sm W fun l => R m l * y l) - R m j * (sm W fun l => R i l * y l) := by
    intro m hm hmi
    rw [← sm_mul, ← sm_mul, ← sm_mul, ← sm_sub]
    refine sm_congr _ (fun l _ => ?_)
    have := h.pivR_mul (j := j) hi hm hmi l
    rw [← Int.mul_assoc, this]; grind
  have ei : (fun l => pivR R b i j i l * y l) = fun l => R i l * y l := by funext l; unfold pivR; rw [if_pos rfl]
  constructor
  · intro hk m hm
    have h0 := hk i hi
    rw [ei] at h0
    by_cases hmi : m = i
    · subst hmi; exact h0
    · have h1 := e m hm hmi
      rw [hk m hm, h0, Int.mul_zero, Int.mul_zero, Int.sub_zero] at h1
      rcases Int.mul_eq_zero.1 h1.symm with h2 | h2
      · exact absurd h2 hd
      · exact h2
  · intro hk m hm
    by_cases hmi : m = i
    · subst hmi; rw [ei]; exact hk m hm
    · have h1 := e m hm hmi
      rw [hk m hm, hk i hi, Int.mul_zero, Int.mul_zero, Int.sub_zero] at h1
      rcases Int.mul_eq_zero.1 h1 with h2 | h2
      · exact absurd h2 hb
      · exact h2
theorem ker_goal {n W : Nat} {c : Nat → Int} {J : Nat → Nat} {R : Nat → Nat → Int} {b : Int} {y : Nat → Int} (hk : Ker n W R y) : (sm W fun l => gl n c J R b l * y l) = b * sm W fun l => c l * y l := by
  have e : (sm W fun l => gl n c J R b l * y l) = (sm W fun l => b * (c l * y l)) - sm W fun l => sm n fun m => c (J m) * (R m l * y l) := by
    rw [← sm_sub]
    refine sm_congr _ (fun l _ => ?_)
    have : (sm n fun m => c (J m) * (R m l * y l)) = (sm n fun m => c (J m) * R m l) * y l := by
      rw [Int.mul_comm _ (y l), ← sm_mul]
      exact sm_congr _ (fun m _ => by grind)
    rw [this]
    unfold gl
    grind
  rw [e, sm_mul, sm_swap]
  have : (sm n fun m => sm W fun l => c (J m) * (R m l * y l)) = 0 := sm_all0 n fun m hm => by rw [sm_mul, hk m hm, Int.mul_zero]
  rw [this, Int.sub_zero]

/-- Which entry the rule takes. -/
structure Pick (n cols last : Nat) (c : Nat → Int) (J : Nat → Nat) (R : Nat → Nat → Int) (b : Int) (i j : Nat) : Prop where
  col : j < cols
  neg : gl n c J R b j < 0
  low : ∀ l, l < j → 0 ≤ gl n c J R b l
  slot : i < n
  pos : 0 < R i j
  ratio : ∀ m, m < n → 0 < R m j → R i last * R m j < R m last * R i j ∨ (R i last * R m j = R m last * R i j ∧ J i ≤ J m)
structure Feas (n last : Nat) (R : Nat → Nat → Int) (b : Int) : Prop where
  pos : 0 < b
  rhs : ∀ m, m < n → 0 ≤ R m last
theorem feas_pivot {n cols last : Nat} {c : Nat → Int} {J : Nat → Nat} {R : Nat → Nat → Int} {b : Int} (hF : Feas n last R b) {i j : Nat} (hp : Pick n cols last c J R b i j) : Feas n last (pivR R b i j) (R i j) := by
  refine ⟨hp.pos, fun m hm => ?_⟩
  by_cases e : m = i
  · subst e; unfold pivR; rw [if_pos rfl]; exact hF.rhs m hm
  · unfold pivR
    rw [if_neg e]
    refine Int.ediv_nonneg ?_ (by have := hF.pos; omega)
    have h1 := hF.rhs m hm
    have h2 := hF.rhs i hp.slot
    have h3 := hp.pos
    have h4 : 0 ≤ R m last * R i j := Int.mul_nonneg h1 (by omega)
    rcases Int.lt_or_le 0 (R m j) with h5 | h5
    · have := hp.ratio m hm h5
      rw [Int.mul_comm (R m j)]
      omega
    · have h6 : R m j * R i last ≤ 0 := Int.mul_nonpos_of_nonpos_of_nonneg h5 h2
      omega
theorem pigeon : ∀ (N : Nat) (f : Nat → Nat), (∀ t, t ≤ N → f t < N) → ∃ p q, p < q ∧ q ≤ N ∧ f p = f q
  | 0, f, h => absurd (h 0 (Nat.le_refl _)) (by omega)
  | N + 1, f, h => by
    by_cases hv : ∃ p, p ≤ N ∧ f p = f (N + 1)
    · obtain ⟨p, hp, e⟩ := hv
      exact ⟨p, N + 1, by omega, by omega, e⟩
    · have hne : ∀ t, t ≤ N → f t ≠ f (N + 1) := fun t ht e => hv ⟨t, ht, e⟩
      have hlast := h (N + 1) (by omega)
      obtain ⟨p, q, hpq, hq, e⟩ := pigeon N (fun t => if f (N + 1) < f t then f t - 1 else f t) (fun t ht => by
        have h1 := h t (by omega)
        have h2 := hne t ht
        split <;> omega)
      refine ⟨p, q, hpq, by omega, ?_⟩
      have h1 := hne p (by omega)
      have h2 := hne q hq
      split at e <;> split at e <;> omega
/-- A basis as one number. -/
def code (L : Nat) (J : Nat → Nat) : Nat → Nat
  | 0 => 0
  | n + 1 => code L J n * L + J n
theorem code_lt {L : Nat} {J : Nat → Nat} : ∀ n, (∀ m, m < n → J m < L) → code L J n < L ^ n
  | 0, _ => by simp [code]
  | n + 1, h => by
    have h1 := code_lt n (fun m hm => h m (by omega))
    have h2 := h n (by omega)
    rw [code, Nat.pow_succ]
    have h3 : (code L J n + 1) * L ≤ L ^ n * L := Nat.mul_le_mul_right _ h1
    rw [Nat.add_mul] at h3
    omega
theorem code_inj {L : Nat} {J K : Nat → Nat} : ∀ n, (∀ m, m < n → J m < L) → (∀ m, m < n → K m < L) → code L J n = code L K n → ∀ m, m < n → J m = K m
  | 0, _, _, _, m, hm => absurd hm (by omega)
  | n + 1, h, k, e, m, hm => by
    rw [code, code] at e
    have h1 := h n (by omega)
    have h2 := k n (by omega)
    have h3 : J n = K n := by
      have e1 : (code L J n * L + J n) % L = J n := by rw [Nat.mul_comm, Nat.mul_add_mod, Nat.mod_eq_of_lt h1]
      have e2 : (code L K n * L + K n) % L = K n := by rw [Nat.mul_comm, Nat.mul_add_mod, Nat.mod_eq_of_lt h2]
      rw [← e1, ← e2, e]
    have h4 : code L J n = code L K n := Nat.eq_of_mul_eq_mul_right (show 0 < L by omega) (by omega)
    by_cases e2 : m = n
    · rw [e2, h3]
    · exact code_inj n (fun m hm => h m (by omega)) (fun m hm => k m (by omega)) h4 m (by omega)
/-- A run by the rule that does not end. -/
structure Endless (n cols last : Nat) (c : Nat → Int) (F : (Nat → Nat) → Int) (s : Int) (J : Nat → Nat → Nat) (R : Nat → Nat → Nat → Int) (b : Nat → Int) (i j : Nat → Nat) : Prop where
  colsLe : cols ≤ last
  plu : ∀ t, Plu n F (J t) (R t) (b t) s
  feas : ∀ t, Feas n last (R t) (b t)
  pick : ∀ t, Pick n cols last c (J t) (R t) (b t) (i t) (j t)
  nextJ : ∀ t, J (t + 1) = upd (J t) (i t) (j t)
  nextR : ∀ t, R (t + 1) = pivR (R t) (b t) (i t) (j t)
  nextB : ∀ t, b (t + 1) = R t (i t) (j t)
  basis : ∀ t m, m < n → J t m < last
section
variable {n cols last : Nat} {c : Nat → Int} {F : (Nat → Nat) → Int} {s : Int} {J : Nat → Nat → Nat} {R : Nat → Nat → Nat → Int} {b : Nat → Int} {i j : Nat → Nat}
theorem Endless.gap (h : Endless n cols last c F s J R b i j) (t : Nat) : gl n c (J (t + 1)) (R (t + 1)) (b (t + 1)) last * b t = gl n c (J t) (R t) (b t) last * b (t + 1) - gl n c (J t) (R t) (b t) (j t) * R t (i t) last := by
  have := (h.plu t).gl_pivot c (i := i t) (j := j t) (h.pick t).slot last
  rw [h.nextJ, h.nextR, h.nextB, Int.mul_comm _ (b t), this]
theorem frac_trans {x y z p q r : Int} (hq : 0 < q) (hp : 0 < p) (hr : 0 < r) (h1 : x * q ≤ y * p) (h2 : y * r ≤ z * q) : x * r ≤ z * p := by
  refine Int.le_of_mul_le_mul_right (a := q) ?_ hq
  have h3 : x * q * r ≤ y * p * r := Int.mul_le_mul_of_nonneg_right h1 (by omega)
  have h4 : y * r * p ≤ z * q * p := Int.mul_le_mul_of_nonneg_right h2 (by omega)
  have e1 : x * r * q = x * q * r := Int.mul_right_comm _ _ _
  have e2 : z * p * q = z * q * p := Int.mul_right_comm _ _ _
  have e3 : y * p * r = y * r * p := Int.mul_right_comm _ _ _
  omega
theorem Endless.mono (h : Endless n cols last c F s J R b i j) (t : Nat) : ∀ k, gl n c (J t) (R t) (b t) last * b (t + k) ≤ gl n c (J (t + k)) (R (t + k)) (b (t + k)) last * b t
  | 0 => Int.le_refl _
  | k + 1 => by
    have h1 := h.mono t k
    have h2 := h.gap (t + k)
    rw [show t + k + 1 = t + (k + 1) from rfl] at h2
    have h3 := (h.pick (t + k)).neg
    have h4 := (h.feas (t + k)).rhs _ (h.pick (t + k)).slot
    have h5 : gl n c (J (t + k)) (R (t + k)) (b (t + k)) (j (t + k)) * R (t + k) (i (t + k)) last ≤ 0 := Int.mul_nonpos_of_nonpos_of_nonneg (by omega) h4
    exact frac_trans (h.feas (t + k)).pos (h.feas t).pos (h.feas (t + k + 1)).pos h1 (by omega)
/-- A column is in the basis. -/
def In (n : Nat) (J : Nat → Nat) (l : Nat) : Prop := ∃ m, m < n ∧ J m = l
theorem Endless.enters (h : Endless n cols last c F s J R b i j) {t l : Nat} (h1 : ¬ In n (J t) l) (h2 : In n (J (t + 1)) l) : j t = l := by
  obtain ⟨m, hm, e⟩ := h2
  rw [h.nextJ] at e
  by_cases e2 : m = i t
  · rw [e2, upd_same] at e; exact e
  · rw [upd_other _ _ e2] at e; exact absurd ⟨m, hm, e⟩ h1
theorem Endless.leaves (h : Endless n cols last c F s J R b i j) {t l : Nat} (h1 : In n (J t) l) (h2 : ¬ In n (J (t + 1)) l) : J t (i t) = l := by
  obtain ⟨m, hm, e⟩ := h1
  by_cases e2 : m = i t
  · rw [← e2]; exact e
  · exact absurd ⟨m, hm, by rw [h.nextJ, upd_other _ _ e2]; exact e⟩ h2
theorem Endless.in_next (h : Endless n cols last c F s J R b i j) (t : Nat) : In n (J (t + 1)) (j t) := ⟨i t, (h.pick t).slot, by rw [h.nextJ, upd_same]⟩
theorem Endless.out_now (h : Endless n cols last c F s J R b i j) (t : Nat) : ¬ In n (J t) (j t) := by
  rintro ⟨m, hm, e⟩
  have h1 := (h.pick t).neg
  rw [← e, (h.plu t).gl_unit c hm] at h1
  omega
/-- A round trip: what holds at one time and is handed on holds at all times of it. -/
theorem round_trip {p q : Nat} (P : Nat → Prop) (hstep : ∀ t, p ≤ t → t < q → P t → P (t + 1)) (hclose : P q → P p) {a : Nat} (ha : p ≤ a) (ha2 : a ≤ q) (h0 : P a) : ∀ t, p ≤ t → t ≤ q → P t := by
  have fwd : ∀ k x, p ≤ x → x + k ≤ q → P x → P (x + k) := by
    intro k
    induction k with
    | zero => intro x _ _ h; exact h
    | succ k ih => intro x h1 h2 h3; exact hstep (x + k) (by omega) (by omega) (ih x h1 (by omega) h3)
  have hq : P q := by
    have := fwd (q - a) a ha (by omega) h0
    rwa [show a + (q - a) = q by omega] at this
  intro t h1 h2
  have := fwd (t - p) p (Nat.le_refl _) (by omega) (hclose hq)
  rwa [show p + (t - p) = t by omega] at this
theorem max_at (f : Nat → Nat) : ∀ (k p : Nat), ∃ a, p ≤ a ∧ a < p + (k + 1) ∧ ∀ t, p ≤ t → t < p + (k + 1) → f t ≤ f a
  | 0, p => ⟨p, Nat.le_refl _, by omega, fun t h1 h2 => by rw [show t = p by omega]; exact Nat.le_refl _⟩
  | k + 1, p => by
    obtain ⟨a, h1, h2, h3⟩ := max_at f k p
    by_cases h : f a ≤ f (p + (k + 1))
    · refine ⟨p + (k + 1), by omega, by omega, fun t h4 h5 => ?_⟩
      by_cases e : t = p + (k + 1)
      · rw [e]; exact Nat.le_refl _
      · exact Nat.le_trans (h3 t h4 (by omega)) h
    · refine ⟨a, h1, by omega, fun t h4 h5 => ?_⟩
      by_cases e : t = p + (k + 1)
      · rw [e]; omega
      · exact h3 t h4 (by omega)
/-- The sum over a direction: one column up, those of the basis by what they lose. -/
theorem sm_dir {W : Nat} (f : Nat → Int) (J0 : Nat → Nat) (r : Nat → Int) (e : Nat) (B : Int) (he : e < W) : ∀ n, (∀ m, m < n → J0 m < W) →
    (sm W fun l => f l * ((if l = e then B else 0) - sm n fun m => if l = J0 m then r m else 0)) = f e * B - sm n fun m => f (J0 m) * r m := by
  intro n hJ
  have e1 : (sm W fun l => f l * ((if l = e then B else 0) - sm n fun m => if l = J0 m then r m else 0)) = (sm W fun l => if l = e then f l * B else 0) - sm W fun l => sm n fun m => if l = J0 m then f l * r m else 0 := by
    rw [← sm_sub]
    refine sm_congr _ (fun l _ => ?_)
    rw [Int.mul_sub, ← sm_mul]
    have a1 : f l * (if l = e then B else 0) = if l = e then f l * B else 0 := by split <;> simp
    have a2 : (sm n fun m => f l * if l = J0 m then r m else 0) = sm n fun m => if l = J0 m then f l * r m else 0 := sm_congr _ (fun m _ => by split <;> simp)
    rw [a1, a2]
  rw [e1, sm_one e (fun l => f l * B), if_pos he, sm_swap]
  have e2 : (sm n fun m => sm W fun l => if l = J0 m then f l * r m else 0) = sm n fun m => f (J0 m) * r m := by
    refine sm_congr _ (fun m hm => ?_)
    rw [sm_one (J0 m) (fun l => f l * r m), if_pos (hJ m hm)]
  rw [e2]
/-- Bland: a run by the rule of the lowest column ends. -/
theorem Endless.false (h : Endless n cols last c F s J R b i j) : False := by
  obtain ⟨p, q, hpq, -, hcode⟩ := pigeon (last ^ n) (fun t => code last (J t) n) (fun t _ => code_lt n (h.basis t))
  have hJ := code_inj n (h.basis p) (h.basis q) hcode
  have hR : ∀ m l, m < n → R p m l = R q m l := fun m l hm => by
    rw [(h.plu p).row m l hm, (h.plu q).row m l hm]
    congr 1
    refine (h.plu p).alt.only _ _ (fun x hx => ?_)
    by_cases e : x = m
    · rw [e, upd_same, upd_same]
    · rw [upd_other _ _ e, upd_other _ _ e]; exact hJ x hx
  have hB : b p = b q := by rw [(h.plu p).val, (h.plu q).val, (h.plu p).alt.only _ _ hJ]
  have hG : gl n c (J p) (R p) (b p) last = gl n c (J q) (R q) (b q) last := by
    unfold gl
    rw [hB, sm_congr n (fun m hm => by rw [hJ m hm, hR m last hm])]
  -- no right side is left by a pivot of the cycle
  have hdeg : ∀ t, p ≤ t → t < q → R t (i t) last = 0 := by
    intro t h1 h2
    have m1 := h.mono p (t - p)
    have m2 := h.mono (t + 1) (q - (t + 1))
    rw [show p + (t - p) = t by omega] at m1
    rw [show t + 1 + (q - (t + 1)) = q by omega, ← hG, ← hB] at m2
    have m3 := frac_trans (h.feas p).pos (h.feas (t + 1)).pos (h.feas t).pos m2 m1
    have g := h.gap t
    have n1 := (h.pick t).neg
    have n2 := (h.feas t).rhs _ (h.pick t).slot
    have n3 : 0 ≤ gl n c (J t) (R t) (b t) (j t) * R t (i t) last := by omega
    rcases Int.lt_or_eq_of_le n2 with h5 | h5
    · have := Int.mul_neg_of_neg_of_pos n1 h5; omega
    · exact h5.symm
  have hin : ∀ l, In n (J q) l → In n (J p) l := fun l ⟨m, hm, e⟩ => ⟨m, hm, by rw [hJ m hm]; exact e⟩
  have hin' : ∀ l, In n (J p) l → In n (J q) l := fun l ⟨m, hm, e⟩ => ⟨m, hm, by rw [← hJ m hm]; exact e⟩
  -- who is out at a time of the cycle has nothing at all its times
  have hzero : ∀ l a, p ≤ a → a ≤ q → ¬ In n (J a) l → ∀ t, p ≤ t → t ≤ q → ∀ m, m < n → J t m = l → R t m last = 0 := by
    intro l a h1 h2 h3
    refine round_trip (fun t => ∀ m, m < n → J t m = l → R t m last = 0) (fun t h4 h5 ih m hm e => ?_) (fun hq m hm e => ?_) h1 h2 (fun m hm e => absurd ⟨m, hm, e⟩ h3)
    · rw [h.nextR]
      unfold pivR
      by_cases e2 : m = i t
      · rw [if_pos e2]; exact hdeg t h4 h5
      · rw [h.nextJ, upd_other _ _ e2] at e
        rw [if_neg e2, ih m hm e, hdeg t h4 h5]; simp
    · rw [hR m last hm]; exact hq m hm (by rw [← hJ m hm]; exact e)
  -- who is out at one time and in at another one comes in
  have hcomes : ∀ l a d, p ≤ a → a ≤ q → p ≤ d → d ≤ q → ¬ In n (J a) l → In n (J d) l → ∃ t, p ≤ t ∧ t < q ∧ j t = l := by
    intro l a d h1 h2 h3 h4 h5 h6
    refine Classical.byContradiction fun hno => ?_
    exact round_trip (fun t => ¬ In n (J t) l) (fun t h7 h8 h9 h10 => hno ⟨t, h7, h8, h.enters h9 h10⟩) (fun hq hp => hq (hin' l hp)) h1 h2 h5 d h3 h4 h6
  obtain ⟨a, ha, ha2, hmax⟩ := max_at j (q - p - 1) p
  rw [show p + (q - p - 1 + 1) = q by omega] at ha2 hmax
  obtain ⟨T, hT⟩ : ∃ T, j a = T := ⟨_, rfl⟩
  rw [hT] at hmax
  -- it leaves at some time
  obtain ⟨d, hd, hd2, hdT⟩ : ∃ d, p ≤ d ∧ d < q ∧ J d (i d) = T := by
    refine Classical.byContradiction fun hno => ?_
    refine h.out_now a ?_
    rw [hT]
    refine round_trip (fun t => In n (J t) T) (fun t h7 h8 h9 => Classical.byContradiction fun h10 => hno ⟨t, h7, h8, h.leaves h9 h10⟩) (hin T) (a := a + 1) (by omega) (by omega) ?_ a ha (by omega)
    rw [← hT]; exact h.in_next a
  have hslot := (h.pick d).slot
  have hTin : In n (J d) T := ⟨i d, hslot, hdT⟩
  have hsT : j d ≠ T := fun e => h.out_now d (by rw [e]; exact hTin)
  have hsle := hmax d hd hd2
  have hW : j d < last + 1 := by have := (h.pick d).col; have := h.colsLe; omega
  have hJW : ∀ m, m < n → J d m < last + 1 := fun m hm => by have := h.basis d m hm; omega
  -- the direction of the pivot at which it leaves
  obtain ⟨y, hy⟩ : ∃ y : Nat → Int, y = fun l => (if l = j d then b d else 0) - sm n fun m => if l = J d m then R d m (j d) else 0 := ⟨_, rfl⟩
  have hdir : ∀ f : Nat → Int, (sm (last + 1) fun l => f l * y l) = f (j d) * b d - sm n fun m => f (J d m) * R d m (j d) := fun f => by
    rw [hy]; exact sm_dir f (J d) (fun m => R d m (j d)) (j d) (b d) hW n hJW
  have hkd : Ker n (last + 1) (R d) y := by
    intro t ht
    rw [hdir (fun l => R d t l), sm_split _ t n ht, (h.plu d).unit ht ht, if_pos rfl]
    have : (sm n fun m => if m = t then 0 else R d t (J d m) * R d m (j d)) = 0 := sm_all0 n fun m hm => by
      by_cases e : m = t
      · rw [if_pos e]
      · rw [if_neg e, (h.plu d).unit ht hm, if_neg e, Int.zero_mul]
    rw [this]; grind
  have hkall : ∀ t, p ≤ t → t ≤ q → Ker n (last + 1) (R t) y := by
    refine round_trip (fun t => Ker n (last + 1) (R t) y) (fun t h7 h8 h9 => ?_) (fun hq m hm => ?_) hd (by omega) hkd
    · rw [h.nextR]
      exact ((h.plu t).ker_pivot (by have := (h.feas t).pos; omega) (h.pick t).slot (by have := (h.pick t).pos; omega) y).2 h9
    · have := hq m hm
      rw [← this]
      exact sm_congr _ (fun l _ => by rw [hR m l hm])
  have hka := hkall a ha (by omega)
  have ga := ker_goal (c := c) (J := J a) (b := b a) hka
  have gd := ker_goal (c := c) (J := J d) (b := b d) hkd
  rw [hdir (fun l => gl n c (J d) (R d) (b d) l)] at gd
  rw [hdir (fun l => gl n c (J a) (R a) (b a) l)] at ga
  have z0 : (sm n fun m => gl n c (J d) (R d) (b d) (J d m) * R d m (j d)) = 0 := sm_all0 n fun m hm => by rw [(h.plu d).gl_unit c hm, Int.zero_mul]
  rw [z0, Int.sub_zero] at gd
  have hbd := (h.feas d).pos
  have hba := (h.feas a).pos
  have hneg := (h.pick d).neg
  have hcy : (sm (last + 1) fun l => c l * y l) < 0 := by
    rcases Int.lt_or_le (sm (last + 1) fun l => c l * y l) 0 with h1 | h1
    · exact h1
    · have h2 := Int.mul_nonneg (show 0 ≤ b d by omega) h1
      have h3 := Int.mul_neg_of_neg_of_pos hneg hbd
      omega
  have hga : gl n c (J a) (R a) (b a) (j d) * b d - (sm n fun m => gl n c (J a) (R a) (b a) (J d m) * R d m (j d)) < 0 := by
    rw [ga]
    have := Int.mul_neg_of_neg_of_pos hcy hba
    rw [Int.mul_comm]; exact this
  have hlow : 0 ≤ gl n c (J a) (R a) (b a) (j d) := (h.pick a).low _ (by omega)
  have hlow2 := Int.mul_nonneg hlow (show 0 ≤ b d by omega)
  -- so some one of the basis has a part in it
  have hex : ∃ m, m < n ∧ 0 < gl n c (J a) (R a) (b a) (J d m) * R d m (j d) := by
    refine Classical.byContradiction fun hno => ?_
    have : (sm n fun m => gl n c (J a) (R a) (b a) (J d m) * R d m (j d)) ≤ sm n fun _ => 0 := sm_le n fun m hm => by
      rcases Int.lt_or_le 0 (gl n c (J a) (R a) (b a) (J d m) * R d m (j d)) with h1 | h1
      · exact absurd ⟨m, hm, h1⟩ hno
      · exact h1
    rw [sm_zero] at this
    omega
  obtain ⟨m, hm, hprod⟩ := hex
  have hout : ¬ In n (J a) (J d m) := by
    rintro ⟨k, hk, e⟩
    rw [← e, (h.plu a).gl_unit c hk, Int.zero_mul] at hprod
    omega
  obtain ⟨t, ht1, ht2, htj⟩ := hcomes (J d m) a d ha (by omega) hd (by omega) hout ⟨m, hm, rfl⟩
  have hle := hmax t ht1 ht2
  rw [htj] at hle
  have hz := hzero (J d m) a ha (by omega) hout d hd (by omega) m hm rfl
  by_cases e : J d m = T
  · have hmi : m = i d := by
      refine Classical.byContradiction fun hne => ?_
      have h1 := (h.plu d).alt.same (J d) m (i d) hm hslot hne (by rw [e, hdT])
      have h2 := (h.plu d).val
      rw [h1] at h2
      omega
    have hpos := (h.pick d).pos
    have hna := (h.pick a).neg
    rw [hT] at hna
    rw [e, hmi] at hprod
    have := Int.mul_neg_of_neg_of_pos hna hpos
    omega
  · have hlt : J d m < T := by omega
    have h1 : 0 ≤ gl n c (J a) (R a) (b a) (J d m) := (h.pick a).low _ (by omega)
    have h2 : 0 < R d m (j d) := by
      rcases Int.lt_or_le 0 (R d m (j d)) with h3 | h3
      · exact h3
      · have := Int.mul_nonpos_of_nonneg_of_nonpos h1 h3; omega
    have h3 := (h.pick d).ratio m hm h2
    rw [hz, hdeg d hd hd2, Int.zero_mul, Int.zero_mul, hdT] at h3
    omega
end
end Go.Proofs.YtefmioppamdceaaDoor
