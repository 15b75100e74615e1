/- Whole numbers as lists of digits to the base 4294967296, the lowest first: plain facts. -/
import Derived.WalkKit
namespace Go.Proofs.YtefmioppamdceaaDoor.W

/-- The digit of n at place k. -/
def dig (n k : Nat) : Nat := n / 4294967296 ^ k % 4294967296
/-- The i lowest digits. -/
def low (i n : Nat) : List Int := (List.range i).map fun k => (dig n k : Int)
/-- How many digits a number has. -/
def many : Nat → Nat
  | n => if h : n = 0 then 0 else many (n / 4294967296) + 1
termination_by n => n
decreasing_by omega
def digs (n : Nat) : List Int := low (many n) n

theorem many_zero : many 0 = 0 := by rw [many]; simp
theorem many_pos {n : Nat} (h : n ≠ 0) : many n = many (n / 4294967296) + 1 := by rw [many]; simp [h]
theorem lt_pow_iff (i n : Nat) : i < many n ↔ 4294967296 ^ i ≤ n := by
  induction i generalizing n with
  | zero =>
    by_cases h : n = 0
    · subst h; simp [many_zero]
    · rw [many_pos h]; simp; omega
  | succ i ih =>
    by_cases h : n = 0
    · subst h
      have : 0 < 4294967296 ^ (i + 1) := Nat.pow_pos (by omega)
      rw [many_zero]; omega
    · rw [many_pos h, Nat.add_lt_add_iff_right, ih, Nat.pow_succ, Nat.le_div_iff_mul_le (by omega)]
theorem lt_many (n : Nat) : n < 4294967296 ^ many n := by
  have := lt_pow_iff (many n) n
  omega
theorem many_eq {i n : Nat} (h : n < 4294967296 ^ i) (k : i = 0 ∨ 4294967296 ^ (i - 1) ≤ n) : many n = i := by
  have h1 : ¬ i < many n := by rw [lt_pow_iff]; omega
  rcases k with rfl | k
  · omega
  · have := (lt_pow_iff (i - 1) n).2 k
    omega
theorem many_le {i n : Nat} (h : n < 4294967296 ^ i) : many n ≤ i := by
  have h1 : ¬ i < many n := by rw [lt_pow_iff]; omega
  omega

theorem low_length (i n : Nat) : (low i n).length = i := by simp [low]
theorem digs_length (n : Nat) : (digs n).length = many n := low_length _ _
theorem low_snoc (i n : Nat) : low (i + 1) n = low i n ++ [(dig n i : Int)] := by simp [low, List.range_succ]
theorem low_eq_digs {i n : Nat} (h : n < 4294967296 ^ i) (k : i = 0 ∨ 4294967296 ^ (i - 1) ≤ n) : low i n = digs n := by rw [digs, many_eq h k]
theorem dig_lt (n k : Nat) : dig n k < 4294967296 := Nat.mod_lt _ (by omega)
theorem dig_out {n k : Nat} (h : many n ≤ k) : dig n k = 0 := by
  have h1 : ¬ k < many n := by omega
  rw [lt_pow_iff] at h1
  rw [dig, Nat.div_eq_of_lt (by omega)]
theorem low_at (i n k : Nat) (h : k < i) : (low i n).getD k 0 = (dig n k : Int) := by simp [low, h]
theorem digs_at (n k : Nat) : (digs n).getD k 0 = (dig n k : Int) := by
  by_cases h : k < many n
  · exact low_at _ _ _ h
  · rw [List.getD_eq_getElem?_getD, List.getElem?_eq_none (by rw [digs_length]; omega), dig_out (by omega)]; rfl
theorem digs_zero : digs 0 = [] := by rw [digs, many_zero]; rfl
theorem many_eq_zero {n : Nat} : many n = 0 ↔ n = 0 := by
  by_cases h : n = 0
  · subst h; simp [many_zero]
  · rw [many_pos h]; omega

/-- The lowest digits as a number. -/
theorem mod_succ (n i : Nat) : n % 4294967296 ^ (i + 1) = n % 4294967296 ^ i + 4294967296 ^ i * dig n i := by
  rw [Nat.pow_succ, Nat.mod_mul, dig]
theorem dig_of_mod (n i : Nat) : dig n i = n % 4294967296 ^ (i + 1) / 4294967296 ^ i := by
  have hp : 0 < 4294967296 ^ i := Nat.pow_pos (by omega)
  rw [mod_succ, Nat.add_mul_div_left _ _ hp, Nat.div_eq_of_lt (Nat.mod_lt _ hp), Nat.zero_add]

/-- What digits are worth. -/
def worth : List Int → Int
  | [] => 0
  | x :: l => x + 4294967296 * worth l
theorem worth_append (l m : List Int) : worth (l ++ m) = worth l + 4294967296 ^ l.length * worth m := by
  induction l with
  | nil => simp [worth]
  | cons x l ih =>
    simp only [List.cons_append, worth, ih, List.length_cons, Int.pow_succ]
    grind
theorem worth_low (i n : Nat) : worth (low i n) = ((n % 4294967296 ^ i : Nat) : Int) := by
  induction i with
  | zero => simp [low, worth, Nat.mod_one]
  | succ i ih =>
    rw [low_snoc, worth_append, ih, low_length, mod_succ]
    simp [worth]
theorem worth_digs (n : Nat) : worth (digs n) = n := by
  rw [digs, worth_low, Nat.mod_eq_of_lt (lt_many n)]
/-- Digits: numbers from 0 to 9999. -/
def Digits (l : List Int) : Prop := ∀ x ∈ l, 0 ≤ x ∧ x < 4294967296
theorem digits_low (i n : Nat) : Digits (low i n) := by
  intro x hx
  simp only [low, List.mem_map, List.mem_range] at hx
  obtain ⟨k, _, rfl⟩ := hx
  have := dig_lt n k
  omega
theorem digits_digs (n : Nat) : Digits (digs n) := digits_low _ _
theorem worth_nonneg {l : List Int} (h : Digits l) : 0 ≤ worth l ∧ worth l < 4294967296 ^ l.length := by
  induction l with
  | nil => simp [worth]
  | cons x l ih =>
    have h1 := h x (by simp)
    have h2 := ih (fun y hy => h y (by simp [hy]))
    simp only [worth, List.length_cons, Int.pow_succ]
    omega
/-- Digits are those of their worth. -/
theorem digits_eq_low {l : List Int} (h : Digits l) : l = low l.length (worth l).toNat := by
  induction l with
  | nil => rfl
  | cons x l ih =>
    have h1 := h x (by simp)
    have hl : Digits l := fun y hy => h y (by simp [hy])
    have h2 := worth_nonneg hl
    have h3 := ih hl
    have e : (worth (x :: l)).toNat = x.toNat + 4294967296 * (worth l).toNat := by simp only [worth]; omega
    refine List.ext_getElem (by simp [low_length]) fun k hk hk2 => ?_
    simp only [e, low, List.getElem_map, List.getElem_range]
    cases k with
    | zero => simp [dig]; omega
    | succ k =>
      have hk' : k < l.length := by simpa using hk
      have h4 : l[k]? = (low l.length (worth l).toNat)[k]? := congrArg (fun m : List Int => m[k]?) h3
      rw [List.getElem?_eq_getElem hk'] at h4
      simp only [List.getElem_cons_succ]
      simp [low, hk'] at h4
      rw [h4]
      congr 1
      simp only [dig]
      rw [Nat.pow_succ, Nat.mul_comm (4294967296 ^ k), ← Nat.div_div_eq_div_mul]
      congr 1
      congr 1
      omega
/-- Without the highest digits that are 0. -/
theorem digs_of_take {l : List Int} (h : Digits l) (n : Nat) (hn : n ≤ l.length) (hz : ∀ k, n ≤ k → k < l.length → l.getD k 0 = 0) (ht : n = 0 ∨ l.getD (n - 1) 0 ≠ 0) : l.take n = digs (worth l).toNat := by
  have h1 : Digits (l.take n) := fun x hx => h x (List.mem_of_mem_take hx)
  have h2 : worth l = worth (l.take n) := by
    have e0 : worth l = worth (l.take n) + 4294967296 ^ (l.take n).length * worth (l.drop n) := by rw [← worth_append, List.take_append_drop]
    have : ∀ m : List Int, (∀ x ∈ m, x = 0) → worth m = 0 := by
      intro m hm
      induction m with
      | nil => rfl
      | cons x m ih => simp only [worth]; rw [ih (fun y hy => hm y (by simp [hy])), hm x (by simp)]; rfl
    have h0 : worth (l.drop n) = 0 := by
      refine this _ fun x hx => ?_
      obtain ⟨k, hk, rfl⟩ := List.getElem_of_mem hx
      have := hz (n + k) (by omega) (by simp at hk; omega)
      rw [List.getElem_drop]
      rw [List.getD_eq_getElem?_getD, List.getElem?_eq_getElem (by simp at hk; omega)] at this
      exact this
    rw [e0, h0]; simp
  rw [h2]
  have h3 := digits_eq_low h1
  have hl : (l.take n).length = n := by simp; omega
  have h4 := worth_nonneg h1
  rw [hl] at h3 h4
  rw [h3]
  conv => rhs; rw [← h3]
  have hw : ((worth (l.take n)).toNat : Int) = worth (l.take n) := by omega
  refine low_eq_digs ?_ ?_
  · have h5 : ((worth (l.take n)).toNat : Int) < ((4294967296 ^ n : Nat) : Int) := by rw [hw]; simpa using h4.2
    omega
  · rcases ht with ht | ht
    · exact .inl ht
    · right
      have h0 : n ≠ 0 := by
        rintro rfl
        have := hz 0 (by omega)
        by_cases hl0 : 0 < l.length
        · exact ht (by simpa using this hl0)
        · have : l = [] := by simpa using hl0
          subst this; simp at ht
      have h6 : 0 < dig (worth (l.take n)).toNat (n - 1) := by
        have : ((low n (worth (l.take n)).toNat).getD (n - 1) 0) = (dig (worth (l.take n)).toNat (n - 1) : Int) := low_at _ _ _ (by omega)
        rw [← h3] at this
        have h7 : (l.take n).getD (n - 1) 0 = l.getD (n - 1) 0 := by
          simp only [List.getD_eq_getElem?_getD, List.getElem?_take]
          rw [if_pos (by omega)]
        rw [h7] at this
        omega
      rw [dig] at h6
      have h8 : 4294967296 ^ (n - 1) ≤ (worth (l.take n)).toNat := by
        by_cases hc : 4294967296 ^ (n - 1) ≤ (worth (l.take n)).toNat
        · exact hc
        · rw [Nat.div_eq_of_lt (by omega)] at h6; simp at h6
      exact h8

theorem worth_set (l : List Int) (k : Nat) (x : Int) (hk : k < l.length) : worth (l.set k x) = worth l + (x - l.getD k 0) * 4294967296 ^ k := by
  induction l generalizing k with
  | nil => simp at hk
  | cons y l ih =>
    cases k with
    | zero => simp [worth]; omega
    | succ k =>
      have := ih k (by simpa using hk)
      simp only [List.set_cons_succ, worth, this, List.getD_cons_succ, Int.pow_succ]
      grind
theorem digits_set {l : List Int} (h : Digits l) (k : Nat) {x : Int} (h0 : 0 ≤ x) (h1 : x < 4294967296) : Digits (l.set k x) := by
  intro y hy
  rcases List.mem_or_eq_of_mem_set hy with hy | rfl
  · exact h y hy
  · exact ⟨h0, h1⟩
theorem digits_getD {l : List Int} (h : Digits l) (k : Nat) : 0 ≤ l.getD k 0 ∧ l.getD k 0 < 4294967296 := by
  by_cases hk : k < l.length
  · rw [List.getD_eq_getElem?_getD, List.getElem?_eq_getElem hk]
    exact h _ (List.getElem_mem _)
  · rw [List.getD_eq_getElem?_getD, List.getElem?_eq_none (by omega)]; simp
theorem worth_replicate (n : Nat) : worth (List.replicate n 0) = 0 := by
  induction n with
  | zero => rfl
  | succ n ih => simp [List.replicate_succ, worth, ih]

/-- Comparing by digits. -/
theorem lt_of_many {a b : Nat} (h : many a < many b) : a < b := by
  have h1 := lt_many a
  have h2 := (lt_pow_iff (many a) b).1 h
  omega
theorem high_lt {a b i : Nat} (h : a / 4294967296 ^ (i + 1) = b / 4294967296 ^ (i + 1)) (k : dig a i < dig b i) : a < b := by
  have hp : 0 < 4294967296 ^ i := Nat.pow_pos (by omega)
  have ha : a / 4294967296 ^ i = 4294967296 * (a / 4294967296 ^ (i + 1)) + dig a i := by
    rw [Nat.pow_succ, ← Nat.div_div_eq_div_mul, dig]; omega
  have hb : b / 4294967296 ^ i = 4294967296 * (b / 4294967296 ^ (i + 1)) + dig b i := by
    rw [Nat.pow_succ, ← Nat.div_div_eq_div_mul, dig]; omega
  have h3 : a / 4294967296 ^ i < b / 4294967296 ^ i := by omega
  by_cases hc : a < b
  · exact hc
  · have := Nat.div_le_div_right (c := 4294967296 ^ i) (show b ≤ a by omega)
    omega
theorem high_eq {a b i : Nat} (h : a / 4294967296 ^ (i + 1) = b / 4294967296 ^ (i + 1)) (k : dig a i = dig b i) : a / 4294967296 ^ i = b / 4294967296 ^ i := by
  have ha : a / 4294967296 ^ i = 4294967296 * (a / 4294967296 ^ (i + 1)) + dig a i := by
    rw [Nat.pow_succ, ← Nat.div_div_eq_div_mul, dig]; omega
  have hb : b / 4294967296 ^ i = 4294967296 * (b / 4294967296 ^ (i + 1)) + dig b i := by
    rw [Nat.pow_succ, ← Nat.div_div_eq_div_mul, dig]; omega
  omega

/-- A step of the sum. -/
theorem add_step (a b i : Nat) : dig (a + b) i = ((a % 4294967296 ^ i + b % 4294967296 ^ i) / 4294967296 ^ i + dig a i + dig b i) % 4294967296 ∧
    (a % 4294967296 ^ (i + 1) + b % 4294967296 ^ (i + 1)) / 4294967296 ^ (i + 1) = ((a % 4294967296 ^ i + b % 4294967296 ^ i) / 4294967296 ^ i + dig a i + dig b i) / 4294967296 := by
  have hp : 0 < 4294967296 ^ i := Nat.pow_pos (by omega)
  have e1 : (a % 4294967296 ^ (i + 1) + b % 4294967296 ^ (i + 1)) / 4294967296 ^ i = (a % 4294967296 ^ i + b % 4294967296 ^ i) / 4294967296 ^ i + dig a i + dig b i := by
    rw [mod_succ, mod_succ]
    rw [show a % 4294967296 ^ i + 4294967296 ^ i * dig a i + (b % 4294967296 ^ i + 4294967296 ^ i * dig b i) = a % 4294967296 ^ i + b % 4294967296 ^ i + 4294967296 ^ i * (dig a i + dig b i) by
      rw [Nat.mul_add]; omega, Nat.add_mul_div_left _ _ hp]
    omega
  constructor
  · rw [← e1, dig_of_mod, Nat.add_mod]
    have : (a % 4294967296 ^ (i + 1) + b % 4294967296 ^ (i + 1)) % 4294967296 ^ (i + 1) / 4294967296 ^ i = dig (a % 4294967296 ^ (i + 1) + b % 4294967296 ^ (i + 1)) i := (dig_of_mod _ _).symm
    rw [this, dig]
  · rw [← e1, Nat.pow_succ, Nat.div_div_eq_div_mul]

/-- A step of the difference. -/
theorem sub_step (a b i : Nat) (h : b ≤ a) : (dig (a - b) i : Int) = (dig a i : Int) - (if a % 4294967296 ^ i < b % 4294967296 ^ i then 1 else 0) - dig b i + (if a % 4294967296 ^ (i + 1) < b % 4294967296 ^ (i + 1) then 4294967296 else 0) ∧
    (a % 4294967296 ^ (i + 1) < b % 4294967296 ^ (i + 1) ↔ (dig a i : Int) - (if a % 4294967296 ^ i < b % 4294967296 ^ i then 1 else 0) - dig b i < 0) := by
  have hp : 0 < 4294967296 ^ i := Nat.pow_pos (by omega)
  have ma := mod_succ a i
  have mb := mod_succ b i
  have la := Nat.mod_lt a hp
  have lb := Nat.mod_lt b hp
  have da := dig_lt a i
  have db := dig_lt b i
  have key : a % 4294967296 ^ (i + 1) < b % 4294967296 ^ (i + 1) ↔ (dig a i : Int) - (if a % 4294967296 ^ i < b % 4294967296 ^ i then 1 else 0) - dig b i < 0 := by
    rw [ma, mb]
    generalize a % 4294967296 ^ i = x at *
    generalize b % 4294967296 ^ i = y at *
    generalize dig a i = u at *
    generalize dig b i = v at *
    generalize 4294967296 ^ i = p at *
    rcases Nat.lt_trichotomy u v with huv | rfl | huv
    · have : p * (u + 1) ≤ p * v := Nat.mul_le_mul_left _ huv
      rw [Nat.mul_add] at this
      split <;> omega
    · split <;> omega
    · have : p * (v + 1) ≤ p * u := Nat.mul_le_mul_left _ huv
      rw [Nat.mul_add] at this
      split <;> omega
  refine ⟨?_, key⟩
  have hs := mod_succ (a - b) i
  have ls := Nat.mod_lt (a - b) hp
  have ds := dig_lt (a - b) i
  have hp1 : 0 < 4294967296 ^ (i + 1) := Nat.pow_pos (by omega)
  have f1 : ∀ q : Nat, 0 < q → (((a - b) % q : Nat) : Int) = ((a % q : Nat) : Int) - ((b % q : Nat) : Int) + (if a % q < b % q then (q : Int) else 0) := by
    intro q hq
    have h0 : a % q = (b % q + (a - b) % q) % q := by rw [← Nat.add_mod]; congr 1; omega
    have h2 := Nat.mod_lt (a - b) hq
    have h3 := Nat.mod_lt b hq
    rcases Nat.lt_or_ge (b % q + (a - b) % q) q with hlt | hge
    · rw [Nat.mod_eq_of_lt hlt] at h0
      rw [if_neg (by omega)]; omega
    · rw [Nat.mod_eq_sub_mod hge, Nat.mod_eq_of_lt (show b % q + (a - b) % q - q < q by omega)] at h0
      rw [if_pos (by omega)]; omega
  have g0' := f1 (4294967296 ^ i) hp
  have g1' := f1 (4294967296 ^ (i + 1)) hp1
  rw [hs, ma, mb] at g1'
  rw [← ma, ← mb] at g1'
  have e : ((4294967296 ^ (i + 1) : Nat) : Int) = ((4294967296 ^ i : Nat) : Int) * 4294967296 := by rw [Nat.pow_succ]; simp
  rw [e] at g1'
  rw [ma, mb] at g1'
  rw [← ma, ← mb] at g1'
  have hp' : (0 : Int) < ((4294967296 ^ i : Nat) : Int) := by omega
  refine Int.eq_of_mul_eq_mul_left (Int.ne_of_gt hp') ?_
  have g2 : (((a - b) % 4294967296 ^ i : Nat) : Int) + ((4294967296 ^ i : Nat) : Int) * (dig (a - b) i : Int) = (((a - b) % 4294967296 ^ i + 4294967296 ^ i * dig (a - b) i : Nat) : Int) := by simp
  have g3 : ((a % 4294967296 ^ (i + 1) : Nat) : Int) = ((a % 4294967296 ^ i : Nat) : Int) + ((4294967296 ^ i : Nat) : Int) * (dig a i : Int) := by rw [ma]; simp
  have g4 : ((b % 4294967296 ^ (i + 1) : Nat) : Int) = ((b % 4294967296 ^ i : Nat) : Int) + ((4294967296 ^ i : Nat) : Int) * (dig b i : Int) := by rw [mb]; simp
  rw [← g2, g3, g4] at g1'
  generalize ((4294967296 ^ i : Nat) : Int) = p at *
  split <;> split at g0' <;> split at g1' <;> first | (exfalso; omega) | grind

/-- A step of the quotient. -/
theorem div_step (a b i : Nat) (hb : 0 < b) : a / 4294967296 ^ i % b = (4294967296 * (a / 4294967296 ^ (i + 1) % b) + dig a i) % b ∧ dig (a / b) i = (4294967296 * (a / 4294967296 ^ (i + 1) % b) + dig a i) / b ∧ (4294967296 * (a / 4294967296 ^ (i + 1) % b) + dig a i) / b < 4294967296 := by
  have ha : a / 4294967296 ^ i = 4294967296 * (a / 4294967296 ^ (i + 1)) + dig a i := by
    rw [Nat.pow_succ, ← Nat.div_div_eq_div_mul, dig]; omega
  have hd := dig_lt a i
  generalize hq : a / 4294967296 ^ (i + 1) = q at *
  have hr := Nat.mod_lt q hb
  have e : 4294967296 * q + dig a i = b * (4294967296 * (q / b)) + (4294967296 * (q % b) + dig a i) := by
    conv => lhs; rw [← Nat.div_add_mod q b]
    rw [Nat.mul_add]
    grind
  have h3 : (4294967296 * (q % b) + dig a i) / b < 4294967296 := by
    rw [Nat.div_lt_iff_lt_mul hb]
    have : 4294967296 * (q % b + 1) ≤ 4294967296 * b := Nat.mul_le_mul_left _ hr
    omega
  refine ⟨?_, ?_, h3⟩
  · rw [ha, e, Nat.mul_add_mod]
  · rw [dig, Nat.div_div_eq_div_mul, Nat.mul_comm b, ← Nat.div_div_eq_div_mul, ha, e, Nat.mul_add_div hb, Nat.mul_add_mod, Nat.mod_eq_of_lt h3]

end Go.Proofs.YtefmioppamdceaaDoor.W
