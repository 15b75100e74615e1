/- Whole numbers as lists of digits to the base 4294967296, the lowest first: plain facts. -/
import Derived.WalkKit
import Derived.Test.YtefmioppamdceaaDoorMKit
import Derived.Shelf.Abstract
import Derived.Laws.Bits64b
import Derived.Laws.BitsAllLaws
namespace Go.Proofs.YtefmioppamdceaaDoor.W

/-- The digit of n at place k. -/
def dig (n k : Nat) : Nat := n / 4294967296 ^ k % 4294967296
/-- The i lowest digits. -/
def low (i n : Nat) : List Int := (List.range i).map fun k => (dig n k : Int)
/-- How many digits a number has. -/
def many : Nat → Nat
  | n => if h : n = 0 then 0 else many (n / 4294967296) + 1
termination_by n => n
decreasing_by omega
def digs (n : Nat) : List Int := low (many n) n

theorem many_zero : many 0 = 0 := by rw [many]; simp
theorem many_pos {n : Nat} (h : n ≠ 0) : many n = many (n / 4294967296) + 1 := by rw [many]; simp [h]
theorem lt_pow_iff (i n : Nat) : i < many n ↔ 4294967296 ^ i ≤ n := by
  induction i generalizing n with
  | zero =>
    by_cases h : n = 0
    · subst h; simp [many_zero]
    · rw [many_pos h]; simp; omega
  | succ i ih =>
    by_cases h : n = 0
    · subst h
      have : 0 < 4294967296 ^ (i + 1) := Nat.pow_pos (by omega)
      rw [many_zero]; omega
    · rw [many_pos h, Nat.add_lt_add_iff_right, ih, Nat.pow_succ, Nat.le_div_iff_mul_le (by omega)]
theorem lt_many (n : Nat) : n < 4294967296 ^ many n := by
  have := lt_pow_iff (many n) n
  omega
theorem many_eq {i n : Nat} (h : n < 4294967296 ^ i) (k : i = 0 ∨ 4294967296 ^ (i - 1) ≤ n) : many n = i := by
  have h1 : ¬ i < many n := by rw [lt_pow_iff]; omega
  rcases k with rfl | k
  · omega
  · have := (lt_pow_iff (i - 1) n).2 k
    omega
theorem many_le {i n : Nat} (h : n < 4294967296 ^ i) : many n ≤ i := by
  have h1 : ¬ i < many n := by rw [lt_pow_iff]; omega
  omega

theorem low_length (i n : Nat) : (low i n).length = i := by simp [low]
theorem digs_length (n : Nat) : (digs n).length = many n := low_length _ _
theorem low_snoc (i n : Nat) : low (i + 1) n = low i n ++ [(dig n i : Int)] := by simp [low, List.range_succ]
theorem low_eq_digs {i n : Nat} (h : n < 4294967296 ^ i) (k : i = 0 ∨ 4294967296 ^ (i - 1) ≤ n) : low i n = digs n := by rw [digs, many_eq h k]
theorem dig_lt (n k : Nat) : dig n k < 4294967296 := Nat.mod_lt _ (by omega)
theorem dig_out {n k : Nat} (h : many n ≤ k) : dig n k = 0 := by
  have h1 : ¬ k < many n := by omega
  rw [lt_pow_iff] at h1
  rw [dig, Nat.div_eq_of_lt (by omega)]
theorem low_at (i n k : Nat) (h : k < i) : (low i n).getD k 0 = (dig n k : Int) := by simp [low, h]
theorem digs_at (n k : Nat) : (digs n).getD k 0 = (dig n k : Int) := by
  by_cases h : k < many n
  · exact low_at _ _ _ h
  · rw [List.getD_eq_getElem?_getD, List.getElem?_eq_none (by rw [digs_length]; omega), dig_out (by omega)]; rfl
theorem digs_zero : digs 0 = [] := by rw [digs, many_zero]; rfl
theorem many_eq_zero {n : Nat} : many n = 0 ↔ n = 0 := by
  by_cases h : n = 0
  · subst h; simp [many_zero]
  · rw [many_pos h]; omega

/-- The lowest digits as a number. -/
theorem mod_succ (n i : Nat) : n % 4294967296 ^ (i + 1) = n % 4294967296 ^ i + 4294967296 ^ i * dig n i := by
  rw [Nat.pow_succ, Nat.mod_mul, dig]
theorem dig_of_mod (n i : Nat) : dig n i = n % 4294967296 ^ (i + 1) / 4294967296 ^ i := by
  have hp : 0 < 4294967296 ^ i := Nat.pow_pos (by omega)
  rw [mod_succ, Nat.add_mul_div_left _ _ hp, Nat.div_eq_of_lt (Nat.mod_lt _ hp), Nat.zero_add]

/-- What digits are worth. -/
def worth : List Int → Int
  | [] => 0
  | x :: l => x + 4294967296 * worth l
theorem worth_append (l m : List Int) : worth (l ++ m) = worth l + 4294967296 ^ l.length * worth m := by
  induction l with
  | nil => simp [worth]
  | cons x l ih =>
    simp only [List.cons_append, worth, ih, List.length_cons, Int.pow_succ]
    grind
theorem worth_low (i n : Nat) : worth (low i n) = ((n % 4294967296 ^ i : Nat) : Int) := by
  induction i with
  | zero => simp [low, worth, Nat.mod_one]
  | succ i ih =>
    rw [low_snoc, worth_append, ih, low_length, mod_succ]
    simp [worth]
/-- Digits: numbers from 0 to 9999. -/
def Digits (l : List Int) : Prop := ∀ x ∈ l, 0 ≤ x ∧ x < 4294967296
theorem digits_low (i n : Nat) : Digits (low i n) := by
  intro x hx
  simp only [low, List.mem_map, List.mem_range] at hx
  obtain ⟨k, _, rfl⟩ := hx
  have := dig_lt n k
  omega
theorem worth_nonneg {l : List Int} (h : Digits l) : 0 ≤ worth l ∧ worth l < 4294967296 ^ l.length := by
  induction l with
  | nil => simp [worth]
  | cons x l ih =>
    have h1 := h x (by simp)
    have h2 := ih (fun y hy => h y (by simp [hy]))
    simp only [worth, List.length_cons, Int.pow_succ]
    omega
/-- Digits are those of their worth. -/
theorem digits_eq_low {l : List Int} (h : Digits l) : l = low l.length (worth l).toNat := by
  induction l with
  | nil => rfl
  | cons x l ih =>
    have h1 := h x (by simp)
    have hl : Digits l := fun y hy => h y (by simp [hy])
    have h2 := worth_nonneg hl
    have h3 := ih hl
    have e : (worth (x :: l)).toNat = x.toNat + 4294967296 * (worth l).toNat := by simp only [worth]; omega
    refine List.ext_getElem (by simp [low_length]) fun k hk hk2 => ?_
    simp only [e, low, List.getElem_map, List.getElem_range]
    cases k with
    | zero => simp [dig]; omega
    | succ k =>
      have hk' : k < l.length := by simpa using hk
      have h4 : l[k]? = (low l.length (worth l).toNat)[k]? := congrArg (fun m : List Int => m[k]?) h3
      rw [List.getElem?_eq_getElem hk'] at h4
      simp only [List.getElem_cons_succ]
      simp [low, hk'] at h4
      rw [h4]
      congr 1
      simp only [dig]
      rw [Nat.pow_succ, Nat.mul_comm (4294967296 ^ k), ← Nat.div_div_eq_div_mul]
      congr 1
      congr 1
      omega
/-- Without the highest digits that are 0. -/
theorem digs_of_take {l : List Int} (h : Digits l) (n : Nat) (hn : n ≤ l.length) (hz : ∀ k, n ≤ k → k < l.length → l.getD k 0 = 0) (ht : n = 0 ∨ l.getD (n - 1) 0 ≠ 0) : l.take n = digs (worth l).toNat := by
  have h1 : Digits (l.take n) := fun x hx => h x (List.mem_of_mem_take hx)
  have h2 : worth l = worth (l.take n) := by
    have e0 : worth l = worth (l.take n) + 4294967296 ^ (l.take n).length * worth (l.drop n) := by rw [← worth_append, List.take_append_drop]
    have : ∀ m : List Int, (∀ x ∈ m, x = 0) → worth m = 0 := by
      intro m hm
      induction m with
      | nil => rfl
      | cons x m ih => simp only [worth]; rw [ih (fun y hy => hm y (by simp [hy])), hm x (by simp)]; rfl
    have h0 : worth (l.drop n) = 0 := by
      refine this _ fun x hx => ?_
      obtain ⟨k, hk, rfl⟩ := List.getElem_of_mem hx
      have := hz (n + k) (by omega) (by simp at hk; omega)
      rw [List.getElem_drop]
      rw [List.getD_eq_getElem?_getD, List.getElem?_eq_getElem (by simp at hk; omega)] at this
      exact this
    rw [e0, h0]; simp
  rw [h2]
  have h3 := digits_eq_low h1
  have hl : (l.take n).length = n := by simp; omega
  have h4 := worth_nonneg h1
  rw [hl] at h3 h4
  rw [h3]
  conv => rhs; rw [← h3]
  have hw : ((worth (l.take n)).toNat : Int) = worth (l.take n) := by omega
  refine low_eq_digs ?_ ?_
  · have h5 : ((worth (l.take n)).toNat : Int) < ((4294967296 ^ n : Nat) : Int) := by rw [hw]; simpa using h4.2
    omega
  · rcases ht with ht | ht
    · exact .inl ht
    · right
      have h0 : n ≠ 0 := by
        rintro rfl
        have := hz 0 (by omega)
        by_cases hl0 : 0 < l.length
        · exact ht (by simpa using this hl0)
        · have : l = [] := by simpa using hl0
          subst this; simp at ht
      have h6 : 0 < dig (worth (l.take n)).toNat (n - 1) := by
        have : ((low n (worth (l.take n)).toNat).getD (n - 1) 0) = (dig (worth (l.take n)).toNat (n - 1) : Int) := low_at _ _ _ (by omega)
        rw [← h3] at this
        have h7 : (l.take n).getD (n - 1) 0 = l.getD (n - 1) 0 := by
          simp only [List.getD_eq_getElem?_getD, List.getElem?_take]
          rw [if_pos (by omega)]
        rw [h7] at this
        omega
      rw [dig] at h6
      have h8 : 4294967296 ^ (n - 1) ≤ (worth (l.take n)).toNat := by
        by_cases hc : 4294967296 ^ (n - 1) ≤ (worth (l.take n)).toNat
        · exact hc
        · rw [Nat.div_eq_of_lt (by omega)] at h6; simp at h6
      exact h8

/-- Comparing by digits. -/
theorem lt_of_many {a b : Nat} (h : many a < many b) : a < b := by
  have h1 := lt_many a
  have h2 := (lt_pow_iff (many a) b).1 h
  omega
theorem high_lt {a b i : Nat} (h : a / 4294967296 ^ (i + 1) = b / 4294967296 ^ (i + 1)) (k : dig a i < dig b i) : a < b := by
  have hp : 0 < 4294967296 ^ i := Nat.pow_pos (by omega)
  have ha : a / 4294967296 ^ i = 4294967296 * (a / 4294967296 ^ (i + 1)) + dig a i := by
    rw [Nat.pow_succ, ← Nat.div_div_eq_div_mul, dig]; omega
  have hb : b / 4294967296 ^ i = 4294967296 * (b / 4294967296 ^ (i + 1)) + dig b i := by
    rw [Nat.pow_succ, ← Nat.div_div_eq_div_mul, dig]; omega
  have h3 : a / 4294967296 ^ i < b / 4294967296 ^ i := by omega
  by_cases hc : a < b
  · exact hc
  · have := Nat.div_le_div_right (c := 4294967296 ^ i) (show b ≤ a by omega)
    omega
theorem high_eq {a b i : Nat} (h : a / 4294967296 ^ (i + 1) = b / 4294967296 ^ (i + 1)) (k : dig a i = dig b i) : a / 4294967296 ^ i = b / 4294967296 ^ i := by
  have ha : a / 4294967296 ^ i = 4294967296 * (a / 4294967296 ^ (i + 1)) + dig a i := by
    rw [Nat.pow_succ, ← Nat.div_div_eq_div_mul, dig]; omega
  have hb : b / 4294967296 ^ i = 4294967296 * (b / 4294967296 ^ (i + 1)) + dig b i := by
    rw [Nat.pow_succ, ← Nat.div_div_eq_div_mul, dig]; omega
  omega

/-- A step of the sum. -/
theorem add_step (a b i : Nat) : dig (a + b) i = ((a % 4294967296 ^ i + b % 4294967296 ^ i) / 4294967296 ^ i + dig a i + dig b i) % 4294967296 ∧
    (a % 4294967296 ^ (i + 1) + b % 4294967296 ^ (i + 1)) / 4294967296 ^ (i + 1) = ((a % 4294967296 ^ i + b % 4294967296 ^ i) / 4294967296 ^ i + dig a i + dig b i) / 4294967296 := by
  have hp : 0 < 4294967296 ^ i := Nat.pow_pos (by omega)
  have e1 : (a % 4294967296 ^ (i + 1) + b % 4294967296 ^ (i + 1)) / 4294967296 ^ i = (a % 4294967296 ^ i + b % 4294967296 ^ i) / 4294967296 ^ i + dig a i + dig b i := by
    rw [mod_succ, mod_succ]
    rw [show a % 4294967296 ^ i + 4294967296 ^ i * dig a i + (b % 4294967296 ^ i + 4294967296 ^ i * dig b i) = a % 4294967296 ^ i + b % 4294967296 ^ i + 4294967296 ^ i * (dig a i + dig b i) by
      rw [Nat.mul_add]; omega, Nat.add_mul_div_left _ _ hp]
    omega
  constructor
  · rw [← e1, dig_of_mod, Nat.add_mod]
    have : (a % 4294967296 ^ (i + 1) + b % 4294967296 ^ (i + 1)) % 4294967296 ^ (i + 1) / 4294967296 ^ i = dig (a % 4294967296 ^ (i + 1) + b % 4294967296 ^ (i + 1)) i := (dig_of_mod _ _).symm
    rw [this, dig]
  · rw [← e1, Nat.pow_succ, Nat.div_div_eq_div_mul]

/-- A step of the difference. -/
theorem sub_step (a b i : Nat) (h : b ≤ a) : (dig (a - b) i : Int) = (dig a i : Int) - (if a % 4294967296 ^ i < b % 4294967296 ^ i then 1 else 0) - dig b i + (if a % 4294967296 ^ (i + 1) < b % 4294967296 ^ (i + 1) then 4294967296 else 0) ∧
    (a % 4294967296 ^ (i + 1) < b % 4294967296 ^ (i + 1) ↔ (dig a i : Int) - (if a % 4294967296 ^ i < b % 4294967296 ^ i then 1 else 0) - dig b i < 0) := by
  have hp : 0 < 4294967296 ^ i := Nat.pow_pos (by omega)
  have ma := mod_succ a i
  have mb := mod_succ b i
  have la := Nat.mod_lt a hp
  have lb := Nat.mod_lt b hp
  have da := dig_lt a i
  have db := dig_lt b i
  have key : a % 4294967296 ^ (i + 1) < b % 4294967296 ^ (i + 1) ↔ (dig a i : Int) - (if a % 4294967296 ^ i < b % 4294967296 ^ i then 1 else 0) - dig b i < 0 := by
    rw [ma, mb]
    generalize a % 4294967296 ^ i = x at *
    generalize b % 4294967296 ^ i = y at *
    generalize dig a i = u at *
    generalize dig b i = v at *
    generalize 4294967296 ^ i = p at *
    rcases Nat.lt_trichotomy u v with huv | rfl | huv
    · have : p * (u + 1) ≤ p * v := Nat.mul_le_mul_left _ huv
      rw [Nat.mul_add] at this
      split <;> omega
    · split <;> omega
    · have : p * (v + 1) ≤ p * u := Nat.mul_le_mul_left _ huv
      rw [Nat.mul_add] at this
      split <;> omega
  refine ⟨?_, key⟩
  have hs := mod_succ (a - b) i
  have ls := Nat.mod_lt (a - b) hp
  have ds := dig_lt (a - b) i
  have hp1 : 0 < 4294967296 ^ (i + 1) := Nat.pow_pos (by omega)
  have f1 : ∀ q : Nat, 0 < q → (((a - b) % q : Nat) : Int) = ((a % q : Nat) : Int) - ((b % q : Nat) : Int) + (if a % q < b % q then (q : Int) else 0) := by
    intro q hq
    have h0 : a % q = (b % q + (a - b) % q) % q := by rw [← Nat.add_mod]; congr 1; omega
    have h2 := Nat.mod_lt (a - b) hq
    have h3 := Nat.mod_lt b hq
    rcases Nat.lt_or_ge (b % q + (a - b) % q) q with hlt | hge
    · rw [Nat.mod_eq_of_lt hlt] at h0
      rw [if_neg (by omega)]; omega
    · rw [Nat.mod_eq_sub_mod hge, Nat.mod_eq_of_lt (show b % q + (a - b) % q - q < q by omega)] at h0
      rw [if_pos (by omega)]; omega
  have g0' := f1 (4294967296 ^ i) hp
  have g1' := f1 (4294967296 ^ (i + 1)) hp1
  rw [hs, ma, mb] at g1'
  rw [← ma, ← mb] at g1'
  have e : ((4294967296 ^ (i + 1) : Nat) : Int) = ((4294967296 ^ i : Nat) : Int) * 4294967296 := by rw [Nat.pow_succ]; simp
  rw [e] at g1'
  rw [ma, mb] at g1'
  rw [← ma, ← mb] at g1'
  have hp' : (0 : Int) < ((4294967296 ^ i : Nat) : Int) := by omega
  refine Int.eq_of_mul_eq_mul_left (Int.ne_of_gt hp') ?_
  have g2 : (((a - b) % 4294967296 ^ i : Nat) : Int) + ((4294967296 ^ i : Nat) : Int) * (dig (a - b) i : Int) = (((a - b) % 4294967296 ^ i + 4294967296 ^ i * dig (a - b) i : Nat) : Int) := by simp
  have g3 : ((a % 4294967296 ^ (i + 1) : Nat) : Int) = ((a % 4294967296 ^ i : Nat) : Int) + ((4294967296 ^ i : Nat) : Int) * (dig a i : Int) := by rw [ma]; simp
  have g4 : ((b % 4294967296 ^ (i + 1) : Nat) : Int) = ((b % 4294967296 ^ i : Nat) : Int) + ((4294967296 ^ i : Nat) : Int) * (dig b i : Int) := by rw [mb]; simp
  rw [← g2, g3, g4] at g1'
  generalize ((4294967296 ^ i : Nat) : Int) = p at *
  split <;> split at g0' <;> split at g1' <;> first | (exfalso; omega) | grind

/-- A step of the quotient. -/
theorem div_step (a b i : Nat) (hb : 0 < b) : a / 4294967296 ^ i % b = (4294967296 * (a / 4294967296 ^ (i + 1) % b) + dig a i) % b ∧ dig (a / b) i = (4294967296 * (a / 4294967296 ^ (i + 1) % b) + dig a i) / b ∧ (4294967296 * (a / 4294967296 ^ (i + 1) % b) + dig a i) / b < 4294967296 := by
  have ha : a / 4294967296 ^ i = 4294967296 * (a / 4294967296 ^ (i + 1)) + dig a i := by
    rw [Nat.pow_succ, ← Nat.div_div_eq_div_mul, dig]; omega
  have hd := dig_lt a i
  generalize hq : a / 4294967296 ^ (i + 1) = q at *
  have hr := Nat.mod_lt q hb
  have e : 4294967296 * q + dig a i = b * (4294967296 * (q / b)) + (4294967296 * (q % b) + dig a i) := by
    conv => lhs; rw [← Nat.div_add_mod q b]
    rw [Nat.mul_add]
    grind
  have h3 : (4294967296 * (q % b) + dig a i) / b < 4294967296 := by
    rw [Nat.div_lt_iff_lt_mul hb]
    have : 4294967296 * (q % b + 1) ≤ 4294967296 * b := Nat.mul_le_mul_left _ hr
    omega
  refine ⟨?_, ?_, h3⟩
  · rw [ha, e, Nat.mul_add_mod]
  · rw [dig, Nat.div_div_eq_div_mul, Nat.mul_comm b, ← Nat.div_div_eq_div_mul, ha, e, Nat.mul_add_div hb, Nat.mul_add_mod, Nat.mod_eq_of_lt h3]

end Go.Proofs.YtefmioppamdceaaDoor.W

/- Words of big: digits to the base 2^32 in memory; trim, small, of. -/
namespace Go.Proofs.YtefmioppamdceaaDoor
open Go.RowKit Go.Shelf

theorem ith_getD (l : List Int) (k : Nat) : ith l k = l.getD k 0 := rfl
theorem take_snoc (xs : List Int) (k : Nat) (h : k < xs.length) : xs.take (k + 1) = xs.take k ++ [ith xs k] := by
  rw [List.take_succ_eq_append_getElem h]
  simp [ith, h]
/-- Digits lie in memory, from a block's first cell on. -/
def WIn (w : World) (ao : Option Addr) (l : List Int) : Prop := ∀ k, k < l.length → ∃ b, ao = some ⟨b, 0, none⟩ ∧ b < w.heap.size ∧ w.cell? ⟨b, k, none⟩ = some (.int .u32 (ith l k))
theorem WIn.ext {w w' : World} {ao : Option Addr} {l : List Int} (h : WIn w ao l) (hx : Ext w w') : WIn w' ao l := fun k hk => by
  obtain ⟨b, h1, h2, h3⟩ := h k hk
  exact ⟨b, h1, Nat.lt_of_lt_of_le h2 hx.size, (hx.cell (p := ⟨b, k, none⟩) h2).trans h3⟩
theorem WIn.grown {w w' : World} {ao : Option Addr} {l : List Int} {row : Option Nat} (h : WIn w ao l) (hg : w.grownBy w' row) (hne : ∀ a, ao = some a → l ≠ [] → some a.block ≠ row) : WIn w' ao l := fun k hk => by
  obtain ⟨b, h1, h2, h3⟩ := h k hk
  exact ⟨b, h1, Nat.lt_of_lt_of_le h2 hg.size, (grownBy_cell hg (p := ⟨b, k, none⟩) h2 (hne ⟨b, 0, none⟩ h1 (by intro e; subst e; simp at hk))).trans h3⟩
/-- The digits of a number lie in memory. -/
structure WNum (w : World) (ao : Option Addr) (A c : Nat) (n : Nat) : Prop where
  many : W.many n = A
  cap : A ≤ c
  ints : WIn w ao (W.digs n)
theorem WNum.ext {w w' : World} {ao : Option Addr} {A c n : Nat} (h : WNum w ao A c n) (hx : Ext w w') : WNum w' ao A c n := ⟨h.many, h.cap, h.ints.ext hx⟩
theorem WNum.at_ {w : World} {ao : Option Addr} {A c n : Nat} (h : WNum w ao A c n) (k : Nat) (hk : k < A) : ∃ b, ao = some ⟨b, 0, none⟩ ∧ b < w.heap.size ∧ w.cell? ⟨b, k, none⟩ = some (.int .u32 (W.dig n k)) := by
  obtain ⟨b, h1, h2, h3⟩ := h.ints k (by rw [W.digs_length, h.many]; exact hk)
  exact ⟨b, h1, h2, by rw [h3, ith_getD, W.digs_at]⟩
/-- A number is handed back. -/
def WRes (w : World) (n : Nat) (e : Ending) (w' : World) : Prop := ∃ ao A c, e = .returned (.slice ao A c) ∧ WNum w' ao A c n ∧ Ext w w'
set_option maxRecDepth 100000 in
theorem wtrim_calls (w : World) (ao : Option Addr) (c : Nat) (l : List Int) (hI : WIn w ao l) (hD : W.Digits l) (hl : l.length ≤ 100000) (hc : l.length ≤ c) :
    Calls Tryd.prog 114 #[.slice ao l.length c] w (WRes w (W.worth l).toNat) := by
  have HT : Hid (∀ p, p ≤ l.length → (∀ k, p ≤ k → k < l.length → ith l k = 0) → (p = 0 ∨ ith l (p - 1) ≠ 0) → l.take p = W.digs (W.worth l).toNat) := Lib.hid (fun p h1 h2 h3 => W.digs_of_take hD p h1 h2 h3)
  clear hD
  go_enter Tryd.func114, Tryd.ntmps114
  go_wp2_with fail
  go_loopw [3] (fun nv wr => ∃ p : Nat, p ≤ l.length ∧ nv = .int .i64 p ∧ Ext w wr ∧ Hid (∀ k, p ≤ k → k < l.length → ith l k = 0)) (fun nv _ => (intOf nv).toNat)
  case atStart => exact ⟨l.length, by omega, rfl, Ext.refl _, Lib.hid (fun k h1 h2 => by omega)⟩
  case round =>
    obtain ⟨p, hp, rfl, hx, HZ⟩ := hrel
    have hpc : p ≤ c := by omega
    rcases Nat.eq_zero_or_pos p with hp0 | hp0
    · subst hp0
      replace HT : Hid (l.take 0 = W.digs (W.worth l).toNat) := Lib.hid (HT.out 0 hp (fun k h1 h2 => HZ.out k (by omega) h2) (.inl rfl))
      go_wp2_with fail
      go_ret
      refine ⟨ao, 0, c, rfl, ⟨?_, by omega, ?_⟩, hx⟩
      · rw [← W.digs_length, ← HT.out]; rfl
      · rw [← HT.out]; intro k hk; simp at hk
    · obtain ⟨q, hq⟩ : ∃ q, p = q + 1 := ⟨p - 1, by omega⟩
      obtain ⟨b, rfl, hb, hc⟩ := hI.ext hx q (by omega)
      have e1 : (p : Int) - 1 = (q : Int) := by omega
      have k1 : (0 : Int) < (p : Int) := by omega
      have HQ := Lib.hid hq
      clear hq
      by_cases h0 : ith l q = 0
      · have h0b : (ith l q == 0) = true := by simp [h0]
        have H0 := Lib.hid h0
        clear h0
        go_wp2_with fail
        have hq := HQ.out
        exact ⟨⟨q, by omega, rfl, hx, Lib.hid (fun k h1 h2 => by
          by_cases e : k = q
          · subst e; exact H0.out
          · exact HZ.out k (by omega) h2)⟩, by simp only [intOf]; omega⟩
      · have h0b : (ith l q == 0) = false := by simp [h0]
        replace HT : Hid (l.take p = W.digs (W.worth l).toNat) := Lib.hid (HT.out p hp (fun k h1 h2 => HZ.out k (by omega) h2) (.inr (by rw [HQ.out]; exact h0)))
        clear h0
        have hI2 := hI.ext hx
        go_wp2_with fail
        go_ret
        refine ⟨some ⟨b, 0, none⟩, p, c, rfl, ⟨?_, hpc, ?_⟩, hx⟩
        · rw [← W.digs_length, ← HT.out, List.length_take]; omega
        · rw [← HT.out]
          intro k hk
          rw [List.length_take] at hk
          obtain ⟨b2, h1, h2, h3⟩ := hI2 k (by omega)
          refine ⟨b2, h1, h2, ?_⟩
          rw [h3, ith_getD, ith_getD]
          simp [List.getD_eq_getElem?_getD, List.getElem?_take]
          rw [if_pos (by omega)]
/-- A number of few digits. -/
theorem two_digs {n : Nat} (h : W.many n ≤ 2) : n = W.dig n 1 * 4294967296 + W.dig n 0 := by
  have h1 : n < 4294967296 ^ 2 := by
    have := W.lt_many n
    exact Nat.lt_of_lt_of_le this (Nat.pow_le_pow_right (by omega) h)
  unfold W.dig
  simp only [Nat.pow_one, Nat.pow_zero, Nat.div_one]
  omega
theorem one_dig {n : Nat} (h : W.many n ≤ 1) : n = W.dig n 0 := by
  have h1 : n < 4294967296 ^ 1 := by
    have := W.lt_many n
    exact Nat.lt_of_lt_of_le this (Nat.pow_le_pow_right (by omega) h)
  unfold W.dig
  simp only [Nat.pow_zero, Nat.div_one]
  omega
def smallRes (A n : Nat) : Value := .tuple #[.int .u64 (if A ≤ 2 then (n : Int) else 0), .bool (decide (A ≤ 2))]
theorem or_halves (x y : Nat) (hx : x < 4294967296) (hy : y < 4294967296) : bits .or .u64 ((x : Int) * 4294967296) (y : Int) = ((x * 4294967296 + y : Nat) : Int) := by
  rw [show (x : Int) * 4294967296 = ((x * 4294967296 : Nat) : Int) by simp, u64_or_nat _ _ (by omega) (by omega)]
  congr 1
  have := Nat.shiftLeft_add_eq_or_of_lt (b := y) (i := 32) (by omega) x
  rw [Nat.shiftLeft_eq] at this
  simpa using this.symm
set_option maxRecDepth 100000 in
theorem small_calls (w : World) (ao : Option Addr) (A c n : Nat) (hN : WNum w ao A c n) :
    Calls Tryd.prog 112 #[.slice ao A c] w fun e w' => e = .returned (smallRes A n) ∧ Ext w w' := by
  have HM := Lib.hid hN.many
  go_enter Tryd.func112, Tryd.ntmps112
  match A, hN with
  | 0, hN =>
    have HE : Hid (n = 0) := Lib.hid (by have := hN.many; rwa [W.many_eq_zero] at this)
    go_wp2_with fail
    go_ret2
    exact ⟨by rw [HE.out]; rfl, Ext.refl _⟩
  | 1, hN =>
    obtain ⟨b, rfl, hb, hc⟩ := hN.at_ 0 (by omega)
    have HE : Hid (n = W.dig n 0) := Lib.hid (one_dig (by rw [hN.many]; omega))
    have hd := W.dig_lt n 0
    obtain ⟨x, hx⟩ : ∃ x, x = W.dig n 0 := ⟨_, rfl⟩
    rw [← hx] at hc hd HE
    clear hx
    go_wp2_with fail
    go_ret2
    exact ⟨by rw [HE.out]; rfl, Ext.refl _⟩
  | 2, hN =>
    obtain ⟨b, rfl, hb, hc⟩ := hN.at_ 0 (by omega)
    obtain ⟨b', h1, -, hc2⟩ := hN.at_ 1 (by omega)
    simp only [Option.some.injEq, Addr.mk.injEq, and_true] at h1
    subst h1
    have HE : Hid (n = W.dig n 1 * 4294967296 + W.dig n 0) := Lib.hid (two_digs (by rw [hN.many]; omega))
    have hd := W.dig_lt n 0
    have hd2 := W.dig_lt n 1
    obtain ⟨x, hx⟩ : ∃ x, x = W.dig n 0 := ⟨_, rfl⟩
    obtain ⟨y, hy⟩ : ∃ y, y = W.dig n 1 := ⟨_, rfl⟩
    rw [← hx] at hc hd HE
    rw [← hy] at hc2 hd2 HE
    clear hx hy
    go_wp2_with fail
    go_region
    rw [or_halves y x hd2 hd, ← HE.out]
    go_wp2_with fail
    go_ret2
    exact ⟨rfl, (by repeat (first | exact Ext.refl _ | assumption | refine Ext.alloc ?_ _ | refine Ext.drewN ?_ _ | refine Ext.drew ?_))⟩
  | A + 3, hN =>
    clear hN HM
    have h0 : (((A + 3 : Nat) : Int) == 0) = false := by simp; omega
    have h1 : (((A + 3 : Nat) : Int) == 1) = false := by simp; omega
    have h2 : (((A + 3 : Nat) : Int) == 2) = false := by simp; omega
    go_wp2_with fail
    go_ret2
    have e : smallRes (A + 3) n = .tuple #[.int .u64 0, .bool false] := by unfold smallRes; rw [if_neg (by omega), decide_eq_false (by omega)]
    exact ⟨by rw [e]; rfl, Ext.refl _⟩
set_option maxRecDepth 100000 in
theorem wof_calls (w : World) (n : Nat) (hn : n < 18446744073709551616) :
    Calls Tryd.prog 94 #[.int .u64 n] w (WRes w n) := by
  go_enter Tryd.func94, Tryd.ntmps94
  go_wp2_with fail
  have hx1 : Ext w (w.alloc (Obj.cells #[.int .u32 ((n : Int) % 4294967296), .int .u32 ((n : Int) / 4294967296)] 149)) := (Ext.refl _).alloc _
  have hI : WIn (w.alloc (Obj.cells #[.int .u32 ((n : Int) % 4294967296), .int .u32 ((n : Int) / 4294967296)] 149)) (some ⟨w.heap.size, 0, none⟩) [(n : Int) % 4294967296, (n : Int) / 4294967296] := by
    intro k hk
    match k, hk with
    | 0, _ => exact ⟨_, rfl, by simp, by simp [go_sem, ith]⟩
    | 1, _ => exact ⟨_, rfl, by simp, by simp [go_sem, ith]⟩
    | k + 2, hk => exact absurd hk (by simp)
  have hw : (W.worth [(n : Int) % 4294967296, (n : Int) / 4294967296]).toNat = n := by simp [W.worth]; omega
  have htc := wtrim_calls _ _ 2 _ hI (by intro x hx; simp at hx; omega) (by simp) (by simp)
  rw [hw] at htc
  refine htc.mono ?_
  rintro e w2 ⟨ao, A, c, rfl, hN, hx2⟩
  have hx12 := hx1.trans hx2
  go_wp2_with fail
  go_ret
  exact ⟨ao, A, c, rfl, hN, hx12⟩
end Go.Proofs.YtefmioppamdceaaDoor

/- Words of big: compare, plus, minus. -/
namespace Go.Proofs.YtefmioppamdceaaDoor
open Go.RowKit Go.Shelf

theorem w2c {w w' : World} {b k b2 k2 : Nat} {u v : Value} (hb : b < w.heap.size) (h : w.cell? ⟨b, k, none⟩ = some u) (hb2 : b2 < w.heap.size) (h2 : w.cell? ⟨b2, k2, none⟩ = some v) (hx : Ext w w') : (w'.cell? ⟨b, k, none⟩ = some u) ∧ (w'.cell? ⟨b2, k2, none⟩ = some v) :=
  ⟨(hx.cell (p := ⟨b, k, none⟩) hb).trans h, (hx.cell (p := ⟨b2, k2, none⟩) hb2).trans h2⟩

/-- Comparison. -/
def cmpZ (x y : Int) : Int := if x < y then -1 else if y < x then 1 else 0
theorem cmpZ_cases (x y : Int) : (x < y ∧ cmpZ x y = -1) ∨ (x = y ∧ cmpZ x y = 0) ∨ (y < x ∧ cmpZ x y = 1) := by
  unfold cmpZ
  split
  · left; omega
  · split
    · right; right; omega
    · right; left; omega
set_option maxRecDepth 100000 in
theorem nanInt_calls (w : World) (x : Int) : Calls Tryd.prog 75 #[.int .i64 x] w fun e w' => e = .returned (.bool false) ∧ Ext w w' := by
  go_enter Tryd.func75, Tryd.ntmps75
  go_wp2_with fail
  go_ret
  exact ⟨rfl, (by repeat (first | exact Ext.refl _ | assumption | refine Ext.alloc ?_ _ | refine Ext.drewN ?_ _ | refine Ext.drew ?_))⟩
set_option maxRecDepth 100000 in
theorem cmpInt_calls (w : World) (x y : Int) : Calls Tryd.prog 37 #[.int .i64 x, .int .i64 y] w fun e w' => e = .returned (.int .i64 (cmpZ x y)) ∧ Ext w w' := by
  go_enter Tryd.func37, Tryd.ntmps37
  go_wp2_with fail
  refine (nanInt_calls _ x).mono ?_
  rintro e w2 ⟨rfl, hx2⟩
  go_wp2_with fail
  refine (nanInt_calls _ y).mono ?_
  rintro e w3 ⟨rfl, hx3⟩
  have hx23 := hx2.trans hx3
  rcases cmpZ_cases x y with ⟨h1, h2⟩ | ⟨h1, h2⟩ | ⟨h1, h2⟩
  all_goals
    have HC := Lib.hid h2
    clear h2
    try subst h1
    go_wp2_with fail
    go_ret
    exact ⟨ret_int HC.out.symm, hx23⟩
set_option maxRecDepth 100000 in
theorem nanWord_calls (w : World) (x : Int) : Calls Tryd.prog 123 #[.int .u32 x] w fun e w' => e = .returned (.bool false) ∧ Ext w w' := by
  go_enter Tryd.func123, Tryd.ntmps123
  go_wp2_with fail
  go_ret
  exact ⟨rfl, (by repeat (first | exact Ext.refl _ | assumption | refine Ext.alloc ?_ _ | refine Ext.drewN ?_ _ | refine Ext.drew ?_))⟩
set_option maxRecDepth 100000 in
theorem cmpWord_calls (w : World) (x y : Int) : Calls Tryd.prog 120 #[.int .u32 x, .int .u32 y] w fun e w' => e = .returned (.int .i64 (cmpZ x y)) ∧ Ext w w' := by
  go_enter Tryd.func120, Tryd.ntmps120
  go_wp2_with fail
  refine (nanWord_calls _ x).mono ?_
  rintro e w2 ⟨rfl, hx2⟩
  go_wp2_with fail
  refine (nanWord_calls _ y).mono ?_
  rintro e w3 ⟨rfl, hx3⟩
  have hx23 := hx2.trans hx3
  rcases cmpZ_cases x y with ⟨h1, h2⟩ | ⟨h1, h2⟩ | ⟨h1, h2⟩
  all_goals
    have HC := Lib.hid h2
    clear h2
    try subst h1
    go_wp2_with fail
    go_ret
    exact ⟨ret_int HC.out.symm, hx23⟩
set_option maxRecDepth 100000 in
set_option maxHeartbeats 1000000 in
theorem wcmp_calls (w : World) (ao bo : Option Addr) (c d A B : Nat) (m n : Nat) (hI : WNum w ao A c m) (hJ : WNum w bo B d n) (hA9 : A ≤ 100000) (hB9 : B ≤ 100000) :
    Calls Tryd.prog 110 #[.slice ao A c, .slice bo B d] w fun e w' => e = .returned (.int .i64 (cmpZ m n)) ∧ Ext w w' := by
  have hM := hI.many
  have hN := hJ.many
  have hI' := hI.at_
  have hJ' := hJ.at_
  have HLT : Hid (A < B → m < n) := Lib.hid (fun h => W.lt_of_many (by omega))
  have HGT : Hid (B < A → n < m) := Lib.hid (fun h => W.lt_of_many (by omega))
  have HTOP : Hid (A = B → m / 4294967296 ^ A = n / 4294967296 ^ A) := Lib.hid (fun h => by
    rw [Nat.div_eq_of_lt (by rw [← hM]; exact W.lt_many m), Nat.div_eq_of_lt (by rw [h, ← hN]; exact W.lt_many n)])
  clear hI hJ hM hN
  go_enter Tryd.func110, Tryd.ntmps110
  go_wp2_with fail
  refine (cmpInt_calls _ (A : Int) (B : Int)).mono ?_
  rintro e w2 ⟨rfl, hx2⟩
  rcases cmpZ_cases A B with ⟨h1, h2⟩ | ⟨h1, h2⟩ | ⟨h1, h2⟩
  · rw [h2]
    have := HLT.out (by omega)
    have HC : Hid (cmpZ m n = -1) := Lib.hid (by unfold cmpZ; rw [if_pos (by omega)])
    go_wp2_with fail
    go_ret
    exact ⟨ret_int HC.out.symm, hx2⟩
  · rw [h2]
    obtain rfl : A = B := by omega
    clear HLT HGT h2 hB9
    go_wp2_with fail
    go_loopw [6] (fun iv wr => ∃ p : Nat, p ≤ A ∧ iv = .int .i64 ((p : Int) - 1) ∧ Ext w wr ∧ Hid (m / 4294967296 ^ p = n / 4294967296 ^ p)) (fun iv _ => (intOf iv + 1).toNat)
    case atStart => exact ⟨A, by omega, rfl, hx2, Lib.hid (by first | exact HTOP.out rfl | exact HTOP.out trivial)⟩
    case round =>
      clear hx2
      obtain ⟨p, hp, rfl, hx, HE⟩ := hrel
      rcases Nat.eq_zero_or_pos p with h0 | h0
      · subst h0
        go_wp2_with fail
        go_ret
        have := HE.out
        simp only [Nat.pow_zero, Nat.div_one] at this
        exact ⟨ret_int (by unfold cmpZ; rw [if_neg (by omega), if_neg (by omega)]), hx⟩
      · obtain ⟨q, hq⟩ : ∃ q, p = q + 1 := ⟨p - 1, by omega⟩
        have e1 : (p : Int) - 1 = (q : Int) := by omega
        have HE2 : Hid (m / 4294967296 ^ (q + 1) = n / 4294967296 ^ (q + 1)) := Lib.hid (by rw [← hq]; exact HE.out)
        have HQ := Lib.hid hq
        have hqA : q < A := by omega
        obtain ⟨b, rfl, hb, hc⟩ := hI' q hqA
        obtain ⟨b2, rfl, hb2, hc2⟩ := hJ' q hqA
        have d1 := (hx.cell (p := ⟨b, q, none⟩) hb).trans hc
        have d2 := (hx.cell (p := ⟨b2, q, none⟩) hb2).trans hc2
        have k1 := Nat.lt_of_lt_of_le hb hx.size
        have k2 := Nat.lt_of_lt_of_le hb2 hx.size
        clear hq h1
        rw [e1]
        obtain ⟨x, hxx⟩ : ∃ x : Nat, x = W.dig m q := ⟨_, rfl⟩
        obtain ⟨y, hyy⟩ : ∃ y : Nat, y = W.dig n q := ⟨_, rfl⟩
        rw [← hxx] at d1
        rw [← hyy] at d2
        have HX := Lib.hid hxx
        have HY := Lib.hid hyy
        clear hxx hyy hc hc2
        by_cases h3 : x = y
        · have HE3 : Hid (m / 4294967296 ^ q = n / 4294967296 ^ q) := Lib.hid (W.high_eq HE2.out (by rw [← HX.out, ← HY.out]; exact h3))
          subst h3
          go_wp2_with fail
          go_region
          go_wp2_with fail
          have hq := HQ.out
          exact ⟨⟨q, by omega, rfl, (by repeat (first | exact Ext.refl _ | assumption | refine Ext.alloc ?_ _ | refine Ext.drewN ?_ _ | refine Ext.drew ?_)), HE3⟩, by simp only [intOf]; omega⟩
        · have h3b : ((x : Int) == (y : Int)) = false := by simp; omega
          have HC : Hid (cmpZ (x : Int) (y : Int) = cmpZ m n) := Lib.hid (by
            unfold cmpZ
            rcases Nat.lt_or_gt_of_ne h3 with h4 | h4
            · have := W.high_lt HE2.out (show W.dig m q < W.dig n q by rw [← HX.out, ← HY.out]; exact h4)
              rw [if_pos (by omega), if_pos (by omega)]
            · have := W.high_lt HE2.out.symm (show W.dig n q < W.dig m q by rw [← HX.out, ← HY.out]; exact h4)
              rw [if_neg (by omega), if_pos (by omega), if_neg (by omega), if_pos (by omega)])
          clear h3
          go_wp2_with fail
          go_region
          go_wp2_with fail
          go_region_held3 (fun w' => (w'.cell? ⟨b, q, none⟩ = some (.int .u32 x)) ∧ (w'.cell? ⟨b2, q, none⟩ = some (.int .u32 y)))
            (exact w2c k1 d1 k2 d2 (by repeat (with_reducible first | exact Ext.refl _ | assumption | refine Ext.alloc ?_ _ | refine Ext.drew ?_)))
            ((go_at_call 120; refine (cmpWord_calls _ (x : Int) (y : Int)).mono ?_; rintro e w7 ⟨rfl, hx7⟩; rw [HC.out]; have hx8 : Ext wr w7 := Ext.trans (by repeat (with_reducible first | exact Ext.refl _ | assumption | refine Ext.alloc ?_ _ | refine Ext.drew ?_)) hx7))
          have hx9 := hx.trans hx8
          go_wp2_with fail
          go_ret
          exact ⟨rfl, hx9⟩
  · rw [h2]
    have := HGT.out (by omega)
    have HC : Hid (cmpZ m n = 1) := Lib.hid (by unfold cmpZ; rw [if_neg (by omega), if_pos (by omega)])
    go_wp2_with fail
    go_ret
    exact ⟨ret_int HC.out.symm, hx2⟩
end Go.Proofs.YtefmioppamdceaaDoor
