/- Whole numbers as lists of digits to the base 10000, the lowest first: plain facts. -/
import Derived.WalkKit
import Derived.Test.YtefmioppamdceaaDoorMWDig
import Derived.Lib.SliceRun
namespace Go.Proofs.YtefmioppamdceaaDoor

/-- The digit of n at place k. -/
def dig (n k : Nat) : Nat := n / 10000 ^ k % 10000
/-- The i lowest digits. -/
def low (i n : Nat) : List Int := (List.range i).map fun k => (dig n k : Int)
/-- How many digits a number has. -/
def many : Nat → Nat
  | n => if h : n = 0 then 0 else many (n / 10000) + 1
termination_by n => n
decreasing_by omega
def digs (n : Nat) : List Int := low (many n) n

theorem many_zero : many 0 = 0 := by rw [many]; simp
theorem many_pos {n : Nat} (h : n ≠ 0) : many n = many (n / 10000) + 1 := by rw [many]; simp [h]
theorem lt_pow_iff (i n : Nat) : i < many n ↔ 10000 ^ i ≤ n := by
  induction i generalizing n with
  | zero =>
    by_cases h : n = 0
    · subst h; simp [many_zero]
    · rw [many_pos h]; simp; omega
  | succ i ih =>
    by_cases h : n = 0
    · subst h
      have : 0 < 10000 ^ (i + 1) := Nat.pow_pos (by omega)
      rw [many_zero]; omega
    · rw [many_pos h, Nat.add_lt_add_iff_right, ih, Nat.pow_succ, Nat.le_div_iff_mul_le (by omega)]
theorem lt_many (n : Nat) : n < 10000 ^ many n := by
  have := lt_pow_iff (many n) n
  omega
theorem many_eq {i n : Nat} (h : n < 10000 ^ i) (k : i = 0 ∨ 10000 ^ (i - 1) ≤ n) : many n = i := by
  have h1 : ¬ i < many n := by rw [lt_pow_iff]; omega
  rcases k with rfl | k
  · omega
  · have := (lt_pow_iff (i - 1) n).2 k
    omega
theorem many_le {i n : Nat} (h : n < 10000 ^ i) : many n ≤ i := by
  have h1 : ¬ i < many n := by rw [lt_pow_iff]; omega
  omega

theorem low_length (i n : Nat) : (low i n).length = i := by simp [low]
theorem digs_length (n : Nat) : (digs n).length = many n := low_length _ _
theorem low_snoc (i n : Nat) : low (i + 1) n = low i n ++ [(dig n i : Int)] := by simp [low, List.range_succ]
theorem low_eq_digs {i n : Nat} (h : n < 10000 ^ i) (k : i = 0 ∨ 10000 ^ (i - 1) ≤ n) : low i n = digs n := by rw [digs, many_eq h k]
theorem dig_lt (n k : Nat) : dig n k < 10000 := Nat.mod_lt _ (by omega)
theorem dig_out {n k : Nat} (h : many n ≤ k) : dig n k = 0 := by
  have h1 : ¬ k < many n := by omega
  rw [lt_pow_iff] at h1
  rw [dig, Nat.div_eq_of_lt (by omega)]
theorem low_at (i n k : Nat) (h : k < i) : (low i n).getD k 0 = (dig n k : Int) := by simp [low, h]
theorem digs_at (n k : Nat) : (digs n).getD k 0 = (dig n k : Int) := by
  by_cases h : k < many n
  · exact low_at _ _ _ h
  · rw [List.getD_eq_getElem?_getD, List.getElem?_eq_none (by rw [digs_length]; omega), dig_out (by omega)]; rfl
theorem digs_zero : digs 0 = [] := by rw [digs, many_zero]; rfl
theorem many_eq_zero {n : Nat} : many n = 0 ↔ n = 0 := by
  by_cases h : n = 0
  · subst h; simp [many_zero]
  · rw [many_pos h]; omega

/-- The lowest digits as a number. -/
theorem mod_succ (n i : Nat) : n % 10000 ^ (i + 1) = n % 10000 ^ i + 10000 ^ i * dig n i := by
  rw [Nat.pow_succ, Nat.mod_mul, dig]
theorem dig_of_mod (n i : Nat) : dig n i = n % 10000 ^ (i + 1) / 10000 ^ i := by
  have hp : 0 < 10000 ^ i := Nat.pow_pos (by omega)
  rw [mod_succ, Nat.add_mul_div_left _ _ hp, Nat.div_eq_of_lt (Nat.mod_lt _ hp), Nat.zero_add]

/-- What digits are worth. -/
def worth : List Int → Int
  | [] => 0
  | x :: l => x + 10000 * worth l
theorem worth_append (l m : List Int) : worth (l ++ m) = worth l + 10000 ^ l.length * worth m := by
  induction l with
  | nil => simp [worth]
  | cons x l ih =>
    simp only [List.cons_append, worth, ih, List.length_cons, Int.pow_succ]
    grind
theorem worth_low (i n : Nat) : worth (low i n) = ((n % 10000 ^ i : Nat) : Int) := by
  induction i with
  | zero => simp [low, worth, Nat.mod_one]
  | succ i ih =>
    rw [low_snoc, worth_append, ih, low_length, mod_succ]
    simp [worth]
/-- Digits: numbers from 0 to 9999. -/
def Digits (l : List Int) : Prop := ∀ x ∈ l, 0 ≤ x ∧ x < 10000
theorem digits_low (i n : Nat) : Digits (low i n) := by
  intro x hx
  simp only [low, List.mem_map, List.mem_range] at hx
  obtain ⟨k, _, rfl⟩ := hx
  have := dig_lt n k
  omega
theorem worth_nonneg {l : List Int} (h : Digits l) : 0 ≤ worth l ∧ worth l < 10000 ^ l.length := by
  induction l with
  | nil => simp [worth]
  | cons x l ih =>
    have h1 := h x (by simp)
    have h2 := ih (fun y hy => h y (by simp [hy]))
    simp only [worth, List.length_cons, Int.pow_succ]
    omega
/-- Digits are those of their worth. -/
theorem digits_eq_low {l : List Int} (h : Digits l) : l = low l.length (worth l).toNat := by
  induction l with
  | nil => rfl
  | cons x l ih =>
    have h1 := h x (by simp)
    have hl : Digits l := fun y hy => h y (by simp [hy])
    have h2 := worth_nonneg hl
    have h3 := ih hl
    have e : (worth (x :: l)).toNat = x.toNat + 10000 * (worth l).toNat := by simp only [worth]; omega
    refine List.ext_getElem (by simp [low_length]) fun k hk hk2 => ?_
    simp only [e, low, List.getElem_map, List.getElem_range]
    cases k with
    | zero => simp [dig]; omega
    | succ k =>
      have hk' : k < l.length := by simpa using hk
      have h4 : l[k]? = (low l.length (worth l).toNat)[k]? := congrArg (fun m : List Int => m[k]?) h3
      rw [List.getElem?_eq_getElem hk'] at h4
      simp only [List.getElem_cons_succ]
      simp [low, hk'] at h4
      rw [h4]
      congr 1
      simp only [dig]
      rw [Nat.pow_succ, Nat.mul_comm (10000 ^ k), ← Nat.div_div_eq_div_mul]
      congr 1
      congr 1
      omega
/-- Without the highest digits that are 0. -/
theorem digs_of_take {l : List Int} (h : Digits l) (n : Nat) (hn : n ≤ l.length) (hz : ∀ k, n ≤ k → k < l.length → l.getD k 0 = 0) (ht : n = 0 ∨ l.getD (n - 1) 0 ≠ 0) : l.take n = digs (worth l).toNat := by
  have h1 : Digits (l.take n) := fun x hx => h x (List.mem_of_mem_take hx)
  have h2 : worth l = worth (l.take n) := by
    have e0 : worth l = worth (l.take n) + 10000 ^ (l.take n).length * worth (l.drop n) := by rw [← worth_append, List.take_append_drop]
    have : ∀ m : List Int, (∀ x ∈ m, x = 0) → worth m = 0 := by
      intro m hm
      induction m with
      | nil => rfl
      | cons x m ih => simp only [worth]; rw [ih (fun y hy => hm y (by simp [hy])), hm x (by simp)]; rfl
    have h0 : worth (l.drop n) = 0 := by
      refine this _ fun x hx => ?_
      obtain ⟨k, hk, rfl⟩ := List.getElem_of_mem hx
      have := hz (n + k) (by omega) (by simp at hk; omega)
      rw [List.getElem_drop]
      rw [List.getD_eq_getElem?_getD, List.getElem?_eq_getElem (by simp at hk; omega)] at this
      exact this
    rw [e0, h0]; simp
  rw [h2]
  have h3 := digits_eq_low h1
  have hl : (l.take n).length = n := by simp; omega
  have h4 := worth_nonneg h1
  rw [hl] at h3 h4
  rw [h3]
  conv => rhs; rw [← h3]
  have hw : ((worth (l.take n)).toNat : Int) = worth (l.take n) := by omega
  refine low_eq_digs ?_ ?_
  · have h5 : ((worth (l.take n)).toNat : Int) < ((10000 ^ n : Nat) : Int) := by rw [hw]; simpa using h4.2
    omega
  · rcases ht with ht | ht
    · exact .inl ht
    · right
      have h0 : n ≠ 0 := by
        rintro rfl
        have := hz 0 (by omega)
        by_cases hl0 : 0 < l.length
        · exact ht (by simpa using this hl0)
        · have : l = [] := by simpa using hl0
          subst this; simp at ht
      have h6 : 0 < dig (worth (l.take n)).toNat (n - 1) := by
        have : ((low n (worth (l.take n)).toNat).getD (n - 1) 0) = (dig (worth (l.take n)).toNat (n - 1) : Int) := low_at _ _ _ (by omega)
        rw [← h3] at this
        have h7 : (l.take n).getD (n - 1) 0 = l.getD (n - 1) 0 := by
          simp only [List.getD_eq_getElem?_getD, List.getElem?_take]
          rw [if_pos (by omega)]
        rw [h7] at this
        omega
      rw [dig] at h6
      have h8 : 10000 ^ (n - 1) ≤ (worth (l.take n)).toNat := by
        by_cases hc : 10000 ^ (n - 1) ≤ (worth (l.take n)).toNat
        · exact hc
        · rw [Nat.div_eq_of_lt (by omega)] at h6; simp at h6
      exact h8

/-- Comparing by digits. -/
theorem lt_of_many {a b : Nat} (h : many a < many b) : a < b := by
  have h1 := lt_many a
  have h2 := (lt_pow_iff (many a) b).1 h
  omega
theorem high_lt {a b i : Nat} (h : a / 10000 ^ (i + 1) = b / 10000 ^ (i + 1)) (k : dig a i < dig b i) : a < b := by
  have hp : 0 < 10000 ^ i := Nat.pow_pos (by omega)
  have ha : a / 10000 ^ i = 10000 * (a / 10000 ^ (i + 1)) + dig a i := by
    rw [Nat.pow_succ, ← Nat.div_div_eq_div_mul, dig]; omega
  have hb : b / 10000 ^ i = 10000 * (b / 10000 ^ (i + 1)) + dig b i := by
    rw [Nat.pow_succ, ← Nat.div_div_eq_div_mul, dig]; omega
  have h3 : a / 10000 ^ i < b / 10000 ^ i := by omega
  by_cases hc : a < b
  · exact hc
  · have := Nat.div_le_div_right (c := 10000 ^ i) (show b ≤ a by omega)
    omega
theorem high_eq {a b i : Nat} (h : a / 10000 ^ (i + 1) = b / 10000 ^ (i + 1)) (k : dig a i = dig b i) : a / 10000 ^ i = b / 10000 ^ i := by
  have ha : a / 10000 ^ i = 10000 * (a / 10000 ^ (i + 1)) + dig a i := by
    rw [Nat.pow_succ, ← Nat.div_div_eq_div_mul, dig]; omega
  have hb : b / 10000 ^ i = 10000 * (b / 10000 ^ (i + 1)) + dig b i := by
    rw [Nat.pow_succ, ← Nat.div_div_eq_div_mul, dig]; omega
  omega

/-- A step of the sum. -/
theorem add_step (a b i : Nat) : dig (a + b) i = ((a % 10000 ^ i + b % 10000 ^ i) / 10000 ^ i + dig a i + dig b i) % 10000 ∧
    (a % 10000 ^ (i + 1) + b % 10000 ^ (i + 1)) / 10000 ^ (i + 1) = ((a % 10000 ^ i + b % 10000 ^ i) / 10000 ^ i + dig a i + dig b i) / 10000 := by
  have hp : 0 < 10000 ^ i := Nat.pow_pos (by omega)
  have e1 : (a % 10000 ^ (i + 1) + b % 10000 ^ (i + 1)) / 10000 ^ i = (a % 10000 ^ i + b % 10000 ^ i) / 10000 ^ i + dig a i + dig b i := by
    rw [mod_succ, mod_succ]
    rw [show a % 10000 ^ i + 10000 ^ i * dig a i + (b % 10000 ^ i + 10000 ^ i * dig b i) = a % 10000 ^ i + b % 10000 ^ i + 10000 ^ i * (dig a i + dig b i) by
      rw [Nat.mul_add]; omega, Nat.add_mul_div_left _ _ hp]
    omega
  constructor
  · rw [← e1, dig_of_mod, Nat.add_mod]
    have : (a % 10000 ^ (i + 1) + b % 10000 ^ (i + 1)) % 10000 ^ (i + 1) / 10000 ^ i = dig (a % 10000 ^ (i + 1) + b % 10000 ^ (i + 1)) i := (dig_of_mod _ _).symm
    rw [this, dig]
  · rw [← e1, Nat.pow_succ, Nat.div_div_eq_div_mul]

/-- A step of the difference. -/
theorem sub_step (a b i : Nat) (h : b ≤ a) : (dig (a - b) i : Int) = (dig a i : Int) - (if a % 10000 ^ i < b % 10000 ^ i then 1 else 0) - dig b i + (if a % 10000 ^ (i + 1) < b % 10000 ^ (i + 1) then 10000 else 0) ∧
    (a % 10000 ^ (i + 1) < b % 10000 ^ (i + 1) ↔ (dig a i : Int) - (if a % 10000 ^ i < b % 10000 ^ i then 1 else 0) - dig b i < 0) := by
  have hp : 0 < 10000 ^ i := Nat.pow_pos (by omega)
  have ma := mod_succ a i
  have mb := mod_succ b i
  have la := Nat.mod_lt a hp
  have lb := Nat.mod_lt b hp
  have da := dig_lt a i
  have db := dig_lt b i
  have key : a % 10000 ^ (i + 1) < b % 10000 ^ (i + 1) ↔ (dig a i : Int) - (if a % 10000 ^ i < b % 10000 ^ i then 1 else 0) - dig b i < 0 := by
    rw [ma, mb]
    generalize a % 10000 ^ i = x at *
    generalize b % 10000 ^ i = y at *
    generalize dig a i = u at *
    generalize dig b i = v at *
    generalize 10000 ^ i = p at *
    rcases Nat.lt_trichotomy u v with huv | rfl | huv
    · have : p * (u + 1) ≤ p * v := Nat.mul_le_mul_left _ huv
      rw [Nat.mul_add] at this
      split <;> omega
    · split <;> omega
    · have : p * (v + 1) ≤ p * u := Nat.mul_le_mul_left _ huv
      rw [Nat.mul_add] at this
      split <;> omega
  refine ⟨?_, key⟩
  have hs := mod_succ (a - b) i
  have ls := Nat.mod_lt (a - b) hp
  have ds := dig_lt (a - b) i
  have hp1 : 0 < 10000 ^ (i + 1) := Nat.pow_pos (by omega)
  have f1 : ∀ q : Nat, 0 < q → (((a - b) % q : Nat) : Int) = ((a % q : Nat) : Int) - ((b % q : Nat) : Int) + (if a % q < b % q then (q : Int) else 0) := by
    intro q hq
    have h0 : a % q = (b % q + (a - b) % q) % q := by rw [← Nat.add_mod]; congr 1; omega
    have h2 := Nat.mod_lt (a - b) hq
    have h3 := Nat.mod_lt b hq
    rcases Nat.lt_or_ge (b % q + (a - b) % q) q with hlt | hge
    · rw [Nat.mod_eq_of_lt hlt] at h0
      rw [if_neg (by omega)]; omega
    · rw [Nat.mod_eq_sub_mod hge, Nat.mod_eq_of_lt (show b % q + (a - b) % q - q < q by omega)] at h0
      rw [if_pos (by omega)]; omega
  have g0' := f1 (10000 ^ i) hp
  have g1' := f1 (10000 ^ (i + 1)) hp1
  rw [hs, ma, mb] at g1'
  rw [← ma, ← mb] at g1'
  have e : ((10000 ^ (i + 1) : Nat) : Int) = ((10000 ^ i : Nat) : Int) * 10000 := by rw [Nat.pow_succ]; simp
  rw [e] at g1'
  rw [ma, mb] at g1'
  rw [← ma, ← mb] at g1'
  have hp' : (0 : Int) < ((10000 ^ i : Nat) : Int) := by omega
  refine Int.eq_of_mul_eq_mul_left (Int.ne_of_gt hp') ?_
  have g2 : (((a - b) % 10000 ^ i : Nat) : Int) + ((10000 ^ i : Nat) : Int) * (dig (a - b) i : Int) = (((a - b) % 10000 ^ i + 10000 ^ i * dig (a - b) i : Nat) : Int) := by simp
  have g3 : ((a % 10000 ^ (i + 1) : Nat) : Int) = ((a % 10000 ^ i : Nat) : Int) + ((10000 ^ i : Nat) : Int) * (dig a i : Int) := by rw [ma]; simp
  have g4 : ((b % 10000 ^ (i + 1) : Nat) : Int) = ((b % 10000 ^ i : Nat) : Int) + ((10000 ^ i : Nat) : Int) * (dig b i : Int) := by rw [mb]; simp
  rw [← g2, g3, g4] at g1'
  generalize ((10000 ^ i : Nat) : Int) = p at *
  split <;> split at g0' <;> split at g1' <;> first | (exfalso; omega) | grind

/-- A step of the quotient. -/
theorem div_step (a b i : Nat) (hb : 0 < b) : a / 10000 ^ i % b = (10000 * (a / 10000 ^ (i + 1) % b) + dig a i) % b ∧ dig (a / b) i = (10000 * (a / 10000 ^ (i + 1) % b) + dig a i) / b ∧ (10000 * (a / 10000 ^ (i + 1) % b) + dig a i) / b < 10000 := by
  have ha : a / 10000 ^ i = 10000 * (a / 10000 ^ (i + 1)) + dig a i := by
    rw [Nat.pow_succ, ← Nat.div_div_eq_div_mul, dig]; omega
  have hd := dig_lt a i
  generalize hq : a / 10000 ^ (i + 1) = q at *
  have hr := Nat.mod_lt q hb
  have e : 10000 * q + dig a i = b * (10000 * (q / b)) + (10000 * (q % b) + dig a i) := by
    conv => lhs; rw [← Nat.div_add_mod q b]
    rw [Nat.mul_add]
    grind
  have h3 : (10000 * (q % b) + dig a i) / b < 10000 := by
    rw [Nat.div_lt_iff_lt_mul hb]
    have : 10000 * (q % b + 1) ≤ 10000 * b := Nat.mul_le_mul_left _ hr
    omega
  refine ⟨?_, ?_, h3⟩
  · rw [ha, e, Nat.mul_add_mod]
  · rw [dig, Nat.div_div_eq_div_mul, Nat.mul_comm b, ← Nat.div_div_eq_div_mul, ha, e, Nat.mul_add_div hb, Nat.mul_add_mod, Nat.mod_eq_of_lt h3]

end Go.Proofs.YtefmioppamdceaaDoor

/- Words for the specification's fractions on any seat: lists of numbers made, places for two values. -/
namespace Go.Proofs.YtefmioppamdceaaDoor
open Go.RowKit Go.Shelf

def Made (w : World) (xs : List Int) (e : Ending) (w' : World) : Prop := ∃ v, e = .returned v ∧ Own w' w.heap.size 1 v (ints xs) ∧ Ext w w'
theorem made_ints (n : Nat) : madeCells (Value.int .i64 0).cells n = Array.replicate n (.int .i64 0) := by
  refine Array.ext (by simp [madeCells]) (fun i h1 h2 => ?_)
  simp [madeCells, Value.cells, Nat.mod_one]
theorem make_ints (n : Nat) (hn : n ≤ 100000) (W : World) : (Instr.makeSlice 30 (.int .i64 n) (.int .i64 n)).run Tryd.prog W = .ok (.slice (some ⟨W.heap.size, 0, none⟩) n n) (W.alloc (.cells (Array.replicate n (.int .i64 0)) 3)) := by
  obtain ⟨i0, hi, hz0, hz1, hz2⟩ := info_parts info_int
  have := run_make (P := Tryd.prog) W 30 3 i0 (.int .i64 0) Tryd.underlying30 hi hz0 .i64 .i64 n n (by omega) (Int.le_refl _) (by rw [hz2]; omega) (by omega)
  rw [hz1, Nat.mul_one, made_ints] at this
  simpa using this
/-- A place for two values. -/
structure Spot (w : World) (b : Nat) : Prop where
  lt : b < w.heap.size
  some0 : (w.cell? ⟨b, 0, none⟩).isSome = true
  some1 : (w.cell? ⟨b, 1, none⟩).isSome = true
  free0 : w.frozen? ⟨b, 0, none⟩ = false
  free1 : w.frozen? ⟨b, 1, none⟩ = false
theorem Spot.ext {w w' : World} {b : Nat} (h : Spot w b) (hx : Ext w w') : Spot w' b :=
  ⟨Nat.lt_of_lt_of_le h.lt hx.size, by rw [hx.cell h.lt]; exact h.some0, by rw [hx.cell h.lt]; exact h.some1, by rw [hx.frozen h.lt]; exact h.free0, by rw [hx.frozen h.lt]; exact h.free1⟩
theorem Spot.new (w : World) (t : TypeId) (u v : Value) : Spot (w.alloc (.cells #[u, v] t)) w.heap.size :=
  ⟨by simp, by simp [go_sem], by simp [go_sem], by simp [go_sem], by simp [go_sem]⟩
theorem Spot.put {w : World} {b : Nat} (h : Spot w b) (u v : Value) : ((w.setCell ⟨b, 0, none⟩ u).setCell ⟨b, 1, none⟩ v).cell? ⟨b, 0, none⟩ = some u ∧ ((w.setCell ⟨b, 0, none⟩ u).setCell ⟨b, 1, none⟩ v).cell? ⟨b, 1, none⟩ = some v := by
  obtain ⟨x, hx⟩ := Option.isSome_iff_exists.1 h.some0
  obtain ⟨y, hy⟩ := Option.isSome_iff_exists.1 h.some1
  constructor
  · rw [World.cell?_setCell_other _ _ _ _ (by simp)]; exact World.cell?_setCell_same _ _ _ hx
  · exact World.cell?_setCell_same _ _ _ (by rw [World.cell?_setCell_other _ _ _ _ (by simp)]; exact hy)
end Go.Proofs.YtefmioppamdceaaDoor
