/- With a greater estate nobody gets less, plain. -/
import Derived.Test.YtcngecibljgndaaMQPB
import Derived.Test.YtcngecibljgndaaMQH
import Derived.Test.YtcngecibljgndaaMQTA
import Derived.Test.YtcngecibljgndaaProg
import Derived.Shelf.SlLaysF
import Derived.Shelf.SlLaysF0
import Derived.Shelf.SlSortCmp.NoneTotal
import Derived.WalkKit
namespace Go.Proofs.Ytcngecibljgndaa
open Go.RowKit Go.Shelf
theorem ith_mem {xs : List Int} {k : Nat} (hk : k < xs.length) : ith xs k ∈ xs := by rw [show ith xs k = xs[k] by simp [ith, hk]]; exact List.getElem_mem _
theorem divInt_le {a b c d : Int} (hb : 0 < b) (hd : 0 < d) (h : a * d ≤ c * b) : Rat.divInt a b ≤ Rat.divInt c d := by
  obtain ⟨x, hx⟩ : ∃ x, x = Rat.divInt a b := ⟨_, rfl⟩
  obtain ⟨y, hy⟩ : ∃ y, y = Rat.divInt c d := ⟨_, rfl⟩
  have hxd := x.den_pos
  have hyd := y.den_pos
  have e1 : x.num * b = a * x.den := (Rat.divInt_eq_divInt_iff (by omega) (by omega)).1 (by rw [Rat.num_divInt_den]; exact hx)
  have e2 : y.num * d = c * y.den := (Rat.divInt_eq_divInt_iff (by omega) (by omega)).1 (by rw [Rat.num_divInt_den]; exact hy)
  rw [← hx, ← hy, Rat.le_iff]
  refine Int.le_of_mul_le_mul_right ?_ (Int.mul_pos hb hd)
  calc x.num * (y.den : Int) * (b * d) = (x.num * b) * (y.den * d) := by ac_rfl
    _ = (a * d) * ((x.den : Int) * y.den) := by rw [e1]; ac_rfl
    _ ≤ (c * b) * ((x.den : Int) * y.den) := Int.mul_le_mul_of_nonneg_right h (Int.mul_nonneg (by omega) (by omega))
    _ = (y.num * d) * (x.den * b) := by rw [e2]; ac_rfl
    _ = y.num * (x.den : Int) * (b * d) := by ac_rfl
end Go.Proofs.Ytcngecibljgndaa

/- The specification's Gcd, Problem, Lowest, IsShares, Is. -/
namespace Go.Proofs.Ytcngecibljgndaa
open Go.RowKit Go.Shelf

theorem refGcd_calls (w : World) (a b : Int) (ha : -4611686018427387904 ≤ a ∧ a ≤ 4611686018427387904) (hb : -4611686018427387904 ≤ b ∧ b ≤ 4611686018427387904) :
    Calls Try.prog 85 #[.int .i64 a, .int .i64 b] w fun e w' => e = .returned (.int .i64 (Int.gcd a b)) ∧ Ext w w' := by
  go_enter Try.func85, Try.ntmps85
  go_wp2_with fail
  go_loopw [0, 1] (fun x y wr => ∃ p q : Int, x = .int .i64 p ∧ y = .int .i64 q ∧ Hid (Int.gcd p q = Int.gcd a b) ∧ (-4611686018427387904 ≤ p ∧ p ≤ 4611686018427387904) ∧ (-4611686018427387904 ≤ q ∧ q ≤ 4611686018427387904) ∧ Ext w wr) (fun _ y _ => (intOf y).natAbs)
  case atStart => exact ⟨a, b, rfl, rfl, Lib.hid rfl, ha, hb, Ext.refl _⟩
  case round =>
    obtain ⟨p, q, rfl, rfl, HG, hp, hq, hx⟩ := hrel
    by_cases h0 : q = 0
    · subst h0
      have hg := HG.out
      by_cases hn : p < 0
      · go_wp2_with fail
        go_ret
        refine ⟨ret_int ?_, hx⟩
        rw [← hg, Int.gcd_zero]
        omega
      · go_wp2_with fail
        go_ret
        refine ⟨ret_int ?_, hx⟩
        rw [← hg, Int.gcd_zero]
        omega
    · have hm := Int.tmod_lt_of_pos
      have h1 : (p.tmod q).natAbs < q.natAbs := by
        rw [Int.natAbs_tmod]; exact Nat.mod_lt _ (by omega)
      go_wp2_with fail
      go_region
      go_wp2_with fail
      refine ⟨⟨q, p.tmod q, rfl, rfl, Lib.hid ?_, hq, by omega, (by repeat (first | exact Ext.refl _ | assumption | refine Ext.alloc ?_ _ | refine Ext.drewN ?_ _ | refine Ext.drew ?_))⟩, by simp only [intOf]; omega⟩
      rw [← HG.out, Int.gcd, Int.gcd, Int.natAbs_tmod, Nat.gcd_comm, ← Nat.gcd_rec, Nat.gcd_comm]

theorem probB_est {E : Int} {xs : List Int} (h : ¬ (0 ≤ E ∧ E ≤ 100000)) : probB E xs = false := by
  cases hp : probB E xs with
  | false => rfl
  | true => exact absurd ((probB_true E xs).1 hp).estate h
theorem probB_len {E : Int} {xs : List Int} (h : ¬ (1 ≤ xs.length ∧ xs.length ≤ 7)) : probB E xs = false := by
  cases hp : probB E xs with
  | false => rfl
  | true => exact absurd ⟨((probB_true E xs).1 hp).one, ((probB_true E xs).1 hp).seven⟩ h
theorem probB_claim {E : Int} {xs : List Int} {k : Nat} (hk : k < xs.length) (h : ¬ (0 ≤ ith xs k ∧ ith xs k ≤ 100000)) : probB E xs = false := by
  cases hp : probB E xs with
  | false => rfl
  | true => exact absurd (((probB_true E xs).1 hp).claims.at_ k hk) h
theorem probB_sum {E : Int} {xs : List Int} (h1 : 0 ≤ E ∧ E ≤ 100000) (h2 : 1 ≤ xs.length ∧ xs.length ≤ 7) (h3 : ∀ k, k < xs.length → 0 ≤ ith xs k ∧ ith xs k ≤ 100000) : probB E xs = decide (E ≤ isum xs) := by
  have hu : Upto 100000 xs := fun x hx => by
    obtain ⟨j, hj, rfl⟩ := List.getElem_of_mem hx
    have := h3 j hj
    rw [show ith xs j = xs[j] by simp [ith, hj]] at this
    exact this
  by_cases h : E ≤ isum xs
  · rw [decide_eq_true h]; exact (probB_true E xs).2 ⟨h1, h2.1, h2.2, hu, h⟩
  · rw [decide_eq_false h]
    cases hp : probB E xs with
    | false => rfl
    | true => exact absurd ((probB_true E xs).1 hp).enough h
set_option maxRecDepth 100000 in
theorem refProblem_calls (w : World) (E : Int) (ao : Option Addr) (cap : Nat) (xs : List Int) (hI : IntsIn w ao xs) :
    Calls Try.prog 49 #[.int .i64 E, .slice ao xs.length cap] w fun e w' => e = .returned (.bool (probB E xs)) ∧ Ext w w' := by
  go_enter Try.func49, Try.ntmps49
  by_cases h1 : 0 ≤ E
  · by_cases h2 : E ≤ 100000
    · by_cases h3 : 1 ≤ xs.length
      · by_cases h4 : xs.length ≤ 7
        · go_wp2_with fail
          go_loopw [5, 6] (fun s i wr => ∃ k : Nat, k ≤ xs.length ∧ i = .int .i64 k ∧ s = .int .i64 (isum (xs.take k)) ∧ (0 ≤ isum (xs.take k) ∧ isum (xs.take k) ≤ 100000 * k) ∧ Hid (∀ j, j < k → 0 ≤ ith xs j ∧ ith xs j ≤ 100000) ∧ Ext w wr) (fun _ i _ => xs.length - (intOf i).toNat)
          case atStart => exact ⟨0, by omega, rfl, rfl, by simp [isum_nil], Lib.hid (fun j hj => by omega), Ext.refl _⟩
          case round =>
            obtain ⟨k, hk, rfl, rfl, hb, HX, hx⟩ := hrel
            by_cases hlt : k < xs.length
            · obtain ⟨b, off, rfl, hb2, hc⟩ := hI.ext hx k hlt
              have hst := isum_take xs k hlt
              by_cases h5 : 0 ≤ ith xs k
              · by_cases h6 : ith xs k ≤ 100000
                · have HST := Lib.hid hst
                  clear hst
                  go_wp2_with fail
                  refine ⟨⟨k + 1, by omega, rfl, by rw [HST.out], by rw [HST.out]; omega, Lib.hid (fun j hj => ?_), hx⟩, by simp only [intOf]; omega⟩
                  rcases Nat.lt_or_ge j k with h | h
                  · exact HX.out j h
                  · rw [show j = k by omega]; exact ⟨h5, h6⟩
                · have HN := Lib.hid (probB_claim (E := E) hlt (by omega))
                  go_wp2_with fail
                  go_ret
                  exact ⟨ret_bool HN.out.symm, (by repeat (first | exact Ext.refl _ | assumption | refine Ext.alloc ?_ _ | refine Ext.drewN ?_ _ | refine Ext.drew ?_))⟩
              · have HN := Lib.hid (probB_claim (E := E) hlt (by omega))
                go_wp2_with fail
                go_ret
                exact ⟨ret_bool HN.out.symm, (by repeat (first | exact Ext.refl _ | assumption | refine Ext.alloc ?_ _ | refine Ext.drewN ?_ _ | refine Ext.drew ?_))⟩
            · obtain rfl : k = xs.length := by omega
              rw [List.take_length] at hb ⊢
              have HP := Lib.hid (probB_sum (E := E) (xs := xs) (by omega) (by omega) HX.out)
              go_wp2_with fail
              go_ret
              refine ⟨ret_bool ?_, hx⟩
              rw [HP.out]
        · have HN := Lib.hid (probB_len (E := E) (xs := xs) (by omega))
          go_wp2_with fail
          go_ret
          exact ⟨ret_bool HN.out.symm, (by repeat (first | exact Ext.refl _ | assumption | refine Ext.alloc ?_ _ | refine Ext.drewN ?_ _ | refine Ext.drew ?_))⟩
      · have HN := Lib.hid (probB_len (E := E) (xs := xs) (by omega))
        go_wp2_with fail
        go_ret
        exact ⟨ret_bool HN.out.symm, (by repeat (first | exact Ext.refl _ | assumption | refine Ext.alloc ?_ _ | refine Ext.drewN ?_ _ | refine Ext.drew ?_))⟩
    · have HN := Lib.hid (probB_est (E := E) (xs := xs) (by omega))
      go_wp2_with fail
      go_ret
      exact ⟨ret_bool HN.out.symm, (by repeat (first | exact Ext.refl _ | assumption | refine Ext.alloc ?_ _ | refine Ext.drewN ?_ _ | refine Ext.drew ?_))⟩
  · have HN := Lib.hid (probB_est (E := E) (xs := xs) (by omega))
    go_wp2_with fail
    go_ret
    exact ⟨ret_bool HN.out.symm, (by repeat (first | exact Ext.refl _ | assumption | refine Ext.alloc ?_ _ | refine Ext.drewN ?_ _ | refine Ext.drew ?_))⟩
end Go.Proofs.Ytcngecibljgndaa

/- The specification's Lowest, IsShares, Is; quota.Is. -/
namespace Go.Proofs.Ytcngecibljgndaa
open Go.RowKit Go.Shelf

/-- A box with Parts in it. -/
structure PBox (w : World) (B : Nat) (v : Value) (d : Int) : Prop where
  c0 : w.cell? ⟨B, 0, none⟩ = some v
  c1 : w.cell? ⟨B, 1, none⟩ = some (.int .i64 d)
  lt : B < w.heap.size
theorem PBox.ext {w w' : World} {B : Nat} {v : Value} {d : Int} (h : PBox w B v d) (hx : Ext w w') : PBox w' B v d :=
  ⟨(hx.cell (p := ⟨B, 0, none⟩) h.lt).trans h.c0, (hx.cell (p := ⟨B, 1, none⟩) h.lt).trans h.c1, Nat.lt_of_lt_of_le h.lt hx.size⟩
theorem PBox.new (w : World) (t : TypeId) (v : Value) (d : Int) : PBox (w.alloc (.cells #[v, .int .i64 d] t)) w.heap.size v d :=
  ⟨by simp [go_sem], by simp [go_sem], by simp⟩
end Go.Proofs.Ytcngecibljgndaa

/- inTurn, plain: what one gets is a sum over the sets of those who can come before. -/
namespace Go.Proofs.Ytcngecibljgndaa
open Go.RowKit Go.Shelf
def Up (n : Nat) (came : List Bool) (s : Nat) : Prop := ∀ j, j < n → bth came j = true → s.testBit j = true
instance (n : Nat) (came : List Bool) (s : Nat) : Decidable (Up n came s) := by unfold Up; infer_instance
end Go.Proofs.Ytcngecibljgndaa

/- inTurn is its own dual, and the mean of what each one adds, plain. -/
namespace Go.Proofs.Ytcngecibljgndaa
open Go.RowKit Go.Shelf
/-- All others but one. -/
def others (n i s : Nat) : Nat := (2 ^ n - (s + 1)) ^^^ 2 ^ i
end Go.Proofs.Ytcngecibljgndaa

/- Nucleolus says yes exactly of the Talmud's shares; plain. -/
namespace Go.Proofs.Ytcngecibljgndaa
open Go.RowKit Go.Shelf

theorem sm_isum (n : Nat) (f : Nat → Int) : sm n f = isum ((List.range n).map f) := by
  induction n with
  | zero => simp [sm, isum_nil]
  | succ n ih => rw [sm, ih, List.range_succ, List.map_append, isum_append]; simp [isum_cons, isum_nil]
theorem isum_sm (l : List Int) : isum l = sm l.length (ith l) := by rw [sm_isum]; exact isum_eq_range l
end Go.Proofs.Ytcngecibljgndaa

/- SortFunc at the excesses: the greatest first. -/
namespace Go.Proofs.Ytcngecibljgndaa
open Go.RowKit Go.Sort Go.Shelf

/-- A number that is no greater than a bound, either way. -/
structure BInt where
  v : Int
  h : -1000000000000 ≤ v ∧ v ≤ 1000000000000
instance : Inhabited BInt := ⟨⟨0, by decide⟩⟩
def BdI (z : Int) : Prop := -1000000000000 ≤ z ∧ z ≤ 1000000000000
instance (z : Int) : Decidable (BdI z) := by unfold BdI; infer_instance
end Go.Proofs.Ytcngecibljgndaa

/- Whole numbers as lists of digits to the base 10000, the lowest first: plain facts. -/
namespace Go.Proofs.Ytcngecibljgndaa

/-- The digit of n at place k. -/
def dig (n k : Nat) : Nat := n / 10000 ^ k % 10000
/-- The i lowest digits. -/
def low (i n : Nat) : List Int := (List.range i).map fun k => (dig n k : Int)
/-- How many digits a number has. -/
def many : Nat → Nat
  | n => if h : n = 0 then 0 else many (n / 10000) + 1
termination_by n => n
decreasing_by omega
def digs (n : Nat) : List Int := low (many n) n

theorem many_zero : many 0 = 0 := by rw [many]; simp
theorem many_pos {n : Nat} (h : n ≠ 0) : many n = many (n / 10000) + 1 := by rw [many]; simp [h]
theorem lt_pow_iff (i n : Nat) : i < many n ↔ 10000 ^ i ≤ n := by
  induction i generalizing n with
  | zero =>
    by_cases h : n = 0
    · subst h; simp [many_zero]
    · rw [many_pos h]; simp; omega
  | succ i ih =>
    by_cases h : n = 0
    · subst h
      have : 0 < 10000 ^ (i + 1) := Nat.pow_pos (by omega)
      rw [many_zero]; omega
    · rw [many_pos h, Nat.add_lt_add_iff_right, ih, Nat.pow_succ, Nat.le_div_iff_mul_le (by omega)]
theorem lt_many (n : Nat) : n < 10000 ^ many n := by
  have := lt_pow_iff (many n) n
  omega
theorem many_eq {i n : Nat} (h : n < 10000 ^ i) (k : i = 0 ∨ 10000 ^ (i - 1) ≤ n) : many n = i := by
  have h1 : ¬ i < many n := by rw [lt_pow_iff]; omega
  rcases k with rfl | k
  · omega
  · have := (lt_pow_iff (i - 1) n).2 k
    omega
theorem many_le {i n : Nat} (h : n < 10000 ^ i) : many n ≤ i := by
  have h1 : ¬ i < many n := by rw [lt_pow_iff]; omega
  omega

theorem low_length (i n : Nat) : (low i n).length = i := by simp [low]
theorem digs_length (n : Nat) : (digs n).length = many n := low_length _ _
theorem low_snoc (i n : Nat) : low (i + 1) n = low i n ++ [(dig n i : Int)] := by simp [low, List.range_succ]
theorem low_eq_digs {i n : Nat} (h : n < 10000 ^ i) (k : i = 0 ∨ 10000 ^ (i - 1) ≤ n) : low i n = digs n := by rw [digs, many_eq h k]
theorem dig_lt (n k : Nat) : dig n k < 10000 := Nat.mod_lt _ (by omega)
theorem dig_out {n k : Nat} (h : many n ≤ k) : dig n k = 0 := by
  have h1 : ¬ k < many n := by omega
  rw [lt_pow_iff] at h1
  rw [dig, Nat.div_eq_of_lt (by omega)]
theorem low_at (i n k : Nat) (h : k < i) : (low i n).getD k 0 = (dig n k : Int) := by simp [low, h]
theorem digs_at (n k : Nat) : (digs n).getD k 0 = (dig n k : Int) := by
  by_cases h : k < many n
  · exact low_at _ _ _ h
  · rw [List.getD_eq_getElem?_getD, List.getElem?_eq_none (by rw [digs_length]; omega), dig_out (by omega)]; rfl
theorem digs_zero : digs 0 = [] := by rw [digs, many_zero]; rfl
theorem many_eq_zero {n : Nat} : many n = 0 ↔ n = 0 := by
  by_cases h : n = 0
  · subst h; simp [many_zero]
  · rw [many_pos h]; omega

/-- The lowest digits as a number. -/
theorem mod_succ (n i : Nat) : n % 10000 ^ (i + 1) = n % 10000 ^ i + 10000 ^ i * dig n i := by
  rw [Nat.pow_succ, Nat.mod_mul, dig]
theorem dig_of_mod (n i : Nat) : dig n i = n % 10000 ^ (i + 1) / 10000 ^ i := by
  have hp : 0 < 10000 ^ i := Nat.pow_pos (by omega)
  rw [mod_succ, Nat.add_mul_div_left _ _ hp, Nat.div_eq_of_lt (Nat.mod_lt _ hp), Nat.zero_add]

/-- What digits are worth. -/
def worth : List Int → Int
  | [] => 0
  | x :: l => x + 10000 * worth l
theorem worth_append (l m : List Int) : worth (l ++ m) = worth l + 10000 ^ l.length * worth m := by
  induction l with
  | nil => simp [worth]
  | cons x l ih =>
    simp only [List.cons_append, worth, ih, List.length_cons, Int.pow_succ]
    grind
theorem worth_low (i n : Nat) : worth (low i n) = ((n % 10000 ^ i : Nat) : Int) := by
  induction i with
  | zero => simp [low, worth, Nat.mod_one]
  | succ i ih =>
    rw [low_snoc, worth_append, ih, low_length, mod_succ]
    simp [worth]
theorem worth_digs (n : Nat) : worth (digs n) = n := by
  rw [digs, worth_low, Nat.mod_eq_of_lt (lt_many n)]
/-- Digits: numbers from 0 to 9999. -/
def Digits (l : List Int) : Prop := ∀ x ∈ l, 0 ≤ x ∧ x < 10000
theorem digits_low (i n : Nat) : Digits (low i n) := by
  intro x hx
  simp only [low, List.mem_map, List.mem_range] at hx
  obtain ⟨k, _, rfl⟩ := hx
  have := dig_lt n k
  omega
theorem digits_digs (n : Nat) : Digits (digs n) := digits_low _ _
theorem worth_nonneg {l : List Int} (h : Digits l) : 0 ≤ worth l ∧ worth l < 10000 ^ l.length := by
  induction l with
  | nil => simp [worth]
  | cons x l ih =>
    have h1 := h x (by simp)
    have h2 := ih (fun y hy => h y (by simp [hy]))
    simp only [worth, List.length_cons, Int.pow_succ]
    omega
/-- Digits are those of their worth. -/
theorem digits_eq_low {l : List Int} (h : Digits l) : l = low l.length (worth l).toNat := by
  induction l with
  | nil => rfl
  | cons x l ih =>
    have h1 := h x (by simp)
    have hl : Digits l := fun y hy => h y (by simp [hy])
    have h2 := worth_nonneg hl
    have h3 := ih hl
    have e : (worth (x :: l)).toNat = x.toNat + 10000 * (worth l).toNat := by simp only [worth]; omega
    refine List.ext_getElem (by simp [low_length]) fun k hk hk2 => ?_
    simp only [e, low, List.getElem_map, List.getElem_range]
    cases k with
    | zero => simp [dig]; omega
    | succ k =>
      have hk' : k < l.length := by simpa using hk
      have h4 : l[k]? = (low l.length (worth l).toNat)[k]? := congrArg (fun m : List Int => m[k]?) h3
      rw [List.getElem?_eq_getElem hk'] at h4
      simp only [List.getElem_cons_succ]
      simp [low, hk'] at h4
      rw [h4]
      congr 1
      simp only [dig]
      rw [Nat.pow_succ, Nat.mul_comm (10000 ^ k), ← Nat.div_div_eq_div_mul]
      congr 1
      congr 1
      omega
/-- Without the highest digits that are 0. -/
theorem digs_of_take {l : List Int} (h : Digits l) (n : Nat) (hn : n ≤ l.length) (hz : ∀ k, n ≤ k → k < l.length → l.getD k 0 = 0) (ht : n = 0 ∨ l.getD (n - 1) 0 ≠ 0) : l.take n = digs (worth l).toNat := by
  have h1 : Digits (l.take n) := fun x hx => h x (List.mem_of_mem_take hx)
  have h2 : worth l = worth (l.take n) := by
    have e0 : worth l = worth (l.take n) + 10000 ^ (l.take n).length * worth (l.drop n) := by rw [← worth_append, List.take_append_drop]
    have : ∀ m : List Int, (∀ x ∈ m, x = 0) → worth m = 0 := by
      intro m hm
      induction m with
      | nil => rfl
      | cons x m ih => simp only [worth]; rw [ih (fun y hy => hm y (by simp [hy])), hm x (by simp)]; rfl
    have h0 : worth (l.drop n) = 0 := by
      refine this _ fun x hx => ?_
      obtain ⟨k, hk, rfl⟩ := List.getElem_of_mem hx
      have := hz (n + k) (by omega) (by simp at hk; omega)
      rw [List.getElem_drop]
      rw [List.getD_eq_getElem?_getD, List.getElem?_eq_getElem (by simp at hk; omega)] at this
      exact this
    rw [e0, h0]; simp
  rw [h2]
  have h3 := digits_eq_low h1
  have hl : (l.take n).length = n := by simp; omega
  have h4 := worth_nonneg h1
  rw [hl] at h3 h4
  rw [h3]
  conv => rhs; rw [← h3]
  have hw : ((worth (l.take n)).toNat : Int) = worth (l.take n) := by omega
  refine low_eq_digs ?_ ?_
  · have h5 : ((worth (l.take n)).toNat : Int) < ((10000 ^ n : Nat) : Int) := by rw [hw]; simpa using h4.2
    omega
  · rcases ht with ht | ht
    · exact .inl ht
    · right
      have h0 : n ≠ 0 := by
        rintro rfl
        have := hz 0 (by omega)
        by_cases hl0 : 0 < l.length
        · exact ht (by simpa using this hl0)
        · have : l = [] := by simpa using hl0
          subst this; simp at ht
      have h6 : 0 < dig (worth (l.take n)).toNat (n - 1) := by
        have : ((low n (worth (l.take n)).toNat).getD (n - 1) 0) = (dig (worth (l.take n)).toNat (n - 1) : Int) := low_at _ _ _ (by omega)
        rw [← h3] at this
        have h7 : (l.take n).getD (n - 1) 0 = l.getD (n - 1) 0 := by
          simp only [List.getD_eq_getElem?_getD, List.getElem?_take]
          rw [if_pos (by omega)]
        rw [h7] at this
        omega
      rw [dig] at h6
      have h8 : 10000 ^ (n - 1) ≤ (worth (l.take n)).toNat := by
        by_cases hc : 10000 ^ (n - 1) ≤ (worth (l.take n)).toNat
        · exact hc
        · rw [Nat.div_eq_of_lt (by omega)] at h6; simp at h6
      exact h8

theorem worth_set (l : List Int) (k : Nat) (x : Int) (hk : k < l.length) : worth (l.set k x) = worth l + (x - l.getD k 0) * 10000 ^ k := by
  induction l generalizing k with
  | nil => simp at hk
  | cons y l ih =>
    cases k with
    | zero => simp [worth]; omega
    | succ k =>
      have := ih k (by simpa using hk)
      simp only [List.set_cons_succ, worth, this, List.getD_cons_succ, Int.pow_succ]
      grind
theorem digits_set {l : List Int} (h : Digits l) (k : Nat) {x : Int} (h0 : 0 ≤ x) (h1 : x < 10000) : Digits (l.set k x) := by
  intro y hy
  rcases List.mem_or_eq_of_mem_set hy with hy | rfl
  · exact h y hy
  · exact ⟨h0, h1⟩
theorem digits_getD {l : List Int} (h : Digits l) (k : Nat) : 0 ≤ l.getD k 0 ∧ l.getD k 0 < 10000 := by
  by_cases hk : k < l.length
  · rw [List.getD_eq_getElem?_getD, List.getElem?_eq_getElem hk]
    exact h _ (List.getElem_mem _)
  · rw [List.getD_eq_getElem?_getD, List.getElem?_eq_none (by omega)]; simp
theorem worth_replicate (n : Nat) : worth (List.replicate n 0) = 0 := by
  induction n with
  | zero => rfl
  | succ n ih => simp [List.replicate_succ, worth, ih]

/-- Comparing by digits. -/
theorem lt_of_many {a b : Nat} (h : many a < many b) : a < b := by
  have h1 := lt_many a
  have h2 := (lt_pow_iff (many a) b).1 h
  omega
theorem high_lt {a b i : Nat} (h : a / 10000 ^ (i + 1) = b / 10000 ^ (i + 1)) (k : dig a i < dig b i) : a < b := by
  have hp : 0 < 10000 ^ i := Nat.pow_pos (by omega)
  have ha : a / 10000 ^ i = 10000 * (a / 10000 ^ (i + 1)) + dig a i := by
    rw [Nat.pow_succ, ← Nat.div_div_eq_div_mul, dig]; omega
  have hb : b / 10000 ^ i = 10000 * (b / 10000 ^ (i + 1)) + dig b i := by
    rw [Nat.pow_succ, ← Nat.div_div_eq_div_mul, dig]; omega
  have h3 : a / 10000 ^ i < b / 10000 ^ i := by omega
  by_cases hc : a < b
  · exact hc
  · have := Nat.div_le_div_right (c := 10000 ^ i) (show b ≤ a by omega)
    omega
theorem high_eq {a b i : Nat} (h : a / 10000 ^ (i + 1) = b / 10000 ^ (i + 1)) (k : dig a i = dig b i) : a / 10000 ^ i = b / 10000 ^ i := by
  have ha : a / 10000 ^ i = 10000 * (a / 10000 ^ (i + 1)) + dig a i := by
    rw [Nat.pow_succ, ← Nat.div_div_eq_div_mul, dig]; omega
  have hb : b / 10000 ^ i = 10000 * (b / 10000 ^ (i + 1)) + dig b i := by
    rw [Nat.pow_succ, ← Nat.div_div_eq_div_mul, dig]; omega
  omega

/-- A step of the sum. -/
theorem add_step (a b i : Nat) : dig (a + b) i = ((a % 10000 ^ i + b % 10000 ^ i) / 10000 ^ i + dig a i + dig b i) % 10000 ∧
    (a % 10000 ^ (i + 1) + b % 10000 ^ (i + 1)) / 10000 ^ (i + 1) = ((a % 10000 ^ i + b % 10000 ^ i) / 10000 ^ i + dig a i + dig b i) / 10000 := by
  have hp : 0 < 10000 ^ i := Nat.pow_pos (by omega)
  have e1 : (a % 10000 ^ (i + 1) + b % 10000 ^ (i + 1)) / 10000 ^ i = (a % 10000 ^ i + b % 10000 ^ i) / 10000 ^ i + dig a i + dig b i := by
    rw [mod_succ, mod_succ]
    rw [show a % 10000 ^ i + 10000 ^ i * dig a i + (b % 10000 ^ i + 10000 ^ i * dig b i) = a % 10000 ^ i + b % 10000 ^ i + 10000 ^ i * (dig a i + dig b i) by
      rw [Nat.mul_add]; omega, Nat.add_mul_div_left _ _ hp]
    omega
  constructor
  · rw [← e1, dig_of_mod, Nat.add_mod]
    have : (a % 10000 ^ (i + 1) + b % 10000 ^ (i + 1)) % 10000 ^ (i + 1) / 10000 ^ i = dig (a % 10000 ^ (i + 1) + b % 10000 ^ (i + 1)) i := (dig_of_mod _ _).symm
    rw [this, dig]
  · rw [← e1, Nat.pow_succ, Nat.div_div_eq_div_mul]

/-- A step of the difference. -/
theorem sub_step (a b i : Nat) (h : b ≤ a) : (dig (a - b) i : Int) = (dig a i : Int) - (if a % 10000 ^ i < b % 10000 ^ i then 1 else 0) - dig b i + (if a % 10000 ^ (i + 1) < b % 10000 ^ (i + 1) then 10000 else 0) ∧
    (a % 10000 ^ (i + 1) < b % 10000 ^ (i + 1) ↔ (dig a i : Int) - (if a % 10000 ^ i < b % 10000 ^ i then 1 else 0) - dig b i < 0) := by
  have hp : 0 < 10000 ^ i := Nat.pow_pos (by omega)
  have ma := mod_succ a i
  have mb := mod_succ b i
  have la := Nat.mod_lt a hp
  have lb := Nat.mod_lt b hp
  have da := dig_lt a i
  have db := dig_lt b i
  have key : a % 10000 ^ (i + 1) < b % 10000 ^ (i + 1) ↔ (dig a i : Int) - (if a % 10000 ^ i < b % 10000 ^ i then 1 else 0) - dig b i < 0 := by
    rw [ma, mb]
    generalize a % 10000 ^ i = x at *
    generalize b % 10000 ^ i = y at *
    generalize dig a i = u at *
    generalize dig b i = v at *
    generalize 10000 ^ i = p at *
    rcases Nat.lt_trichotomy u v with huv | rfl | huv
    · have : p * (u + 1) ≤ p * v := Nat.mul_le_mul_left _ huv
      rw [Nat.mul_add] at this
      split <;> omega
    · split <;> omega
    · have : p * (v + 1) ≤ p * u := Nat.mul_le_mul_left _ huv
      rw [Nat.mul_add] at this
      split <;> omega
  refine ⟨?_, key⟩
  have hs := mod_succ (a - b) i
  have ls := Nat.mod_lt (a - b) hp
  have ds := dig_lt (a - b) i
  have hp1 : 0 < 10000 ^ (i + 1) := Nat.pow_pos (by omega)
  have f1 : ∀ q : Nat, 0 < q → (((a - b) % q : Nat) : Int) = ((a % q : Nat) : Int) - ((b % q : Nat) : Int) + (if a % q < b % q then (q : Int) else 0) := by
    intro q hq
    have h0 : a % q = (b % q + (a - b) % q) % q := by rw [← Nat.add_mod]; congr 1; omega
    have h2 := Nat.mod_lt (a - b) hq
    have h3 := Nat.mod_lt b hq
    rcases Nat.lt_or_ge (b % q + (a - b) % q) q with hlt | hge
    · rw [Nat.mod_eq_of_lt hlt] at h0
      rw [if_neg (by omega)]; omega
    · rw [Nat.mod_eq_sub_mod hge, Nat.mod_eq_of_lt (show b % q + (a - b) % q - q < q by omega)] at h0
      rw [if_pos (by omega)]; omega
  have g0' := f1 (10000 ^ i) hp
  have g1' := f1 (10000 ^ (i + 1)) hp1
  rw [hs, ma, mb] at g1'
  rw [← ma, ← mb] at g1'
  have e : ((10000 ^ (i + 1) : Nat) : Int) = ((10000 ^ i : Nat) : Int) * 10000 := by rw [Nat.pow_succ]; simp
  rw [e] at g1'
  rw [ma, mb] at g1'
  rw [← ma, ← mb] at g1'
  have hp' : (0 : Int) < ((10000 ^ i : Nat) : Int) := by omega
  refine Int.eq_of_mul_eq_mul_left (Int.ne_of_gt hp') ?_
  have g2 : (((a - b) % 10000 ^ i : Nat) : Int) + ((10000 ^ i : Nat) : Int) * (dig (a - b) i : Int) = (((a - b) % 10000 ^ i + 10000 ^ i * dig (a - b) i : Nat) : Int) := by simp
  have g3 : ((a % 10000 ^ (i + 1) : Nat) : Int) = ((a % 10000 ^ i : Nat) : Int) + ((10000 ^ i : Nat) : Int) * (dig a i : Int) := by rw [ma]; simp
  have g4 : ((b % 10000 ^ (i + 1) : Nat) : Int) = ((b % 10000 ^ i : Nat) : Int) + ((10000 ^ i : Nat) : Int) * (dig b i : Int) := by rw [mb]; simp
  rw [← g2, g3, g4] at g1'
  generalize ((10000 ^ i : Nat) : Int) = p at *
  split <;> split at g0' <;> split at g1' <;> first | (exfalso; omega) | grind

/-- A step of the quotient. -/
theorem div_step (a b i : Nat) (hb : 0 < b) : a / 10000 ^ i % b = (10000 * (a / 10000 ^ (i + 1) % b) + dig a i) % b ∧ dig (a / b) i = (10000 * (a / 10000 ^ (i + 1) % b) + dig a i) / b ∧ (10000 * (a / 10000 ^ (i + 1) % b) + dig a i) / b < 10000 := by
  have ha : a / 10000 ^ i = 10000 * (a / 10000 ^ (i + 1)) + dig a i := by
    rw [Nat.pow_succ, ← Nat.div_div_eq_div_mul, dig]; omega
  have hd := dig_lt a i
  generalize hq : a / 10000 ^ (i + 1) = q at *
  have hr := Nat.mod_lt q hb
  have e : 10000 * q + dig a i = b * (10000 * (q / b)) + (10000 * (q % b) + dig a i) := by
    conv => lhs; rw [← Nat.div_add_mod q b]
    rw [Nat.mul_add]
    grind
  have h3 : (10000 * (q % b) + dig a i) / b < 10000 := by
    rw [Nat.div_lt_iff_lt_mul hb]
    have : 10000 * (q % b + 1) ≤ 10000 * b := Nat.mul_le_mul_left _ hr
    omega
  refine ⟨?_, ?_, h3⟩
  · rw [ha, e, Nat.mul_add_mod]
  · rw [dig, Nat.div_div_eq_div_mul, Nat.mul_comm b, ← Nat.div_div_eq_div_mul, ha, e, Nat.mul_add_div hb, Nat.mul_add_mod, Nat.mod_eq_of_lt h3]

end Go.Proofs.Ytcngecibljgndaa
