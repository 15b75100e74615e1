/- Inspect, the boxes: when there is no game. -/
import Derived.Test.YtefmioppamdceaaDoorMKB
import Derived.Test.YtefmioppamdceaaDoorMIM
import Derived.Test.YtefmioppamdceaaDoorMJB
import Derived.Maps.OwnSet
import Derived.Maps.Views
import Derived.DeepKeys4
namespace Go.Proofs.YtefmioppamdceaaDoor
open Go.RowKit Go.Shelf

def badB (n : Int) : Bool := decide (n < 1 ∨ 20 < n)
theorem badB_calls (w : World) (n : Int) : Calls Tryd.prog 33 #[.int .i64 n] w fun e w' => e = .returned (.bool (badB n)) ∧ Ext w w' := by
  by_cases h0 : n < 1
  · go_enter Tryd.func33, Tryd.ntmps33
    go_wp2_with fail
    go_ret
    exact ⟨ret_bool (by simp [badB, h0]), (by repeat (first | exact Ext.refl _ | assumption | refine Ext.alloc ?_ _ | refine Ext.drewN ?_ _ | refine Ext.drew ?_))⟩
  · by_cases h1 : 20 < n
    · go_enter Tryd.func33, Tryd.ntmps33
      go_wp2_with fail
      go_ret
      exact ⟨ret_bool (by simp [badB, h1]), (by repeat (first | exact Ext.refl _ | assumption | refine Ext.alloc ?_ _ | refine Ext.drewN ?_ _ | refine Ext.drew ?_))⟩
    · go_enter Tryd.func33, Tryd.ntmps33
      go_wp2_with fail
      go_ret
      exact ⟨ret_bool (by simp [badB, h0, h1]), (by repeat (first | exact Ext.refl _ | assumption | refine Ext.alloc ?_ _ | refine Ext.drewN ?_ _ | refine Ext.drew ?_))⟩
theorem enters_badB : ∀ args w, (callFunc 33 args).run Tryd.prog w = .ok (.enter 33 args) w := enters_of Tryd.func33 (by kernel_rfl) rfl
theorem pred_badB (w : World) : PredI w 33 #[] badB := ⟨fun args w' => enters_badB args w', fun w' x _ => badB_calls w' x⟩
/-- Boxes and looks that may be. -/
def boxOk (ws : List Int) (l : Int) : Bool := decide (1 ≤ ws.length ∧ ws.length ≤ 8) && !(ws.any badB) && decide (0 ≤ l ∧ l ≤ ws.length)
def noSad : Value := .agg #[.int .i64 0, .int .i64 0, .slice none 0 0, .int .i64 0, .slice none 0 0, .int .i64 0]
def BadRes (w : World) (e : Ending) (w' : World) : Prop := e = .returned (.tuple #[noSad, .int .i64 2]) ∧ Ext w w'
end Go.Proofs.YtefmioppamdceaaDoor

/- Inspect, Dresher's game: what a season is worth, by sums of binomials. No program here. -/
namespace Go.Proofs.YtefmioppamdceaaDoor
open Go.RowKit Go.Shelf

/-- The worth as the program finds it. -/
def valR : Nat → Nat → Rat
  | 0, _ => 0
  | _ + 1, 0 => 1
  | d + 1, l + 1 => if d ≤ l then 0 else 1 - 2 * ((1 - valR d (l + 1)) / (2 + (valR d l - valR d (l + 1))))
/-- C(n, k). -/
def choR : Nat → Nat → Nat
  | _, 0 => 1
  | 0, _ + 1 => 0
  | n + 1, k + 1 => choR n k + choR n (k + 1)
/-- How many sets of at most k of n. -/
def sumR (n : Nat) : Nat → Nat
  | 0 => 1
  | k + 1 => sumR n k + choR n (k + 1)
theorem choR_zero (n : Nat) : choR n 0 = 1 := by cases n <;> rfl
theorem choR_over : ∀ (n k : Nat), n < k → choR n k = 0
  | 0, k + 1, _ => rfl
  | n + 1, k + 1, h => by rw [choR, choR_over n k (by omega), choR_over n (k + 1) (by omega)]
theorem sumR_pos (n : Nat) : ∀ k, 0 < sumR n k
  | 0 => by rw [sumR]; omega
  | k + 1 => by rw [sumR]; have := sumR_pos n k; omega
theorem sumR_pascal (n : Nat) : ∀ k, sumR (n + 1) (k + 1) = sumR n k + sumR n (k + 1)
  | 0 => by simp only [sumR, choR, choR_zero]
  | k + 1 => by
    rw [sumR, sumR_pascal n k, choR]
    have e1 : sumR n (k + 1) = sumR n k + choR n (k + 1) := rfl
    have e2 : sumR n (k + 1 + 1) = sumR n (k + 1) + choR n (k + 1 + 1) := rfl
    omega
theorem sumR_le : ∀ (n k : Nat), sumR n k ≤ 2 ^ n
  | 0, 0 => by decide
  | 0, k + 1 => by rw [sumR, choR_over 0 (k + 1) (by omega)]; exact sumR_le 0 k
  | n + 1, 0 => by rw [sumR]; exact Nat.one_le_two_pow
  | n + 1, k + 1 => by rw [sumR_pascal, Nat.pow_succ]; have := sumR_le n k; have := sumR_le n (k + 1); omega
theorem choR_le (n k : Nat) : choR n (k + 1) ≤ sumR n (k + 1) := by rw [sumR]; omega
/-- The step of the closed form. -/
theorem val_step (P a b : Rat) (hP : 0 < P) (ha : 0 ≤ a) (hb : 0 ≤ b) :
    1 - 2 * ((1 - b / (P + a + b)) / (2 + (a / P - b / (P + a + b)))) = (a + b) / ((P + a + b) + P) := by
  have h1 : P + a + b ≠ 0 := by grind
  have h2 : (P + a + b) + P ≠ 0 := by grind
  have h3 : P + a ≠ 0 := by grind
  have h4 : P ≠ 0 := by grind
  have e : 2 + (a / P - b / (P + a + b)) = (P + a) * ((P + a + b) + P) / (P * (P + a + b)) := by grind
  have h5 : 2 + (a / P - b / (P + a + b)) ≠ 0 := by rw [e]; grind
  grind
theorem valR_eq : ∀ d l, valR (d + 1) l = (choR d l : Rat) / (sumR (d + 1) l : Rat)
  | 0, 0 => by rw [valR, choR, sumR]; first | decide | grind | (rw [Rat.div_def]; decide)
  | 0, l + 1 => by rw [valR, if_pos (by omega), choR]; rw [show ((0 : Nat) : Rat) = 0 from rfl, Rat.div_def, Rat.zero_mul]
  | d + 1, 0 => by rw [valR, choR, sumR]; first | decide | grind | (rw [Rat.div_def]; decide)
  | d + 1, l + 1 => by
    by_cases h : d + 1 ≤ l
    · rw [valR, if_pos h, choR_over (d + 1) (l + 1) (by omega), show ((0 : Nat) : Rat) = 0 from rfl, Rat.div_def, Rat.zero_mul]
    · rw [valR, if_neg h, valR_eq d l, valR_eq d (l + 1)]
      have e1 : sumR (d + 1) (l + 1) = sumR (d + 1) l + choR d l + choR d (l + 1) := by rw [sumR, choR]; omega
      have e2 : sumR (d + 1 + 1) (l + 1) = (sumR (d + 1) l + choR d l + choR d (l + 1)) + sumR (d + 1) l := by rw [sumR_pascal, e1]; omega
      have e3 : choR (d + 1) (l + 1) = choR d l + choR d (l + 1) := rfl
      rw [e1, e2, e3]
      have hP : (0 : Rat) < (sumR (d + 1) l : Rat) := by exact_mod_cast sumR_pos (d + 1) l
      have ha : (0 : Rat) ≤ (choR d l : Rat) := by exact_mod_cast Nat.zero_le _
      have hb : (0 : Rat) ≤ (choR d (l + 1) : Rat) := by exact_mod_cast Nat.zero_le _
      have := val_step _ _ _ hP ha hb
      simpa only [Rat.natCast_add] using this
/-- A fraction of whole numbers is no greater than they are. -/
theorem RBd.ofDivInt {n m A : Int} (hm : 0 < m) (hn : -A ≤ n ∧ n ≤ A) (hA : m ≤ A) : RBd (Rat.divInt n m) A := by
  have hg : (0 : Int) < Int.gcd n m := by have := Int.gcd_pos_of_ne_zero_right n (show m ≠ 0 by omega); omega
  constructor
  · rw [divInt_num hm, ← Int.tdiv_eq_ediv_of_dvd (Int.gcd_dvd_left _ _)]
    exact tdivB hn
  · rw [divInt_den hm]
    have := (tdivB (g := (Int.gcd n m : Int)) (show -A ≤ m ∧ m ≤ A by omega)).2
    rwa [Int.tdiv_eq_ediv_of_dvd (Int.gcd_dvd_right _ _)] at this
theorem RBd.add {a b : Rat} {A B : Int} (ha : RBd a A) (hb : RBd b B) : RBd (a + b) (2 * (A * B)) := by
  have h1 := mulB ha.num (show -B ≤ (b.den : Int) ∧ (b.den : Int) ≤ B by have := hb.den; have := b.den_pos; omega)
  have h2 := mulB hb.num (show -A ≤ (a.den : Int) ∧ (a.den : Int) ≤ A by have := ha.den; have := a.den_pos; omega)
  have h3 := mulB (show -A ≤ (a.den : Int) ∧ (a.den : Int) ≤ A by have := ha.den; have := a.den_pos; omega) (show -B ≤ (b.den : Int) ∧ (b.den : Int) ≤ B by have := hb.den; have := b.den_pos; omega)
  have h4 : 0 < (a.den : Int) * (b.den : Int) := Int.mul_pos (by have := a.den_pos; omega) (by have := b.den_pos; omega)
  rw [Int.mul_comm B A] at h2
  rw [addR]
  exact RBd.ofDivInt h4 (by omega) (by omega)
theorem RBd.sub {a b : Rat} {A B : Int} (ha : RBd a A) (hb : RBd b B) : RBd (a - b) (2 * (A * B)) := by rw [Rat.sub_eq_add_neg]; exact ha.add hb.neg
theorem RBd.mul {a b : Rat} {A B : Int} (ha : RBd a A) (hb : RBd b B) : RBd (a * b) (A * B) := by
  have hm := mulR a b
  have had : -A ≤ (a.den : Int) ∧ (a.den : Int) ≤ A := by have := ha.den; have := a.den_pos; omega
  have hbd : -B ≤ (b.den : Int) ∧ (b.den : Int) ≤ B := by have := hb.den; have := b.den_pos; omega
  exact ⟨by rw [hm.1]; exact mulB (tdivB ha.num) (tdivB hb.num), by rw [hm.2]; exact (mulB (tdivB had) (tdivB hbd)).2⟩
theorem invR {b : Rat} (h0 : 0 < b.num) : b⁻¹.num = (b.den : Int) ∧ ((b⁻¹).den : Int) = b.num := by
  show (Rat.inv b).num = _ ∧ ((Rat.inv b).den : Int) = _
  unfold Rat.inv
  rw [dif_neg (by omega), dif_pos h0]
  exact ⟨rfl, by show ((b.num.natAbs : Nat) : Int) = _; omega⟩
theorem RBd.div {a b : Rat} {A B : Int} (ha : RBd a A) (hb : RBd b B) (h0 : 0 < b.num) : RBd (a / b) (A * B) := by
  rw [Rat.div_def]
  exact ha.mul ⟨by rw [(invR h0).1]; have := hb.den; have := b.den_pos; omega, by rw [(invR h0).2]; exact hb.num.2⟩
/-- A season's worth is a fraction of small numbers. -/
theorem valR_bd : ∀ d l, d ≤ 14 → RBd (valR d l) 16384
  | 0, _, _ => by rw [valR]; exact ⟨by decide, by decide⟩
  | d + 1, l, h => by
    have h1 := sumR_pos (d + 1) l
    have h2 := sumR_le (d + 1) l
    have h3 : 2 ^ (d + 1) ≤ 2 ^ 14 := Nat.pow_le_pow_right (by decide) h
    have h4 : choR d l ≤ sumR (d + 1) l := by
      cases l with
      | zero => rw [choR_zero, sumR]; omega
      | succ l => rw [sumR_pascal]; have := choR_le d l; omega
    have e : valR (d + 1) l = Rat.divInt (choR d l : Int) (sumR (d + 1) l : Int) := by rw [valR_eq, Rat.divInt_eq_div]; rfl
    rw [e]
    have h5 : (2 : Nat) ^ 14 = 16384 := rfl
    exact RBd.ofDivInt (by omega) (by omega) (by omega)
theorem valR_ge (d l : Nat) : 0 ≤ valR d l := by
  cases d with
  | zero => rw [valR]; decide
  | succ d =>
    have h1 := sumR_pos (d + 1) l
    have e : valR (d + 1) l = Rat.divInt (choR d l : Int) (sumR (d + 1) l : Int) := by rw [valR_eq, Rat.divInt_eq_div]; rfl
    rw [e, ← Rat.num_nonneg, divInt_num (by omega)]
    exact Int.ediv_nonneg (by omega) (by omega)
end Go.Proofs.YtefmioppamdceaaDoor

/- Inspect, the boxes' game: which boxes are used, and what they gain. No program here. -/
namespace Go.Proofs.YtefmioppamdceaaDoor
open Go.RowKit Go.Shelf

/-- The sum of the reciprocals of the first k numbers. -/
def recT (L : List Int) : Nat → Rat
  | 0 => 0
  | k + 1 => recT L k + 1 / ((L.getD k 1 : Int) : Rat)
/-- What the k boxes that are worth most gain. -/
def gainB (L : List Int) (l k : Nat) : Rat := ((k - l : Nat) : Rat) / recT L k
/-- The best so far, as the program finds it: how many boxes, and what they gain. -/
def bestB (L : List Int) (l : Nat) : Nat → Nat × Rat
  | 0 => (0, 0)
  | k + 1 => if k + 1 ≤ l then bestB L l k else if (bestB L l k).1 = 0 ∨ 0 < (gainB L l (k + 1) - (bestB L l k).2).num then (k + 1, gainB L l (k + 1)) else bestB L l k
/-- Boxes in falling order of worth. -/
structure Fall (L : List Int) : Prop where
  one : ∀ i : Nat, 1 ≤ L.getD i 1
  top : ∀ i : Nat, L.getD i 1 ≤ 20
  fall : ∀ i j : Nat, i ≤ j → j < L.length → L.getD j 1 ≤ L.getD i 1
theorem Fall.pos {L : List Int} (h : Fall L) (i : Nat) : (0 : Rat) < ((L.getD i 1 : Int) : Rat) := by
  have := h.one i
  have h2 : (0 : Int) < L.getD i 1 := by omega
  exact_mod_cast h2
theorem Fall.rec_pos {L : List Int} (h : Fall L) (i : Nat) : (0 : Rat) < 1 / ((L.getD i 1 : Int) : Rat) := by
  rw [Rat.lt_div_iff (h.pos i)]
  simp only [Rat.zero_mul]
  decide
theorem recT_nonneg {L : List Int} (h : Fall L) : ∀ k, 0 ≤ recT L k
  | 0 => by rw [recT]; exact Rat.le_refl
  | k + 1 => by rw [recT]; have := recT_nonneg h k; have := h.rec_pos k; grind
theorem recT_pos {L : List Int} (h : Fall L) : ∀ k, 0 < k → 0 < recT L k
  | 0, h0 => by omega
  | k + 1, _ => by rw [recT]; have := recT_nonneg h k; have := h.rec_pos k; grind
theorem num_pos {r : Rat} : 0 < r.num ↔ 0 < r := by
  rw [Rat.lt_iff]; simp
theorem bestB_none (L : List Int) (l : Nat) : ∀ k, k ≤ l → bestB L l k = (0, 0)
  | 0, _ => rfl
  | k + 1, h => by rw [bestB, if_pos h]; exact bestB_none L l k (by omega)
theorem bestB_some (L : List Int) (l : Nat) : ∀ k, l < k → ∃ u, bestB L l k = (u, gainB L l u) ∧ l < u ∧ u ≤ k ∧ (∀ j, l < j → j < u → gainB L l j < gainB L l u) ∧ ∀ j, l < j → j ≤ k → gainB L l j ≤ gainB L l u
  | 0, h => by omega
  | k + 1, h => by
    rw [bestB, if_neg (by omega)]
    by_cases hk : l < k
    · obtain ⟨u, hu, h1, h2, h3, h4⟩ := bestB_some L l k hk
      rw [hu]
      by_cases hc : 0 < (gainB L l (k + 1) - gainB L l u).num
      · rw [if_pos (.inr hc)]
        have hc2 : gainB L l u < gainB L l (k + 1) := (Rat.lt_iff_sub_pos _ _).2 (num_pos.1 hc)
        refine ⟨k + 1, rfl, h, Nat.le_refl _, fun j a b => ?_, fun j a b => ?_⟩
        · have := h4 j a (by omega); grind
        · by_cases e : j = k + 1
          · rw [e]; exact Rat.le_refl
          · have := h4 j a (by omega); grind
      · rw [if_neg (by simp only [not_or]; exact ⟨by omega, hc⟩)]
        have hc2 : gainB L l (k + 1) ≤ gainB L l u := by
          rw [num_pos, ← Rat.lt_iff_sub_pos] at hc
          exact Rat.not_lt.1 hc
        refine ⟨u, rfl, h1, by omega, h3, fun j a b => ?_⟩
        by_cases e : j = k + 1
        · rw [e]; exact hc2
        · exact h4 j a (by omega)
    · have e : k = l := by omega
      subst e
      rw [bestB_none L k k (Nat.le_refl _), if_pos (.inl rfl)]
      refine ⟨k + 1, rfl, h, Nat.le_refl _, fun j a b => by omega, fun j a b => ?_⟩
      have : j = k + 1 := by omega
      rw [this]; exact Rat.le_refl
/-- The least number that all of the first k divide. -/
def lcmB (L : List Int) : Nat → Int
  | 0 => 1
  | k + 1 => (lcmB L k).tdiv (Int.gcd (lcmB L k) (L.getD k 1)) * L.getD k 1
theorem lcm_step {a b : Int} (ha : 0 < a) (hb : 0 < b) : a.tdiv (Int.gcd a b) * b = (Int.lcm a b : Int) := by
  obtain ⟨m, rfl⟩ : ∃ m : Nat, a = (m : Int) := ⟨a.toNat, by omega⟩
  obtain ⟨n, rfl⟩ : ∃ n : Nat, b = (n : Int) := ⟨b.toNat, by omega⟩
  rw [Int.lcm, Int.gcd, Int.natAbs_natCast, Int.natAbs_natCast, ← Int.ofNat_tdiv, ← Int.natCast_mul, Nat.lcm]
  congr 1
  obtain ⟨k, hk⟩ := Nat.gcd_dvd_left m n
  have hg : 0 < Nat.gcd m n := Nat.gcd_pos_of_pos_left _ (by omega)
  generalize hG : Nat.gcd m n = g at *
  rw [hk, Nat.mul_div_cancel_left _ hg, Nat.mul_assoc, Nat.mul_div_cancel_left _ hg]
theorem lcmB_pos {L : List Int} (hF : Fall L) : ∀ k, 0 < lcmB L k
  | 0 => by rw [lcmB]; omega
  | k + 1 => by
    have h1 := lcmB_pos hF k
    have h2 := hF.one k
    rw [lcmB, lcm_step h1 (by omega)]
    have := Int.lcm_pos (show lcmB L k ≠ 0 by omega) (show L.getD k 1 ≠ 0 by omega)
    omega
theorem lcmB_dvd {L : List Int} (hF : Fall L) : ∀ k i, i < k → L.getD i 1 ∣ lcmB L k
  | 0, i, h => by omega
  | k + 1, i, h => by
    have h1 := lcmB_pos hF k
    have h2 := hF.one k
    rw [lcmB, lcm_step h1 (by omega)]
    by_cases e : i = k
    · rw [e]; exact Int.dvd_lcm_right _ _
    · exact Int.dvd_trans (lcmB_dvd hF k i (by omega)) (Int.dvd_lcm_left _ _)
theorem dvd_all (x : Int) (h1 : 1 ≤ x) (h2 : x ≤ 20) : x ∣ 232792560 := by
  obtain ⟨m, rfl⟩ : ∃ m : Nat, x = (m : Int) := ⟨x.toNat, by omega⟩
  have h : ∀ m : Fin 21, 1 ≤ m.val → ((m.val : Nat) : Int) ∣ 232792560 := by decide
  exact h ⟨m, by omega⟩ (by show 1 ≤ m; omega)
theorem lcmB_all {L : List Int} (hF : Fall L) : ∀ k, lcmB L k ∣ 232792560
  | 0 => by rw [lcmB]; exact Int.one_dvd _
  | k + 1 => by
    have h1 := lcmB_pos hF k
    have h2 := hF.one k
    rw [lcmB, lcm_step h1 (by omega)]
    exact Int.coe_lcm_dvd (lcmB_all hF k) (dvd_all _ h2 (hF.top k))
theorem lcmB_le {L : List Int} (hF : Fall L) (k : Nat) : lcmB L k ≤ 232792560 := Int.le_of_dvd (by decide) (lcmB_all hF k)
/-- The sum of a number's parts by the first k. -/
def sumB (L : List Int) (D : Int) : Nat → Int
  | 0 => 0
  | k + 1 => sumB L D k + D.tdiv (L.getD k 1)
theorem part_nonneg {L : List Int} (hF : Fall L) {D : Int} (hD : 0 ≤ D) (i : Nat) : 0 ≤ D.tdiv (L.getD i 1) ∧ D.tdiv (L.getD i 1) ≤ D := by
  have := hF.one i
  rw [Int.tdiv_eq_ediv_of_nonneg hD]
  exact ⟨Int.ediv_nonneg hD (by omega), Int.ediv_le_self _ hD⟩
theorem sumB_le {L : List Int} (hF : Fall L) {D : Int} (hD : 0 ≤ D) : ∀ k : Nat, 0 ≤ sumB L D k ∧ sumB L D k ≤ k * D
  | 0 => by rw [sumB]; simp
  | k + 1 => by
    rw [sumB]
    have h1 := sumB_le hF hD k
    have h2 := part_nonneg hF hD k
    have e : ((k + 1 : Nat) : Int) * D = k * D + D := by rw [Int.natCast_add, Int.add_mul]; omega
    omega
theorem part_rat {w D : Int} (hw : 1 ≤ w) (h : w ∣ D) : ((D.tdiv w : Int) : Rat) = (D : Rat) * (1 / (w : Rat)) := by
  obtain ⟨q, rfl⟩ := h
  rw [Int.mul_tdiv_cancel_left _ (by omega)]
  have hw0 : (0 : Rat) < (w : Rat) := by exact_mod_cast (show (0 : Int) < w by omega)
  have hcw : 1 / (w : Rat) * (w : Rat) = 1 := Rat.div_mul_cancel (by grind)
  rw [Rat.intCast_mul]
  grind
theorem sumB_rat {L : List Int} (hF : Fall L) {D : Int} : ∀ k : Nat, (∀ i, i < k → L.getD i 1 ∣ D) → ((sumB L D k : Int) : Rat) = (D : Rat) * recT L k
  | 0, _ => by rw [sumB, recT]; simp
  | k + 1, h => by
    rw [sumB, recT, Rat.intCast_add, sumB_rat hF k (fun i hi => h i (by omega)), part_rat (hF.one k) (h k (by omega))]
    grind
/-- The sum of reciprocals is a fraction of small numbers. -/
theorem recT_bd {L : List Int} (hF : Fall L) (k : Nat) (hk : k ≤ 8) : RBd (recT L k) 1862340480 := by
  have h1 := lcmB_pos hF k
  have h2 := lcmB_le hF k
  have h3 := sumB_le hF (D := lcmB L k) (by omega) k
  have h4 := sumB_rat hF (D := lcmB L k) k (fun i hi => lcmB_dvd hF k i hi)
  have h5 : (k : Int) * lcmB L k ≤ 8 * 232792560 := Int.mul_le_mul (by omega) h2 (by omega) (by omega)
  have hD : (0 : Rat) < (lcmB L k : Rat) := by exact_mod_cast h1
  have e : recT L k = Rat.divInt (sumB L (lcmB L k) k) (lcmB L k) := by
    rw [Rat.divInt_eq_div, h4]
    have : (lcmB L k : Rat) * recT L k = recT L k * (lcmB L k : Rat) := Rat.mul_comm _ _
    rw [this, Rat.mul_div_cancel (by grind)]
  rw [e]
  exact RBd.ofDivInt h1 (by omega) (by omega)
theorem gain_bd {L : List Int} (hF : Fall L) (l k : Nat) (hk : k ≤ 8) (h : l < k) : RBd (gainB L l k) 1862340480 ∧ 0 ≤ gainB L l k := by
  have h1 := lcmB_pos hF k
  have h2 := lcmB_le hF k
  have h3 := sumB_le hF (D := lcmB L k) (by omega) k
  have h4 := sumB_rat hF (D := lcmB L k) k (fun i hi => lcmB_dvd hF k i hi)
  have h5 : (k : Int) * lcmB L k ≤ 8 * 232792560 := Int.mul_le_mul (by omega) h2 (by omega) (by omega)
  have h6 : ((k - l : Nat) : Int) * lcmB L k ≤ 8 * 232792560 := Int.mul_le_mul (by omega) h2 (by omega) (by omega)
  have h7 : 0 ≤ ((k - l : Nat) : Int) * lcmB L k := Int.mul_nonneg (by omega) (by omega)
  have hD : (0 : Rat) < (lcmB L k : Rat) := by exact_mod_cast h1
  have hR := recT_pos hF k (by omega)
  have h8 : (0 : Rat) < (sumB L (lcmB L k) k : Rat) := by rw [h4]; exact Rat.mul_pos hD hR
  have h9 : 0 < sumB L (lcmB L k) k := by exact_mod_cast h8
  have e : gainB L l k = Rat.divInt (((k - l : Nat) : Int) * lcmB L k) (sumB L (lcmB L k) k) := by
    rw [Rat.divInt_eq_div, h4, gainB, Rat.intCast_mul]
    have a1 : ((k - l : Nat) : Rat) / recT L k * recT L k = ((k - l : Nat) : Rat) := Rat.div_mul_cancel (by grind)
    have a2 : (lcmB L k : Rat) * recT L k ≠ 0 := by rw [h4] at h8; grind
    have a3 := Rat.mul_div_cancel (a := ((k - l : Nat) : Rat) / recT L k) a2
    rw [← a3]
    congr 1
    show _ = ((((k - l : Nat) : Int)) : Rat) * _
    have a4 : ((((k - l : Nat) : Int)) : Rat) = ((k - l : Nat) : Rat) := rfl
    rw [a4]
    grind
  refine ⟨by rw [e]; exact RBd.ofDivInt h9 (by omega) (by omega), ?_⟩
  rw [gainB, ← Rat.not_lt]
  intro hn
  rw [Rat.div_lt_iff hR, Rat.zero_mul] at hn
  have : (0 : Rat) ≤ ((k - l : Nat) : Rat) := by exact_mod_cast Nat.zero_le _
  grind
end Go.Proofs.YtefmioppamdceaaDoor

/- Inspect, the boxes' game: what the program returns, as lists. No program here. -/
namespace Go.Proofs.YtefmioppamdceaaDoor
open Go.RowKit Go.Shelf

/-- The worths in an order. -/
def wsBy (ws od : List Int) : List Int := od.map fun i => ith ws i.toNat
/-- A list of so many numbers, all 0, in which the first k of the order are laid. -/
def fillB (f : Int → Int) (od : List Int) (n : Nat) : Nat → List Int
  | 0 => List.replicate n 0
  | k + 1 => (fillB f od n k).set (ith od k).toNat (f (ith od k))
theorem fillB_length (f : Int → Int) (od : List Int) (n : Nat) : ∀ k, (fillB f od n k).length = n
  | 0 => by simp [fillB]
  | k + 1 => by rw [fillB, List.length_set]; exact fillB_length f od n k
theorem fillB_mem (f : Int → Int) (od : List Int) (n : Nat) : ∀ k x, x ∈ fillB f od n k → x = 0 ∨ ∃ i, i < k ∧ x = f (ith od i)
  | 0, x, h => by rw [fillB, List.mem_replicate] at h; exact .inl h.2
  | k + 1, x, h => by
    rw [fillB] at h
    rcases List.mem_or_eq_of_mem_set h with h | h
    · rcases fillB_mem f od n k x h with h | ⟨i, hi, h⟩
      · exact .inl h
      · exact .inr ⟨i, by omega, h⟩
    · exact .inr ⟨k, by omega, h⟩
structure SadB where
  v : Rat
  R : List Int
  rd : Int
  C : List Int
  cd : Int
def gainPart (ws : List Int) (D : Int) (i : Int) : Int := D.tdiv (ith ws i.toNat)
/-- What Boxes returns. -/
def boxOut (ws od : List Int) (l : Nat) : SadB :=
  if l = ws.length then ⟨0, (List.replicate ws.length 0).set 0 1, 1, List.replicate ws.length 1, 1⟩ else
    let L := wsBy ws od
    let u := (bestB L l ws.length).1
    let D := lcmB L u
    let S := sumB L D u
    let R := fillB (gainPart ws D) od ws.length u
    let C := fillB (fun i => S - ((u - l : Nat) : Int) * gainPart ws D i) od ws.length u
    ⟨(bestB L l ws.length).2, lowN S R, lowD S R, lowN S C, lowD S C⟩
theorem Order.length {ws od : List Int} (h : Order ws od) : od.length = ws.length := by rw [h.perm.length_eq, nums_length]
theorem Order.mem {ws od : List Int} (h : Order ws od) {k : Nat} (hk : k < ws.length) : 0 ≤ ith od k ∧ (ith od k).toNat < ws.length := by
  have h1 : ith od k ∈ od := by
    rw [ith, List.getD_eq_getElem?_getD, List.getElem?_eq_getElem (by rw [h.length]; exact hk)]
    exact List.getElem_mem _
  have h2 := h.perm.mem_iff.1 h1
  simp only [nums, List.mem_map, List.mem_range] at h2
  obtain ⟨a, ha, e⟩ := h2
  omega
theorem wsBy_at {ws od : List Int} (h : Order ws od) {k : Nat} (hk : k < ws.length) : (wsBy ws od).getD k 1 = ith ws (ith od k).toNat := by
  have hl := h.length
  simp [wsBy, List.getD_eq_getElem?_getD, ith, show k < od.length by omega]
theorem wsBy_over {ws od : List Int} (h : Order ws od) {k : Nat} (hk : ws.length ≤ k) : (wsBy ws od).getD k 1 = 1 := by
  have hl := h.length
  simp [wsBy, List.getD_eq_getElem?_getD, show od.length ≤ k by omega]
theorem wsBy_length {ws od : List Int} (h : Order ws od) : (wsBy ws od).length = ws.length := by rw [wsBy, List.length_map, h.length]
theorem ith_bd {ws : List Int} (hb : ∀ x ∈ ws, 1 ≤ x ∧ x ≤ 20) {k : Nat} (hk : k < ws.length) : 1 ≤ ith ws k ∧ ith ws k ≤ 20 := by
  rw [ith, List.getD_eq_getElem?_getD, List.getElem?_eq_getElem hk]
  exact hb _ (List.getElem_mem hk)
theorem Order.falls {ws od : List Int} (h : Order ws od) (hb : ∀ x ∈ ws, 1 ≤ x ∧ x ≤ 20) : Fall (wsBy ws od) := by
  refine ⟨fun i => ?_, fun i => ?_, fun i j hij hj => ?_⟩
  · by_cases hi : i < ws.length
    · rw [wsBy_at h hi]; exact (ith_bd hb (h.mem hi).2).1
    · rw [wsBy_over h (by omega)]; omega
  · by_cases hi : i < ws.length
    · rw [wsBy_at h hi]; exact (ith_bd hb (h.mem hi).2).2
    · rw [wsBy_over h (by omega)]; omega
  · rw [wsBy_length h] at hj
    rw [wsBy_at h hj, wsBy_at h (by omega)]
    by_cases e : i = j
    · rw [e]; omega
    · exact h.fall i j (by omega) hj
theorem fillB_one (n : Nat) : ∀ k, k ≤ n → fillB (fun _ => 1) (nums n) n k = List.replicate k 1 ++ List.replicate (n - k) 0
  | 0, _ => by simp [fillB]
  | k + 1, h => by
    rw [fillB, fillB_one n k (by omega), nums_at n k (by omega)]
    rw [List.set_append_right _ _ (by simp)]
    obtain ⟨m, hm⟩ : ∃ m, n - k = m + 1 := ⟨n - k - 1, by omega⟩
    rw [show n - (k + 1) = m by omega, hm]
    rw [show ((k : Int).toNat) - (List.replicate k (1 : Int)).length = 0 by simp, List.replicate_succ, List.set_cons_zero, List.replicate_succ', List.append_assoc]
    rfl
end Go.Proofs.YtefmioppamdceaaDoor

/- Inspect: the memo of seasons' worths: a map keyed by a struct of two numbers. -/
namespace Go.Proofs.YtefmioppamdceaaDoor
open Go.RowKit Go.Shelf Go.Maps

/-- A season as the program has it. -/
def seaV (d l : Nat) : Value := .agg #[.int .i64 d, .int .i64 l]
/-- What an entry of the memo reads as. -/
def ratD (n d : Int) : DataW Unit := .agg [.lit (.int .i64 n), .lit (.int .i64 d)]
open Classical in
noncomputable def ratR (v : Value) : Option (DataW Unit × List MemPlace) :=
  match v with
  | .agg c => match c.toList with
    | [a, b] => if a = .int .i64 (intOf a) ∧ b = .int .i64 (intOf b) then some (ratD (intOf a) (intOf b), []) else none
    | _ => none
  | _ => none
theorem ratR_inv {v : Value} {n d : Int} {ps : List MemPlace} (h : ratR v = some (ratD n d, ps)) : v = .agg #[.int .i64 n, .int .i64 d] := by
  unfold ratR at h
  split at h
  · rename_i c
    split at h
    · rename_i a b hc
      split at h
      · rename_i hab
        simp only [ratD, Option.some.injEq, Prod.mk.injEq, DataW.agg.injEq, List.cons.injEq, DataW.lit.injEq, Lit.int.injEq, true_and, and_true] at h
        rw [h.1.1, h.1.2] at hab
        rw [hab.1, hab.2] at hc
        have e : c = #[.int .i64 n, .int .i64 d] := by rw [← Array.toArray_toList (xs := c), hc]
        rw [e]
      · cases h
    · cases h
  · cases h
theorem laidI : laidOutB Tryd.prog = true := by kernel_rfl
theorem rowSea : (58 : TypeId) < Tryd.prog.types.size := of_decide_eq_true (by kernel_rfl)
theorem lawSea : Keyed Tryd.prog 58 := Keyed.of_law (deep_law_laid laidI (m := 2) (by omega) rowSea (by kernel_rfl) (by kernel_rfl))
theorem keysSea : ((List.range 15).all fun d => (List.range 15).all fun l => (keyOf Tryd.prog 58 (seaV d l)).isSome) = true := by kernel_rfl
theorem keySea (d l : Nat) (hd : d ≤ 14) (hl : l ≤ 14) : ∃ kl, keyOf Tryd.prog 58 (seaV d l) = some kl := by
  have h := keysSea
  rw [List.all_eq_true] at h
  have h1 := h d (List.mem_range.2 (by omega))
  rw [List.all_eq_true] at h1
  exact Option.isSome_iff_exists.1 (h1 l (List.mem_range.2 (by omega)))
/-- The memo: each of its entries is its season's worth. -/
def Memo (w : World) (m n : Nat) : Prop := ∃ D, w.ownsMap Tryd.prog 58 ratR m n D ∧
  ∀ d l kl, d ≤ 14 → l ≤ 14 → keyOf Tryd.prog 58 (seaV d l) = some kl → Maps.has D kl = true → ∀ z, D.atKey kl z = ratD (valR d l).num (valR d l).den
theorem Memo.new (w : World) : Memo (w.alloc (.map #[] 0)) w.heap.size 0 := ⟨_, World.ownsMap_made _ _ _ _, fun d l kl _ _ _ h => by cases h⟩
theorem Memo.kept {w w' : World} {m n : Nat} {row : Option Nat} (h : Memo w m n) (hg : w.grownBy w' row) (hne : some m ≠ row) : Memo w' m n := by
  obtain ⟨D, h1, h2⟩ := h
  exact ⟨D, h1.kept hg hne, h2⟩
theorem Memo.ext {w w' : World} {m n : Nat} (h : Memo w m n) (hx : Ext w w') : Memo w' m n := h.kept (hx.grown none) (by simp)
theorem Memo.mono {w : World} {m n k : Nat} (h : Memo w m n) (hk : n ≤ k) : Memo w m k := by
  obtain ⟨D, h1, h2⟩ := h
  exact ⟨D, h1.mono hk, h2⟩
theorem Memo.lt {w : World} {m n : Nat} (h : Memo w m n) : m < w.heap.size := by
  obtain ⟨D, h1, _⟩ := h
  exact h1.lt
theorem Memo.put {w : World} {m n d l : Nat} {D : DataW Unit} {kl : Lit} (hkl : keyOf Tryd.prog 58 (seaV d l) = some kl)
    (hm : IsMap D) (h2 : ∀ d l kl, d ≤ 14 → l ≤ 14 → keyOf Tryd.prog 58 (seaV d l) = some kl → Maps.has D kl = true → ∀ z, D.atKey kl z = ratD (valR d l).num (valR d l).den)
    (h1 : w.ownsMap Tryd.prog 58 ratR m n (D.put kl (ratD (valR d l).num (valR d l).den))) : Memo w m n := by
  refine ⟨_, h1, fun d' l' kl' hd' hl' hk' hh z => ?_⟩
  by_cases e : kl' = kl
  · subst e
    have ev := lawSea.inj hk' hkl
    have e1 : d' = d ∧ l' = l := by
      simp only [seaV, Value.agg.injEq, Array.mk.injEq, List.cons.injEq, Value.int.injEq, true_and, and_true] at ev
      omega
    rw [e1.1, e1.2]
    exact atKey_put_same hm (lawSea.key hkl) _ _
  · rw [has_put_other e] at hh
    rw [atKey_put_other e]
    exact h2 d' l' kl' hd' hl' hk' hh z
end Go.Proofs.YtefmioppamdceaaDoor
