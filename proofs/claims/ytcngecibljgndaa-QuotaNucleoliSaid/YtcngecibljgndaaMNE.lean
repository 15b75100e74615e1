/- The Talmud's division has Kohlberg's condition; plain. -/
import Derived.Test.YtcngecibljgndaaMQU
import Derived.Test.YtcngecibljgndaaMQCA
import Derived.Test.YtcngecibljgndaaMQPB
namespace Go.Proofs.Ytcngecibljgndaa
open Go.RowKit Go.Shelf

/-- Nobody has more than half of the claim; who has less than half has the most. -/
structure Lo (n : Nat) (c x : Nat → Int) (d : Int) : Prop where
  low : ∀ i, i < n → 0 ≤ x i ∧ 2 * x i ≤ c i * d
  most : ∀ i j, i < n → j < n → 2 * x i < c i * d → x j ≤ x i
def pS (n : Nat) (p : Nat → Bool) (y : Nat → Int) : Int := sm n fun r => if p r = true then y r else 0
theorem pS_rest (n : Nat) (p : Nat → Bool) (y : Nat → Int) : pS n (fun r => !p r) y = sm n y - pS n p y := by
  unfold pS
  rw [← sm_sub]
  refine sm_congr n (fun r _ => ?_)
  cases h : p r <;> simp [h]
theorem pS_le {n : Nat} {p : Nat → Bool} {y z : Nat → Int} (h : ∀ r, r < n → p r = true → y r ≤ z r) : pS n p y ≤ pS n p z := by
  refine sm_le n (fun r hr => ?_)
  by_cases e : p r = true
  · rw [if_pos e, if_pos e]; exact h r hr e
  · rw [if_neg e, if_neg e]; exact Int.le_refl _
theorem pS_ge {n : Nat} {p : Nat → Bool} {y : Nat → Int} (h : ∀ r, r < n → 0 ≤ y r) {i : Nat} (hi : i < n) (hp : p i = true) : y i ≤ pS n p y := by
  have h1 := sm_split (fun r => if p r = true then y r else 0) i n hi
  have h2 := sm_ge0 (f := fun m => if m = i then 0 else if p m = true then y m else 0) n (fun m hm => by
    split
    · exact Int.le_refl _
    · split
      · exact h m hm
      · exact Int.le_refl _)
  unfold pS
  rw [h1, if_pos hp]; omega
/-- The complement has as much excess, or all single ones have. -/
theorem Lo.cases {n : Nat} {c x : Nat → Int} {d : Int} (h : Lo n c x d) (p : Nat → Bool) :
    min (sm n x - pS n p x) (pS n p fun r => c r * d - x r) ≤ min (pS n p x) ((sm n fun r => c r * d - x r) - pS n p fun r => c r * d - x r) ∨ ∀ r, r < n → x r ≤ min (pS n p x) ((sm n fun r => c r * d - x r) - pS n p fun r => c r * d - x r) := by
  have h1 : sm n x - pS n p x ≤ (sm n fun r => c r * d - x r) - pS n p fun r => c r * d - x r := by
    rw [← pS_rest, ← pS_rest]
    exact pS_le (fun r hr _ => by have := h.low r hr; omega)
  have h2 : pS n p x ≤ pS n p fun r => c r * d - x r := pS_le (fun r hr _ => by have := h.low r hr; omega)
  by_cases hB : ((sm n fun r => c r * d - x r) - pS n p fun r => c r * d - x r) ≤ pS n p x
  · left; omega
  · by_cases hall : ∀ r, r < n → p r = true → 2 * x r = c r * d
    · left
      have h3 : (pS n p fun r => c r * d - x r) ≤ pS n p x := pS_le (fun r hr hp => by have := hall r hr hp; omega)
      omega
    · right
      obtain ⟨i, hi, hp, hlt⟩ : ∃ i, i < n ∧ p i = true ∧ 2 * x i < c i * d := Classical.byContradiction fun hno => hall fun r hr hp => Classical.byContradiction fun hne => hno ⟨r, hr, hp, by have := (h.low r hr).2; omega⟩
      have h4 := pS_ge (fun r hr => (h.low r hr).1) hi hp
      intro r hr
      have := h.most i r hi hr hlt
      omega
theorem getsV_pS (n : Nat) (y : Nat → Int) (s : Nat) : getsV n y (s : Int) = pS n (fun r => s.testBit r) y := by
  unfold getsV pS inB
  refine sm_congr n (fun r _ => ?_)
  rw [Int.toNat_natCast]
  split <;> simp
theorem pS_congr {n : Nat} {p q : Nat → Bool} {y : Nat → Int} (h : ∀ r, r < n → p r = q r) : pS n p y = pS n q y := sm_congr n (fun r hr => by rw [h r hr])
theorem rest_bit {n s r : Nat} (hs : s < 2 ^ n) (hr : r < n) : (2 ^ n - 1 - s).testBit r = !s.testBit r := by
  rw [show 2 ^ n - 1 - s = 2 ^ n - (s + 1) by omega, Nat.testBit_two_pow_sub_succ hs]
  simp [hr]
theorem getsV_rest {n s : Nat} (y : Nat → Int) (hs : s < 2 ^ n) : getsV n y ((2 ^ n - 1 - s : Nat) : Int) = sm n y - getsV n y (s : Int) := by
  rw [getsV_pS, getsV_pS, ← pS_rest]
  exact pS_congr (fun r hr => rest_bit hs hr)
theorem getsV_one {n r : Nat} (y : Nat → Int) (hr : r < n) : getsV n y ((2 ^ r : Nat) : Int) = y r := by
  rw [getsV_pS]
  unfold pS
  rw [sm_congr n (g := fun k => if k = r then y k else 0) (fun k _ => by
    show (if (2 ^ r).testBit k = true then y k else 0) = _
    rw [Nat.testBit_two_pow]
    by_cases e : k = r
    · subst e; simp
    · rw [if_neg (by simp; omega), if_neg e]), sm_one r y, if_pos hr]
/-- The excess by both sums. -/
structure MinOf (n : Nat) (c x : Nat → Int) (d : Int) (l : List Int) : Prop where
  len : l.length = 2 ^ n - 2
  exc : ∀ s, 1 ≤ s → s < 2 ^ n - 1 → ith l (s - 1) = - min (getsV n x (s : Int)) ((sm n fun r => c r * d - x r) - getsV n (fun r => c r * d - x r) (s : Int))
theorem pow_big {n r : Nat} (hn : 2 ≤ n) (hr : r < n) : 1 ≤ 2 ^ r ∧ 2 ^ r < 2 ^ n - 1 := by
  have h1 : 2 ^ r ≤ 2 ^ (n - 1) := Nat.pow_le_pow_right (by omega) (by omega)
  have h2 : 2 ^ n = 2 * 2 ^ (n - 1) := by rw [← Nat.pow_succ']; congr 1; omega
  have h3 : 2 ^ 1 ≤ 2 ^ (n - 1) := Nat.pow_le_pow_right (by omega) (by omega)
  have h4 : 1 ≤ 2 ^ r := Nat.pos_of_ne_zero (by simp)
  omega
theorem inB_nat (s r : Nat) : inB (s : Int) r = if s.testBit r = true then 1 else 0 := by unfold inB; rw [Int.toNat_natCast]
theorem isum_pick (n r : Nat) (hr : r < n) (q : Nat → Bool) : isum (((List.range n).filter q).map fun k => inB ((2 ^ k : Nat) : Int) r) = if q r = true then 1 else 0 := by
  have key : ∀ m, m ≤ n → isum (((List.range m).filter q).map fun k => inB ((2 ^ k : Nat) : Int) r) = if r < m ∧ q r = true then 1 else 0 := by
    intro m
    induction m with
    | zero => intro _; simp [isum_nil]
    | succ m ih =>
      intro hm
      rw [List.range_succ, List.filter_append, List.map_append, isum_append, ih (by omega)]
      by_cases hq : q m = true
      · simp only [List.filter_cons, hq, if_true, List.filter_nil, List.map_cons, List.map_nil, isum_cons, isum_nil, inB_nat, Nat.testBit_two_pow]
        by_cases e : m = r
        · subst e
          rw [if_neg (by omega), if_pos (by simp), if_pos ⟨by omega, hq⟩]; rfl
        · rw [if_neg (show ¬ decide (m = r) = true by simpa using e)]
          by_cases h2 : r < m ∧ q r = true
          · rw [if_pos h2, if_pos ⟨by omega, h2.2⟩]; rfl
          · rw [if_neg h2, if_neg (fun h3 => h2 ⟨by omega, h3.2⟩)]; rfl
      · have e0 : List.filter q [m] = [] := by simp [hq]
        rw [e0, List.map_nil, isum_nil, Int.add_zero]
        by_cases h2 : r < m ∧ q r = true
        · rw [if_pos h2, if_pos ⟨by omega, h2.2⟩]
        · rw [if_neg h2, if_neg (fun h3 => h2 ⟨by
            rcases Nat.lt_or_ge r m with h4 | h4
            · exact h4
            · exact absurd (by rw [show m = r by omega]; exact h3.2) hq, h3.2⟩)]
  rw [key n (Nat.le_refl _)]
  by_cases hq : q r = true
  · rw [if_pos ⟨hr, hq⟩, if_pos hq]
  · rw [if_neg (fun h => hq h.2), if_neg hq]
theorem Lo.levels {n : Nat} {c x : Nat → Int} {d : Int} {l : List Int} (hn : 2 ≤ n) (h : Lo n c x d) (hm : MinOf n c x d l) : levelsP n l (levelsOf l) [] := by
  refine KP_levels (fun j hj => ?_)
  have hl := hm.len
  have hs : j + 1 < 2 ^ n - 1 := by omega
  have e1 := hm.exc (j + 1) (by omega) hs
  rw [Nat.add_sub_cancel, getsV_pS, getsV_pS] at e1
  have e0 : ((j : Int) + 1) = ((j + 1 : Nat) : Int) := by omega
  rcases h.cases (fun r => (j + 1).testBit r) with hc | hc
  · -- the complement
    have e2 := hm.exc (2 ^ n - 1 - (j + 1)) (by omega) (by omega)
    rw [getsV_rest _ (by omega), getsV_rest _ (by omega), getsV_pS, getsV_pS] at e2
    refine ⟨[((j + 1 : Nat) : Int), ((2 ^ n - 1 - (j + 1) : Nat) : Int)], 1, by omega, by rw [e0]; simp, fun a ha => ?_, fun r hr => ?_⟩
    · simp only [List.mem_cons, List.not_mem_nil, or_false] at ha
      rcases ha with rfl | rfl
      · exact ⟨j, hj, by omega, Int.le_refl _⟩
      · refine ⟨2 ^ n - 1 - (j + 1) - 1, by omega, by omega, ?_⟩
        rw [e1, e2]; omega
    · simp only [List.map_cons, List.map_nil, isum_cons, isum_nil, inB_nat]
      rw [rest_bit (by omega) hr]
      cases (j + 1).testBit r <;> rfl
  · refine ⟨((j + 1 : Nat) : Int) :: ((List.range n).filter fun r => !(j + 1).testBit r).map fun k => ((2 ^ k : Nat) : Int), 1, by omega, by rw [e0]; simp, fun a ha => ?_, fun r hr => ?_⟩
    · rw [List.mem_cons, List.mem_map] at ha
      rcases ha with rfl | ⟨k, hk, rfl⟩
      · exact ⟨j, hj, by omega, Int.le_refl _⟩
      · rw [List.mem_filter, List.mem_range] at hk
        have hp := pow_big hn hk.1
        have e2 := hm.exc (2 ^ k) hp.1 hp.2
        rw [getsV_one _ hk.1] at e2
        refine ⟨2 ^ k - 1, by omega, by omega, ?_⟩
        have := hc k hk.1
        rw [e1, e2]; omega
    · rw [List.map_cons, isum_cons, List.map_map]
      have e3 := isum_pick n r hr (fun r => !(j + 1).testBit r)
      rw [show ((fun a => inB a r) ∘ fun k => ((2 ^ k : Nat) : Int)) = fun k => inB ((2 ^ k : Nat) : Int) r from rfl, e3, inB_nat]
      cases (j + 1).testBit r <;> rfl
theorem isum_pickN (n r : Nat) (hr : r < n) (q : Nat → Bool) (f : Nat → Int) (hf : ∀ k, k < n → f k = 1 - if k = r then 1 else 0) : isum (((List.range n).filter q).map f) = ((List.range n).filter q).length - if q r = true then 1 else 0 := by
  have key : ∀ m, m ≤ n → isum (((List.range m).filter q).map f) = ((List.range m).filter q).length - if r < m ∧ q r = true then 1 else 0 := by
    intro m
    induction m with
    | zero => intro _; simp [isum_nil]
    | succ m ih =>
      intro hm
      rw [List.range_succ, List.filter_append, List.map_append, isum_append, ih (by omega), List.length_append]
      by_cases hq : q m = true
      · have e0 : List.filter q [m] = [m] := by simp [hq]
        rw [e0, List.map_cons, List.map_nil, isum_cons, isum_nil, hf m (by omega)]
        by_cases e : m = r
        · subst e
          rw [if_neg (by omega), if_pos rfl, if_pos ⟨by omega, hq⟩]; simp
        · rw [if_neg e]
          by_cases h2 : r < m ∧ q r = true
          · rw [if_pos h2, if_pos ⟨by omega, h2.2⟩]; simp <;> omega
          · rw [if_neg h2, if_neg (fun h3 => h2 ⟨by omega, h3.2⟩)]; simp
      · have e0 : List.filter q [m] = [] := by simp [hq]
        rw [e0, List.map_nil, isum_nil, Int.add_zero]
        by_cases h2 : r < m ∧ q r = true
        · rw [if_pos h2, if_pos ⟨by omega, h2.2⟩]; simp
        · rw [if_neg h2, if_neg (fun h3 => h2 ⟨by
            rcases Nat.lt_or_ge r m with h4 | h4
            · exact h4
            · exact absurd (by rw [show m = r by omega]; exact h3.2) hq, h3.2⟩)]; simp
  rw [key n (Nat.le_refl _)]
  by_cases hq : q r = true
  · rw [if_pos ⟨hr, hq⟩, if_pos hq]
  · rw [if_neg (fun h => hq h.2), if_neg hq]
theorem Hi.levels {n : Nat} {c x : Nat → Int} {d : Int} {l : List Int} (hn : 2 ≤ n) (h : Lo n c (fun r => c r * d - x r) d) (hm : MinOf n c x d l) : levelsP n l (levelsOf l) [] := by
  refine KP_levels (fun j hj => ?_)
  have hl := hm.len
  have hs : j + 1 < 2 ^ n - 1 := by omega
  have e1 := hm.exc (j + 1) (by omega) hs
  rw [Nat.add_sub_cancel, getsV_pS, getsV_pS] at e1
  have e1 : ith l j = - min (pS n (j + 1).testBit x) ((sm n fun r => c r * d - x r) - pS n (j + 1).testBit fun r => c r * d - x r) := e1
  have e0 : ((j : Int) + 1) = ((j + 1 : Nat) : Int) := by omega
  have hcs := h.cases (fun r => !(j + 1).testBit r)
  have ey : (fun r => c r * d - (c r * d - x r)) = x := by funext r; omega
  rw [ey, pS_rest, pS_rest] at hcs
  rcases hcs with hc | hc
  · -- the complement
    have e2 := hm.exc (2 ^ n - 1 - (j + 1)) (by omega) (by omega)
    rw [getsV_rest _ (by omega), getsV_rest _ (by omega), getsV_pS, getsV_pS] at e2
    have e2 : ith l (2 ^ n - 1 - (j + 1) - 1) = - min (sm n x - pS n (j + 1).testBit x) ((sm n fun r => c r * d - x r) - ((sm n fun r => c r * d - x r) - pS n (j + 1).testBit fun r => c r * d - x r)) := e2
    refine ⟨[((j + 1 : Nat) : Int), ((2 ^ n - 1 - (j + 1) : Nat) : Int)], 1, by omega, by rw [e0]; simp, fun a ha => ?_, fun r hr => ?_⟩
    · simp only [List.mem_cons, List.not_mem_nil, or_false] at ha
      rcases ha with rfl | rfl
      · exact ⟨j, hj, by omega, Int.le_refl _⟩
      · refine ⟨2 ^ n - 1 - (j + 1) - 1, by omega, by omega, ?_⟩
        rw [e1, e2]; omega
    · simp only [List.map_cons, List.map_nil, isum_cons, isum_nil, inB_nat]
      rw [rest_bit (by omega) hr]
      cases (j + 1).testBit r <;> rfl
  · -- all but one
    have hone : ∃ r, r < n ∧ (j + 1).testBit r = true := by
      obtain ⟨r, hr⟩ := Nat.exists_testBit_of_ne_zero (x := j + 1) (by omega)
      refine ⟨r, Classical.byContradiction fun hn2 => ?_, hr⟩
      have h4 : 2 ^ n ≤ 2 ^ r := Nat.pow_le_pow_right (by omega) (by omega)
      rw [Nat.testBit_lt_two_pow (by omega)] at hr
      cases hr
    obtain ⟨K, hK⟩ : ∃ K, K = ((List.range n).filter fun r => (j + 1).testBit r).length := ⟨_, rfl⟩
    have hK0 : 0 < K := by
      obtain ⟨r, h1, h2⟩ := hone
      rw [hK]
      exact List.length_pos_of_mem (List.mem_filter.2 ⟨List.mem_range.2 h1, h2⟩)
    refine ⟨((j + 1 : Nat) : Int) :: ((List.range n).filter fun r => (j + 1).testBit r).map fun k => ((2 ^ n - 1 - 2 ^ k : Nat) : Int), K, by omega, by rw [e0]; simp, fun a ha => ?_, fun r hr => ?_⟩
    · rw [List.mem_cons, List.mem_map] at ha
      rcases ha with rfl | ⟨k, hk, rfl⟩
      · exact ⟨j, hj, by omega, Int.le_refl _⟩
      · rw [List.mem_filter, List.mem_range] at hk
        have hp := pow_big hn hk.1
        have e2 := hm.exc (2 ^ n - 1 - 2 ^ k) (by omega) (by omega)
        rw [getsV_rest _ (by omega), getsV_rest _ (by omega), getsV_one _ hk.1, getsV_one _ hk.1] at e2
        refine ⟨2 ^ n - 1 - 2 ^ k - 1, by omega, by omega, ?_⟩
        have := hc k hk.1
        rw [e1, e2]; omega
    · rw [List.map_cons, isum_cons, List.map_map]
      have e3 := isum_pickN n r hr (fun r => (j + 1).testBit r) (fun k => inB ((2 ^ n - 1 - 2 ^ k : Nat) : Int) r) (fun k hk => by
        have hp := pow_big hn hk
        rw [inB_nat, rest_bit (by omega) hr, Nat.testBit_two_pow]
        by_cases e : k = r
        · subst e; simp
        · rw [if_neg e]; simp [e])
      rw [show ((fun a => inB a r) ∘ fun k => ((2 ^ n - 1 - 2 ^ k : Nat) : Int)) = fun k => inB ((2 ^ n - 1 - 2 ^ k : Nat) : Int) r from rfl, e3, inB_nat, ← hK]
      cases (j + 1).testBit r <;> simp <;> omega
end Go.Proofs.Ytcngecibljgndaa

/- Nucleolus says yes exactly of the Talmud's shares; plain. -/
namespace Go.Proofs.Ytcngecibljgndaa
open Go.RowKit Go.Shelf

theorem sm_isum (n : Nat) (f : Nat → Int) : sm n f = isum ((List.range n).map f) := by
  induction n with
  | zero => simp [sm, isum_nil]
  | succ n ih => rw [sm, ih, List.range_succ, List.map_append, isum_append]; simp [isum_cons, isum_nil]
theorem setP_sm (l : List Int) (s : Nat) : ∀ k, setP l s k = sm k fun r => if s.testBit r = true then ith l r else 0
  | 0 => rfl
  | k + 1 => by rw [setP, sm, setP_sm l s k]
theorem setP_gets (l : List Int) (s n : Nat) : setP l s n = getsV n (ith l) (s : Int) := by
  rw [getsV_pS, setP_sm]; rfl
theorem takeP_setP (a : Int) (l : List Int) (s : Nat) : ∀ k, takeP a l s k = a - setP l s k
  | 0 => by simp [takeP, setP]
  | k + 1 => by
    rw [takeP, setP, takeP_setP a l s k]
    split <;> omega
theorem isum_sm (l : List Int) : isum l = sm l.length (ith l) := by rw [sm_isum]; exact isum_eq_range l
theorem exc_at (E : Int) (xs l : List Int) (d : Int) (hl : l.length = xs.length) {s : Nat} (h1 : 1 ≤ s) (h2 : s < 2 ^ xs.length - 1) :
    ith (excP E xs l d) (s - 1) = max (E - isum xs + getsV xs.length (ith xs) (s : Int)) 0 * d - getsV xs.length (ith l) (s : Int) := by
  unfold excP
  rw [ith_map_range _ _ _ (by omega), show s - 1 + 1 = s by omega, takeP_setP, hl, setP_gets, gameP, ith_map_range _ _ _ (by omega), leftP_setP, setP_gets, ← isum_eq_range]
theorem getsV_scale (n : Nat) (c x : Nat → Int) (d s : Int) : getsV n (fun r => c r * d - x r) s = getsV n c s * d - getsV n x s := by
  unfold getsV
  rw [Int.mul_comm _ d, ← sm_mul, ← sm_sub]
  exact sm_congr n (fun r _ => by grind)
theorem sm_scale (n : Nat) (c x : Nat → Int) (d : Int) : (sm n fun r => c r * d - x r) = sm n c * d - sm n x := by
  rw [Int.mul_comm _ d, ← sm_mul, ← sm_sub]
  exact sm_congr n (fun r _ => by grind)
theorem exc_len (E : Int) (xs l : List Int) (d : Int) : (excP E xs l d).length = 2 ^ xs.length - 2 := by simp [excP]
/-- The excesses of shares. -/
theorem exc_of {E : Int} {xs l : List Int} {d : Int} (hd : 0 < d) (hl : l.length = xs.length) (hs : isum l = E * d) : ExcOf xs.length (fun j => max (E - isum xs + getsV xs.length (ith xs) ((j : Int) + 1)) 0) E (ith l) d (excP E xs l d) := by
  refine ⟨hd, by rw [← hl, ← isum_sm, hs], fun j hj => ?_⟩
  rw [exc_len] at hj
  have := exc_at E xs l d hl (s := j + 1) (by omega) (by omega)
  rw [Nat.add_sub_cancel] at this
  rw [this]; rfl
theorem min_of {E : Int} {xs l : List Int} {d : Int} (hd : 0 < d) (hl : l.length = xs.length) (hs : isum l = E * d) : MinOf xs.length (ith xs) (ith l) d (excP E xs l d) := by
  refine ⟨exc_len E xs l d, fun s h1 h2 => ?_⟩
  rw [exc_at E xs l d hl h1 h2, getsV_scale, sm_scale, ← isum_sm, ← hl, ← isum_sm, hs, hl]
  generalize getsV xs.length (ith xs) (s : Int) = g
  generalize getsV xs.length (ith l) (s : Int) = x
  generalize isum xs = C
  rcases Int.le_total 0 (E - C + g) with h | h
  · have h3 := Int.mul_nonneg h (show 0 ≤ d by omega)
    rw [Int.max_eq_left h]
    have e : (E - C + g) * d = E * d - C * d + g * d := by grind
    rw [e] at h3 ⊢
    omega
  · have h3 := Int.mul_nonpos_of_nonpos_of_nonneg h (show 0 ≤ d by omega)
    rw [Int.max_eq_right h]
    have e : (E - C + g) * d = E * d - C * d + g * d := by grind
    rw [e] at h3
    omega
/-- The Talmud's numbers. -/
theorem talmud_levels {E : Int} {xs : List Int} (h : IsProb E xs) (hn : 2 ≤ xs.length) {l : List Int} {d : Int} (hS : IsSh E xs l d) (ht : ∀ i, i < xs.length → ith l i * (talmudP E xs).2 = ith (talmudP E xs).1 i * d) : levelsP xs.length (excP E xs l d) (levelsOf (excP E xs l d)) [] := by
  have hm := min_of (by have := hS.den; omega) hS.len hS.sum
  have hd : 0 < d := by have := hS.den; omega
  have h0 : ∀ x ∈ xs, 0 ≤ x := fun x hx => (h.claims x hx).1
  have hE := h.estate
  have he := h.enough
  unfold talmudP at ht
  by_cases hc : 2 * E ≤ isum xs
  · rw [if_pos hc] at ht
    obtain ⟨m, L, hq⟩ := equal_is h0 (show 0 ≤ 2 * E by omega) hc
    rw [hq.val] at ht
    simp only [] at ht
    have hm1 := hq.den
    refine Lo.levels hn ⟨fun i hi => ⟨(hS.num i hi).1, ?_⟩, fun i j hi hj hlt => ?_⟩ hm
    · have := ht i hi
      rw [ith_map _ _ _ hi] at this
      have h1 : min (ith xs i * m) L * d ≤ ith xs i * m * d := Int.mul_le_mul_of_nonneg_right (by omega) (by omega)
      refine Int.le_of_mul_le_mul_right (a := m) ?_ (by omega)
      grind
    · have t1 := ht i hi
      have t2 := ht j hj
      rw [ith_map _ _ _ hi] at t1
      rw [ith_map _ _ _ hj] at t2
      have h1 : L ≤ ith xs i * m := by
        rcases Int.lt_or_le (ith xs i * m) L with h2 | h2
        · exfalso
          rw [Int.min_eq_left (by omega)] at t1
          have h3 := Int.mul_lt_mul_of_pos_right hlt (show 0 < m by omega)
          grind
        · exact h2
      rw [Int.min_eq_right h1] at t1
      have h4 : min (ith xs j * m) L * d ≤ L * d := Int.mul_le_mul_of_nonneg_right (by omega) (by omega)
      refine Int.le_of_mul_le_mul_right (a := 2 * m) ?_ (by omega)
      omega
  · rw [if_neg hc] at ht
    obtain ⟨m, L, hq⟩ := equal_is h0 (show 0 ≤ 2 * (isum xs - E) by omega) (show 2 * (isum xs - E) ≤ isum xs by omega)
    rw [hq.val] at ht
    simp only [] at ht
    have hm1 := hq.den
    have hy : ∀ i, i < xs.length → (ith xs i * d - ith l i) * (2 * m) = min (ith xs i * m) L * d := fun i hi => by
      have := ht i hi
      rw [lessOf_at _ _ _ _ hi, ith_map _ _ _ hi] at this
      grind
    refine Hi.levels hn ⟨fun i hi => ⟨by have := (hS.num i hi).2; omega, ?_⟩, fun i j hi hj hlt => ?_⟩ hm
    · have t1 := hy i hi
      have h1 : min (ith xs i * m) L * d ≤ ith xs i * m * d := Int.mul_le_mul_of_nonneg_right (by omega) (by omega)
      refine Int.le_of_mul_le_mul_right (a := m) ?_ (by omega)
      grind
    · have t1 := hy i hi
      have t2 := hy j hj
      have h1 : L ≤ ith xs i * m := by
        rcases Int.lt_or_le (ith xs i * m) L with h2 | h2
        · exfalso
          rw [Int.min_eq_left (by omega)] at t1
          have h3 := Int.mul_lt_mul_of_pos_right hlt (show 0 < m by omega)
          grind
        · exact h2
      rw [Int.min_eq_right h1] at t1
      have h4 : min (ith xs j * m) L * d ≤ L * d := Int.mul_le_mul_of_nonneg_right (by omega) (by omega)
      refine Int.le_of_mul_le_mul_right (a := 2 * m) ?_ (by omega)
      omega
theorem low_times {p : List Int × Int} (hd : 0 < p.2) : ∃ g : Int, 0 < g ∧ p.2 = g * (lowP p).2 ∧ ∀ i, i < p.1.length → ith p.1 i = g * ith (lowP p).1 i := by
  obtain ⟨h1, h2⟩ := gcdL_dvd p.2 p.1
  have h3 := gcdL_bounds p.1 hd
  refine ⟨gcdL p.2 p.1, by omega, ?_, fun i hi => ?_⟩
  · show p.2 = (gcdL p.2 p.1 : Int) * (p.2 / gcdL p.2 p.1)
    exact (Int.mul_ediv_cancel' h1).symm
  · show _ = (gcdL p.2 p.1 : Int) * ith (p.1.map (· / (gcdL p.2 p.1 : Int))) i
    rw [ith_map _ _ _ hi]
    refine (Int.mul_ediv_cancel' (h2 _ ?_)).symm
    rw [ith_get _ hi]
    exact List.getElem_mem _
/-- Nucleolus by weights says yes exactly of the Talmud's shares. -/
theorem nuc_law {E : Int} {xs : List Int} (h : IsProb E xs) (hn : 2 ≤ xs.length) {l : List Int} {d : Int} (hS : IsSh E xs l d) : levelsP xs.length (excP E xs l d) (levelsOf (excP E xs l d)) [] ↔ ∀ i, i < xs.length → ith l i * (talmudP E xs).2 = ith (talmudP E xs).1 i * d := by
  refine ⟨fun hp i hi => ?_, talmud_levels h hn hS⟩
  have hr : Shares E xs (talmudP E xs) := rule_shares (rule := 3) h
  have hT := low_is hr
  obtain ⟨g, hg, g1, g2⟩ := low_times (p := talmudP E xs) (by have := hr.den; omega)
  have hlen : (talmudP E xs).1.length = xs.length := hr.len
  have hL := talmud_levels h hn hT (fun i hi => by rw [g1, g2 i (by omega)]; grind)
  have hd := hS.den
  have htd := hT.den
  have hsame := (levels_KP hp).same (exc_of (by omega) hS.len hS.sum) (exc_of (by omega) hT.len hT.sum) (by rw [exc_len, exc_len]) (levels_KP hL)
  have hpw := pow_big hn hi
  have h1 := hsame (2 ^ i - 1) (by rw [exc_len]; omega)
  rw [exc_at E xs l d hS.len hpw.1 hpw.2, exc_at E xs _ _ hT.len hpw.1 hpw.2, getsV_one _ hi, getsV_one _ hi, getsV_one _ hi] at h1
  rw [g1, g2 i (by omega)]
  have h2 : ith l i * (lowP (talmudP E xs)).2 = ith (lowP (talmudP E xs)).1 i * d := by grind
  grind
end Go.Proofs.Ytcngecibljgndaa
