/- Share: the rules as functions on data, and the walk. -/
import Derived.Test.YtcngecibljgndaaMQD
import Derived.Test.YtcngecibljgndaaMQS
namespace Go.Proofs.Ytcngecibljgndaa
open Go.RowKit Go.Shelf

/-- How many of the first k have not come. -/
def wait (came : List Bool) (k : Nat) : Nat := ((List.range k).filter fun i => !bth came i).length
theorem wait_succ (came : List Bool) (k : Nat) : wait came (k + 1) = wait came k + if bth came k = true then 0 else 1 := by
  unfold wait
  rw [List.range_succ, List.filter_append, List.length_append]
  cases h : bth came k <;> simp [h]
theorem wait_set (came : List Bool) (i : Nat) (hi : i < came.length) (h : bth came i = false) : ∀ k, wait (came.set i true) k + (if i < k then 1 else 0) = wait came k
  | 0 => by simp [wait]
  | k + 1 => by
    have := wait_set came i hi h k
    rw [wait_succ, wait_succ, bth_set _ _ _ _ hi]
    by_cases e : k = i
    · subst e
      rw [if_pos rfl, h]
      simp at this ⊢
      exact this
    · rw [if_neg e]
      by_cases h2 : i < k
      · rw [if_pos h2] at this
        rw [if_pos (show i < k + 1 by omega)]
        omega
      · rw [if_neg h2] at this
        rw [if_neg (show ¬ i < k + 1 by omega)]
        omega
def fact : Nat → Nat
  | 0 => 1
  | n + 1 => (n + 1) * fact n
theorem fact_pos : ∀ n, 0 < fact n
  | 0 => by simp [fact]
  | n + 1 => Nat.mul_pos (by omega) (fact_pos n)
theorem next_ord (xs : List Int) : ∀ (f : Nat) (left : Int) (came : List Bool) (st : St), came.length = xs.length → wait came xs.length = f → (nextP xs f left came st).ord = st.ord + fact f
  | 0, left, came, st, _, _ => by simp [nextP, fact]
  | f + 1, left, came, st, hl, hw => by
    have key : ∀ k, k ≤ xs.length → ((List.range k).foldl (stepP (nextP xs f) xs left came) st).ord = st.ord + wait came k * fact f := by
      intro k
      induction k with
      | zero => intro _; simp [wait]
      | succ k ih =>
        intro hk
        have ih := ih (by omega)
        rw [foldl_range_succ]
        generalize (List.range k).foldl (stepP (nextP xs f) xs left came) st = s at *
        unfold stepP
        by_cases hc : bth came k = true
        · rw [if_pos hc, ih, wait_succ, if_pos hc]; simp
        · rw [if_neg hc]
          have hcf : bth came k = false := by simpa using hc
          have hws := wait_set came k (by omega) hcf xs.length
          rw [if_pos (by omega), hw] at hws
          rw [next_ord xs f _ _ _ (by simpa using hl) (by omega), wait_succ, if_neg hc]
          simp only []
          rw [ih, Int.natCast_add, Int.add_mul]
          simp
          omega
    have := key xs.length (Nat.le_refl _)
    rw [hw] at this
    show ((List.range xs.length).foldl (stepP (nextP xs f) xs left came) st).ord = _
    rw [this, fact]
    simp
theorem inTurn_ord (E : Int) (xs : List Int) : (inTurnP E xs).2 = fact xs.length := by
  have h : wait (List.replicate xs.length false) xs.length = xs.length := by
    have : ∀ k, k ≤ xs.length → wait (List.replicate xs.length false) k = k := by
      intro k
      induction k with
      | zero => intro _; simp [wait]
      | succ k ih =>
        intro hk
        rw [wait_succ, ih (by omega)]
        simp [bth, show k < xs.length by omega]
    exact this _ (Nat.le_refl _)
  unfold inTurnP
  simp only []
  rw [next_ord xs _ _ _ _ (by simp) h]
  simp

/-- What a rule of the program gives: numbers, and what they are divided by. -/
def ruleP (rule E : Int) (xs : List Int) : List Int × Int :=
  if rule = 0 then equalP E xs
  else if rule = 1 then (lessOf xs (equalP (isum xs - E) xs).2 (equalP (isum xs - E) xs).1, (equalP (isum xs - E) xs).2)
  else if rule = 2 then (xs.map (· * E), max (isum xs) 1)
  else if rule = 3 then talmudP E xs
  else inTurnP E xs
/-- In lowest terms. -/
def lowP (p : List Int × Int) : List Int × Int := (p.1.map (· / (gcdL p.2 p.1 : Int)), p.2 / gcdL p.2 p.1)
def shareP (rule E : Int) (xs : List Int) : Option (List Int × Int) := if probB E xs = true ∧ 0 ≤ rule ∧ rule ≤ 4 then some (lowP (ruleP rule E xs)) else none

theorem lessOf_length (xs l : List Int) (c : Int) : (lessOf xs c l).length = xs.length := by simp [lessOf]
theorem lessOf_at (xs l : List Int) (c : Int) (k : Nat) (h : k < xs.length) : ith (lessOf xs c l) k = ith xs k * c - ith l k := ith_map_range _ _ _ h
theorem ith_map (f : Int → Int) (xs : List Int) (k : Nat) (h : k < xs.length) : ith (xs.map f) k = f (ith xs k) := by simp [ith, h]
/-- What a rule gives lies between nothing and the claims, times the divisor. -/
structure RuleOk (xs : List Int) (p : List Int × Int) : Prop where
  len : p.1.length = xs.length
  den : 1 ≤ p.2 ∧ p.2 ≤ 100000000
  num : ∀ k, k < xs.length → 0 ≤ ith p.1 k ∧ ith p.1 k ≤ 100000000000
theorem equal_ok {E : Int} {xs : List Int} (h : IsProb E xs) {F : Int} (hF : 0 ≤ F) : RuleOk xs (equalP F xs) := by
  obtain ⟨h1, h2, h3⟩ := equalP_bounds h.claims h.seven h.one hF
  refine ⟨h2, by omega, fun k hk => ?_⟩
  have h4 := h3 k hk
  have h5 := h.claims.at_ k hk
  have : ith xs k * (equalP F xs).2 ≤ 100000 * 7 := Int.mul_le_mul h5.2 h1.2 (by omega) (by omega)
  omega
theorem less_ok {E : Int} {xs : List Int} (h : IsProb E xs) {F m : Int} (hF : 0 ≤ F) (hm : 1 ≤ m ∧ m ≤ 2) : RuleOk xs (lessOf xs (m * (equalP F xs).2) (equalP F xs).1, m * (equalP F xs).2) := by
  obtain ⟨h1, h2, h3⟩ := equalP_bounds h.claims h.seven h.one hF
  have hmm : (equalP F xs).2 ≤ m * (equalP F xs).2 ∧ m * (equalP F xs).2 ≤ 14 := by
    obtain rfl | rfl : m = 1 ∨ m = 2 := by omega
    · omega
    · omega
  refine ⟨lessOf_length _ _ _, ⟨by simp only []; omega, by simp only []; omega⟩, fun k hk => ?_⟩
  have h4 := h3 k hk
  have h5 := h.claims.at_ k hk
  have h6 : ith xs k * (m * (equalP F xs).2) ≤ 100000 * 14 := Int.mul_le_mul h5.2 hmm.2 (by omega) (by omega)
  have h7 : ith xs k * (equalP F xs).2 ≤ ith xs k * (m * (equalP F xs).2) := Int.mul_le_mul_of_nonneg_left hmm.1 h5.1
  simp only []
  rw [lessOf_at _ _ _ _ hk]
  omega
theorem rule_ok {rule E : Int} {xs : List Int} (h : IsProb E xs) : RuleOk xs (ruleP rule E xs) := by
  have hE := h.estate
  have hs := h.enough
  have hm := h.claims.isum
  have hl := h.seven
  unfold ruleP
  split
  · exact equal_ok h hE.1
  split
  · have := less_ok h (F := isum xs - E) (m := 1) (by omega) (by omega)
    simpa using this
  split
  · refine ⟨by simp, ⟨by simp only []; omega, by simp only []; omega⟩, fun k hk => ?_⟩
    have h5 := h.claims.at_ k hk
    simp only []
    rw [ith_map _ _ _ hk]
    have h6 : ith xs k * E ≤ 100000 * 100000 := Int.mul_le_mul h5.2 hE.2 (by omega) (by omega)
    have h7 : 0 ≤ ith xs k * E := Int.mul_nonneg h5.1 hE.1
    omega
  split
  · unfold talmudP
    split
    · have := equal_ok h (F := 2 * E) (by omega)
      exact ⟨this.len, by have := (equalP_bounds h.claims h.seven h.one (show 0 ≤ 2 * E by omega)).1; simp only []; omega, this.num⟩
    · exact less_ok h (F := 2 * (isum xs - E)) (m := 2) (by omega) (by omega)
  · have ho := inTurn_ord E xs
    have hok := (next_ok xs h.claims h.seven xs.length E (List.replicate xs.length false) ⟨List.replicate xs.length 0, List.replicate xs.length 0, 0⟩ 0 hE.1 ⟨by simp, by simp, fun k hk => by simp [ith, hk], fun k hk => by simp [ith, hk], by simp⟩).1
    have h7 : (7 : Int) ^ xs.length ≤ 7 ^ 7 := by
      have : 7 ^ xs.length ≤ 7 ^ 7 := Nat.pow_le_pow_right (by omega) hl
      exact_mod_cast this
    have h8 := hok.ordIn.2
    have e : (inTurnP E xs).2 = (nextP xs xs.length E (List.replicate xs.length false) ⟨List.replicate xs.length 0, List.replicate xs.length 0, 0⟩).ord := rfl
    have hp := fact_pos xs.length
    refine ⟨hok.out, by omega, fun k hk => ?_⟩
    have h9 := hok.outIn k hk
    have e2 : (inTurnP E xs).1 = (nextP xs xs.length E (List.replicate xs.length false) ⟨List.replicate xs.length 0, List.replicate xs.length 0, 0⟩).out := rfl
    rw [e2]
    omega

/-- What Share returns. -/
def Parted (w : World) (p : Option (List Int × Int)) (e : Ending) (w' : World) : Prop :=
  (p = none ∧ e = .returned (.tuple #[.agg #[.slice none 0 0, .int .i64 0], .int .i64 2]) ∧ Ext w w') ∨
  ∃ q v, p = some q ∧ e = .returned (.tuple #[.agg #[v, .int .i64 q.2], .int .i64 0]) ∧ Own w' w.heap.size 1 v (ints q.1) ∧ Ext w w'

/-- A place for Parts. -/
structure Spot (w : World) (b : Nat) : Prop where
  lt : b < w.heap.size
  some0 : (w.cell? ⟨b, 0, none⟩).isSome = true
  some1 : (w.cell? ⟨b, 1, none⟩).isSome = true
  free0 : w.frozen? ⟨b, 0, none⟩ = false
  free1 : w.frozen? ⟨b, 1, none⟩ = false
theorem Spot.ext {w w' : World} {b : Nat} (h : Spot w b) (hx : Ext w w') : Spot w' b :=
  ⟨Nat.lt_of_lt_of_le h.lt hx.size, by rw [hx.cell h.lt]; exact h.some0, by rw [hx.cell h.lt]; exact h.some1, by rw [hx.frozen h.lt]; exact h.free0, by rw [hx.frozen h.lt]; exact h.free1⟩
theorem Spot.new (w : World) (t : TypeId) (u v : Value) : Spot (w.alloc (.cells #[u, v] t)) w.heap.size :=
  ⟨by simp, by simp [go_sem], by simp [go_sem], by simp [go_sem], by simp [go_sem]⟩
theorem Spot.put {w : World} {b : Nat} (h : Spot w b) (u v : Value) : ((w.setCell ⟨b, 0, none⟩ u).setCell ⟨b, 1, none⟩ v).cell? ⟨b, 0, none⟩ = some u ∧ ((w.setCell ⟨b, 0, none⟩ u).setCell ⟨b, 1, none⟩ v).cell? ⟨b, 1, none⟩ = some v := by
  obtain ⟨x, hx⟩ := Option.isSome_iff_exists.1 h.some0
  obtain ⟨y, hy⟩ := Option.isSome_iff_exists.1 h.some1
  constructor
  · rw [World.cell?_setCell_other _ _ _ _ (by simp)]; exact World.cell?_setCell_same _ _ _ hx
  · exact World.cell?_setCell_same _ _ _ (by rw [World.cell?_setCell_other _ _ _ _ (by simp)]; exact hy)

set_option maxRecDepth 100000 in
set_option maxHeartbeats 4000000 in
theorem share_calls (w : World) (rule E : Int) (ao : Option Addr) (cap : Nat) (xs : List Int) (hI : IntsIn w ao xs) (hl : xs.length ≤ 1000000) :
    Calls Try.prog 22 #[.int .i64 rule, .int .i64 E, .slice ao xs.length cap] w (Parted w (shareP rule E xs)) := by
  go_enter Try.func22, Try.ntmps22
  go_wp2_with fail
  obtain ⟨R, hR⟩ : ∃ R, R = w.heap.size := ⟨_, rfl⟩
  have hs1 := Spot.new w 26 (.slice none 0 0) (.int .i64 0)
  have hx1 : Ext w (w.alloc (.cells #[.slice none 0 0, .int .i64 0] 26)) := (by repeat (first | exact Ext.refl _ | assumption | refine Ext.alloc ?_ _ | refine Ext.drewN ?_ _ | refine Ext.drew ?_))
  generalize (w.alloc (.cells #[.slice none 0 0, .int .i64 0] 26)) = w1 at *
  rw [← hR] at hs1 ⊢
  have hRw : w.heap.size ≤ R := by omega
  clear hR
  refine (problem_calls _ E ao cap xs (hI.ext hx1) hl).mono ?_
  rintro e w2 ⟨rfl, hx2⟩
  have hx02 := hx1.trans hx2
  cases hp : probB E xs with
  | false =>
    have HN := Lib.hid (show shareP rule E xs = none by simp [shareP, hp])
    clear hp
    simp only [errI]
    have hsb := (hs1.ext hx2)
    obtain ⟨c0, hc0⟩ := Option.isSome_iff_exists.1 hsb.some0
    obtain ⟨c1, hc1⟩ := Option.isSome_iff_exists.1 hsb.some1
    have hf0 := hsb.free0
    have hf1 := hsb.free1
    go_wp2_with fail
    obtain ⟨q0, q1⟩ := hsb.put (.slice none 0 0) (.int .i64 0)
    refine bodyPost_ret (v := .tuple #[.agg #[.slice none 0 0, .int .i64 0], .int .i64 2]) (by simp [results, Try.results22, go_sem, q0, q1]) rfl ?_
    exact .inl ⟨HN.out, rfl, (hx02.setOwn _ _ hRw).setOwn _ _ hRw⟩
  | true =>
    have hP := (probB_true E xs).1 hp
    have hE := hP.estate
    have hL := hP.seven
    have hm := hP.claims.isum
    have he := hP.enough
    have HP := Lib.hid hP
    have HK : Hid (RuleOk xs (ruleP rule E xs)) := Lib.hid (rule_ok hP)
    have hs2 := hs1.ext hx2
    clear hP
    simp only [errI]
    by_cases h0 : rule = 0
    · subst h0
      have HS := Lib.hid (show shareP 0 E xs = some (lowP (ruleP 0 E xs)) by simp [shareP, hp])
      have er : ruleP 0 E xs = equalP E xs := by simp [ruleP]
      clear hp
      go_wp2_with fail
      refine (equal_calls sorts _ E ao cap xs (hI.ext hx02) hL HP.out.one HP.out.claims (by omega)).mono ?_
      rintro e w3 ⟨v, rfl, ho, hx3⟩
      rw [← er] at ho ⊢
      have hx03 := hx02.trans hx3
      have hs3 := hs2.ext hx3
      clear er
      obtain ⟨so, sc, rfl, hSI, -⟩ := ho.intsShape
      clear ho
      have hlc := fun w (h : IntsIn w so (ruleP 0 E xs).1) => lowest_calls w so sc (ruleP 0 E xs).1 (ruleP 0 E xs).2 h (by rw [HK.out.len]; omega) (by have := HK.out.den; omega) (fun k hk => by have := HK.out.num k (by rw [← HK.out.len]; exact hk); omega)
      rw [HK.out.len] at hlc ⊢
      have hden := HK.out.den
      obtain ⟨p, hp⟩ : ∃ p, p = ruleP 0 E xs := ⟨_, rfl⟩
      rw [← hp] at hlc hSI hden ⊢
      have HPP := Lib.hid hp
      clear hp
      go_wp2_with fail
      refine (hlc _ hSI).mono ?_
      rintro e w9 ⟨v, rfl, ho, hx9⟩
      have hx09 := hx03.trans hx9
      have hsb := hs3.ext hx9
      obtain ⟨vo, vn, vc, rfl, -⟩ := ho.shapeCap
      obtain ⟨c0, hc0⟩ := Option.isSome_iff_exists.1 hsb.some0
      obtain ⟨c1, hc1⟩ := Option.isSome_iff_exists.1 hsb.some1
      have hf0 := hsb.free0
      have hf1 := hsb.free1
      have hR3 := hs3.lt
      go_wp2_with fail
      obtain ⟨q0, q1⟩ := hsb.put (.slice vo vn vc) (.int .i64 (p.2 / gcdL p.2 p.1))
      refine bodyPost_ret (v := .tuple #[.agg #[.slice vo vn vc, .int .i64 (p.2 / gcdL p.2 p.1)], .int .i64 0]) (by simp [results, Try.results22, go_sem, q0, q1]) rfl ?_
      have ho2 := (ho.keep (grownBy_setCell _ ⟨R, 0, none⟩ (.slice vo vn vc)) (by right; intro e; have := (ho.lt R e).1; omega)).keep (grownBy_setCell _ ⟨R, 1, none⟩ (.int .i64 (p.2 / gcdL p.2 p.1))) (by right; intro e; have := (ho.lt R e).1; omega)
      refine .inr ⟨_, .slice vo vn vc, HS.out, ?_, ?_, (hx09.setOwn _ _ hRw).setOwn _ _ hRw⟩
      · rw [← HPP.out]; rfl
      · rw [← HPP.out]; exact ho2.rebase hx03.size
    by_cases h1 : rule = 1
    · subst h1
      have HS := Lib.hid (show shareP 1 E xs = some (lowP (ruleP 1 E xs)) by simp [shareP, hp])
      have er : ruleP 1 E xs = (lessOf xs (equalP (isum xs - E) xs).2 (equalP (isum xs - E) xs).1, (equalP (isum xs - E) xs).2) := by simp [ruleP]
      clear hp h0
      go_wp2_with fail
      refine (sum_calls _ ao cap xs (hI.ext hx02) (HP.out.claims.sums (by omega)) (by omega)).mono ?_
      rintro e w3 ⟨rfl, hx3⟩
      have hx03 := hx02.trans hx3
      go_wp2_with fail
      refine (equal_calls sorts _ (isum xs - E) ao cap xs (hI.ext hx03) hL HP.out.one HP.out.claims (by omega)).mono ?_
      rintro e w4 ⟨v, rfl, ho, hx4⟩
      have hx04 := hx03.trans hx4
      obtain ⟨so, sc, rfl, hSI, -⟩ := ho.intsShape
      obtain ⟨hb, hlen, hk⟩ := equalP_bounds HP.out.claims hL HP.out.one (show 0 ≤ isum xs - E by omega)
      generalize equalP (isum xs - E) xs = p at *
      rw [hlen]
      have HKK := Lib.hid hk
      clear hk ho
      have ER := Lib.hid er
      clear er
      go_wp2_with fail
      refine (less_calls _ ao so cap sc xs p.1 p.2 (hI.ext hx04) hSI (by omega) hlen (fun k hk => ?_)).mono ?_
      · have h0 := HP.out.claims.at_ k hk
        have h1 := HKK.out k hk
        have h3 : ith xs k * p.2 ≤ 100000 * 7 := Int.mul_le_mul h0.2 hb.2 (by omega) (by omega)
        omega
      rintro e w5 ⟨v, rfl, ho, hx5⟩
      have er : lessOf xs p.2 p.1 = (ruleP 1 E xs).1 := by rw [ER.out]
      have er2 : p.2 = (ruleP 1 E xs).2 := by rw [ER.out]
      rw [er] at ho
      rw [er2]
      replace hx03 := hx04.trans hx5
      have hs3 := ((hs2.ext hx3).ext hx4).ext hx5
      clear er er2 ER HKK
      obtain ⟨so, sc, rfl, hSI, -⟩ := ho.intsShape
      clear ho
      have hlc := fun w (h : IntsIn w so (ruleP 1 E xs).1) => lowest_calls w so sc (ruleP 1 E xs).1 (ruleP 1 E xs).2 h (by rw [HK.out.len]; omega) (by have := HK.out.den; omega) (fun k hk => by have := HK.out.num k (by rw [← HK.out.len]; exact hk); omega)
      rw [HK.out.len] at hlc ⊢
      have hden := HK.out.den
      obtain ⟨p, hp⟩ : ∃ p, p = ruleP 1 E xs := ⟨_, rfl⟩
      rw [← hp] at hlc hSI hden ⊢
      have HPP := Lib.hid hp
      clear hp
      go_wp2_with fail
      refine (hlc _ hSI).mono ?_
      rintro e w9 ⟨v, rfl, ho, hx9⟩
      have hx09 := hx03.trans hx9
      have hsb := hs3.ext hx9
      obtain ⟨vo, vn, vc, rfl, -⟩ := ho.shapeCap
      obtain ⟨c0, hc0⟩ := Option.isSome_iff_exists.1 hsb.some0
      obtain ⟨c1, hc1⟩ := Option.isSome_iff_exists.1 hsb.some1
      have hf0 := hsb.free0
      have hf1 := hsb.free1
      have hR3 := hs3.lt
      go_wp2_with fail
      obtain ⟨q0, q1⟩ := hsb.put (.slice vo vn vc) (.int .i64 (p.2 / gcdL p.2 p.1))
      refine bodyPost_ret (v := .tuple #[.agg #[.slice vo vn vc, .int .i64 (p.2 / gcdL p.2 p.1)], .int .i64 0]) (by simp [results, Try.results22, go_sem, q0, q1]) rfl ?_
      have ho2 := (ho.keep (grownBy_setCell _ ⟨R, 0, none⟩ (.slice vo vn vc)) (by right; intro e; have := (ho.lt R e).1; omega)).keep (grownBy_setCell _ ⟨R, 1, none⟩ (.int .i64 (p.2 / gcdL p.2 p.1))) (by right; intro e; have := (ho.lt R e).1; omega)
      refine .inr ⟨_, .slice vo vn vc, HS.out, ?_, ?_, (hx09.setOwn _ _ hRw).setOwn _ _ hRw⟩
      · rw [← HPP.out]; rfl
      · rw [← HPP.out]; exact ho2.rebase hx03.size
    by_cases h2 : rule = 2
    · subst h2
      have HS := Lib.hid (show shareP 2 E xs = some (lowP (ruleP 2 E xs)) by simp [shareP, hp])
      have er : ruleP 2 E xs = (xs.map (· * E), max (isum xs) 1) := by simp [ruleP]
      clear hp h0 h1
      go_wp2_with fail
      refine (scaled_calls _ ao cap xs E (hI.ext hx02) (by omega) (fun k hk => ?_)).mono ?_
      · have h5 := HP.out.claims.at_ k hk
        have h6 : ith xs k * E ≤ 100000 * 100000 := Int.mul_le_mul h5.2 hE.2 (by omega) (by omega)
        have h7 : 0 ≤ ith xs k * E := Int.mul_nonneg h5.1 hE.1
        omega
      rintro e w3 ⟨v, rfl, ho, hx3⟩
      have hx03 := hx02.trans hx3
      go_wp2_with fail
      refine (sum_calls _ ao cap xs (hI.ext hx03) (HP.out.claims.sums (by omega)) (by omega)).mono ?_
      rintro e w4 ⟨rfl, hx4⟩
      replace ho := ho.ext hx4
      replace hx03 := hx03.trans hx4
      have hs3 := (hs2.ext hx3).ext hx4
      have e1 : xs.map (· * E) = (ruleP 2 E xs).1 := by rw [er]
      rw [e1] at ho
      by_cases hmx : 1 < isum xs
      · have e2 : isum xs = (ruleP 2 E xs).2 := by rw [er]; simp only []; omega
        have E2 := Lib.hid e2
        clear er e1 e2
        have hmx2 : max (isum xs) 1 = isum xs := by omega
        obtain ⟨so, sc, rfl, hSI, -⟩ := ho.intsShape
        clear ho
        have hlc := fun w (h : IntsIn w so (ruleP 2 E xs).1) => lowest_calls w so sc (ruleP 2 E xs).1 (ruleP 2 E xs).2 h (by rw [HK.out.len]; omega) (by have := HK.out.den; omega) (fun k hk => by have := HK.out.num k (by rw [← HK.out.len]; exact hk); omega)
        rw [HK.out.len] at hlc ⊢
        have hden := HK.out.den
        rw [← E2.out] at hlc hden
        obtain ⟨p, hp⟩ : ∃ p, p = ruleP 2 E xs := ⟨_, rfl⟩
        rw [← hp] at hlc hSI
        have HPP := Lib.hid hp
        clear hp
        go_wp2_with fail
        try rw [show (max (0 : Int) 1) = 1 from rfl]
        refine (hlc _ hSI).mono ?_
        rintro e w9 ⟨v, rfl, ho, hx9⟩
        have hx09 := hx03.trans hx9
        have hsb := hs3.ext hx9
        obtain ⟨vo, vn, vc, rfl, -⟩ := ho.shapeCap
        obtain ⟨c0, hc0⟩ := Option.isSome_iff_exists.1 hsb.some0
        obtain ⟨c1, hc1⟩ := Option.isSome_iff_exists.1 hsb.some1
        have hf0 := hsb.free0
        have hf1 := hsb.free1
        have hR3 := hs3.lt
        go_wp2_with fail
        obtain ⟨q0, q1⟩ := hsb.put (.slice vo vn vc) (.int .i64 ((isum xs) / gcdL (isum xs) p.1))
        refine bodyPost_ret (v := .tuple #[.agg #[.slice vo vn vc, .int .i64 ((isum xs) / gcdL (isum xs) p.1)], .int .i64 0]) (by simp [results, Try.results22, go_sem, q0, q1]) rfl ?_
        have ho2 := (ho.keep (grownBy_setCell _ ⟨R, 0, none⟩ (.slice vo vn vc)) (by right; intro e; have := (ho.lt R e).1; omega)).keep (grownBy_setCell _ ⟨R, 1, none⟩ (.int .i64 ((isum xs) / gcdL (isum xs) p.1))) (by right; intro e; have := (ho.lt R e).1; omega)
        refine .inr ⟨_, .slice vo vn vc, HS.out, ?_, ?_, (hx09.setOwn _ _ hRw).setOwn _ _ hRw⟩
        · have e3 : p.2 = (isum xs) := by rw [HPP.out]; exact E2.out.symm
          rw [← HPP.out]; simp only [lowP, e3]
        · have e3 : p.2 = (isum xs) := by rw [HPP.out]; exact E2.out.symm
          rw [← HPP.out]; simp only [lowP, e3]; exact ho2.rebase hx03.size
      by_cases hm1 : isum xs = 1
      · have e2 : 1 = (ruleP 2 E xs).2 := by rw [er]; simp only []; omega
        have E2 := Lib.hid e2
        clear er e1 e2
        obtain ⟨so, sc, rfl, hSI, -⟩ := ho.intsShape
        clear ho
        have hlc := fun w (h : IntsIn w so (ruleP 2 E xs).1) => lowest_calls w so sc (ruleP 2 E xs).1 (ruleP 2 E xs).2 h (by rw [HK.out.len]; omega) (by have := HK.out.den; omega) (fun k hk => by have := HK.out.num k (by rw [← HK.out.len]; exact hk); omega)
        rw [HK.out.len] at hlc ⊢
        have hden := HK.out.den
        rw [← E2.out] at hlc hden
        obtain ⟨p, hp⟩ : ∃ p, p = ruleP 2 E xs := ⟨_, rfl⟩
        rw [← hp] at hlc hSI
        have HPP := Lib.hid hp
        clear hp
        go_wp2_with fail
        try rw [show (max (0 : Int) 1) = 1 from rfl]
        refine (hlc _ hSI).mono ?_
        rintro e w9 ⟨v, rfl, ho, hx9⟩
        have hx09 := hx03.trans hx9
        have hsb := hs3.ext hx9
        obtain ⟨vo, vn, vc, rfl, -⟩ := ho.shapeCap
        obtain ⟨c0, hc0⟩ := Option.isSome_iff_exists.1 hsb.some0
        obtain ⟨c1, hc1⟩ := Option.isSome_iff_exists.1 hsb.some1
        have hf0 := hsb.free0
        have hf1 := hsb.free1
        have hR3 := hs3.lt
        go_wp2_with fail
        obtain ⟨q0, q1⟩ := hsb.put (.slice vo vn vc) (.int .i64 (1 / gcdL 1 p.1))
        refine bodyPost_ret (v := .tuple #[.agg #[.slice vo vn vc, .int .i64 (1 / gcdL 1 p.1)], .int .i64 0]) (by simp [results, Try.results22, go_sem, q0, q1]) rfl ?_
        have ho2 := (ho.keep (grownBy_setCell _ ⟨R, 0, none⟩ (.slice vo vn vc)) (by right; intro e; have := (ho.lt R e).1; omega)).keep (grownBy_setCell _ ⟨R, 1, none⟩ (.int .i64 (1 / gcdL 1 p.1))) (by right; intro e; have := (ho.lt R e).1; omega)
        refine .inr ⟨_, .slice vo vn vc, HS.out, ?_, ?_, (hx09.setOwn _ _ hRw).setOwn _ _ hRw⟩
        · have e3 : p.2 = 1 := by rw [HPP.out]; exact E2.out.symm
          rw [← HPP.out]; simp only [lowP, e3]
        · have e3 : p.2 = 1 := by rw [HPP.out]; exact E2.out.symm
          rw [← HPP.out]; simp only [lowP, e3]; exact ho2.rebase hx03.size
      · have hm0 : isum xs = 0 := by omega
        have e2 : 1 = (ruleP 2 E xs).2 := by rw [er]; simp only []; omega
        have E2 := Lib.hid e2
        clear er e1 e2
        obtain ⟨so, sc, rfl, hSI, -⟩ := ho.intsShape
        clear ho
        have hlc := fun w (h : IntsIn w so (ruleP 2 E xs).1) => lowest_calls w so sc (ruleP 2 E xs).1 (ruleP 2 E xs).2 h (by rw [HK.out.len]; omega) (by have := HK.out.den; omega) (fun k hk => by have := HK.out.num k (by rw [← HK.out.len]; exact hk); omega)
        rw [HK.out.len] at hlc ⊢
        have hden := HK.out.den
        rw [← E2.out] at hlc hden
        obtain ⟨p, hp⟩ : ∃ p, p = ruleP 2 E xs := ⟨_, rfl⟩
        rw [← hp] at hlc hSI
        have HPP := Lib.hid hp
        clear hp
        go_wp2_with fail
        try rw [show (max (0 : Int) 1) = 1 from rfl]
        refine (hlc _ hSI).mono ?_
        rintro e w9 ⟨v, rfl, ho, hx9⟩
        have hx09 := hx03.trans hx9
        have hsb := hs3.ext hx9
        obtain ⟨vo, vn, vc, rfl, -⟩ := ho.shapeCap
        obtain ⟨c0, hc0⟩ := Option.isSome_iff_exists.1 hsb.some0
        obtain ⟨c1, hc1⟩ := Option.isSome_iff_exists.1 hsb.some1
        have hf0 := hsb.free0
        have hf1 := hsb.free1
        have hR3 := hs3.lt
        go_wp2_with fail
        obtain ⟨q0, q1⟩ := hsb.put (.slice vo vn vc) (.int .i64 (1 / gcdL 1 p.1))
        refine bodyPost_ret (v := .tuple #[.agg #[.slice vo vn vc, .int .i64 (1 / gcdL 1 p.1)], .int .i64 0]) (by simp [results, Try.results22, go_sem, q0, q1]) rfl ?_
        have ho2 := (ho.keep (grownBy_setCell _ ⟨R, 0, none⟩ (.slice vo vn vc)) (by right; intro e; have := (ho.lt R e).1; omega)).keep (grownBy_setCell _ ⟨R, 1, none⟩ (.int .i64 (1 / gcdL 1 p.1))) (by right; intro e; have := (ho.lt R e).1; omega)
        refine .inr ⟨_, .slice vo vn vc, HS.out, ?_, ?_, (hx09.setOwn _ _ hRw).setOwn _ _ hRw⟩
        · have e3 : p.2 = 1 := by rw [HPP.out]; exact E2.out.symm
          rw [← HPP.out]; simp only [lowP, e3]
        · have e3 : p.2 = 1 := by rw [HPP.out]; exact E2.out.symm
          rw [← HPP.out]; simp only [lowP, e3]; exact ho2.rebase hx03.size
    by_cases h3 : rule = 3
    · subst h3
      have HS := Lib.hid (show shareP 3 E xs = some (lowP (ruleP 3 E xs)) by simp [shareP, hp])
      have er : ruleP 3 E xs = talmudP E xs := by simp [ruleP]
      clear hp h0 h1 h2
      go_wp2_with fail
      refine (talmud_calls sorts _ E ao cap xs (hI.ext hx02) hL HP.out.one HP.out.claims (by omega)).mono ?_
      rintro e w3 ⟨v, rfl, ho, hx3⟩
      rw [← er] at ho ⊢
      have hx03 := hx02.trans hx3
      have hs3 := hs2.ext hx3
      clear er
      obtain ⟨so, sc, rfl, hSI, -⟩ := ho.intsShape
      clear ho
      have hlc := fun w (h : IntsIn w so (ruleP 3 E xs).1) => lowest_calls w so sc (ruleP 3 E xs).1 (ruleP 3 E xs).2 h (by rw [HK.out.len]; omega) (by have := HK.out.den; omega) (fun k hk => by have := HK.out.num k (by rw [← HK.out.len]; exact hk); omega)
      rw [HK.out.len] at hlc ⊢
      have hden := HK.out.den
      obtain ⟨p, hp⟩ : ∃ p, p = ruleP 3 E xs := ⟨_, rfl⟩
      rw [← hp] at hlc hSI hden ⊢
      have HPP := Lib.hid hp
      clear hp
      go_wp2_with fail
      refine (hlc _ hSI).mono ?_
      rintro e w9 ⟨v, rfl, ho, hx9⟩
      have hx09 := hx03.trans hx9
      have hsb := hs3.ext hx9
      obtain ⟨vo, vn, vc, rfl, -⟩ := ho.shapeCap
      obtain ⟨c0, hc0⟩ := Option.isSome_iff_exists.1 hsb.some0
      obtain ⟨c1, hc1⟩ := Option.isSome_iff_exists.1 hsb.some1
      have hf0 := hsb.free0
      have hf1 := hsb.free1
      have hR3 := hs3.lt
      go_wp2_with fail
      obtain ⟨q0, q1⟩ := hsb.put (.slice vo vn vc) (.int .i64 (p.2 / gcdL p.2 p.1))
      refine bodyPost_ret (v := .tuple #[.agg #[.slice vo vn vc, .int .i64 (p.2 / gcdL p.2 p.1)], .int .i64 0]) (by simp [results, Try.results22, go_sem, q0, q1]) rfl ?_
      have ho2 := (ho.keep (grownBy_setCell _ ⟨R, 0, none⟩ (.slice vo vn vc)) (by right; intro e; have := (ho.lt R e).1; omega)).keep (grownBy_setCell _ ⟨R, 1, none⟩ (.int .i64 (p.2 / gcdL p.2 p.1))) (by right; intro e; have := (ho.lt R e).1; omega)
      refine .inr ⟨_, .slice vo vn vc, HS.out, ?_, ?_, (hx09.setOwn _ _ hRw).setOwn _ _ hRw⟩
      · rw [← HPP.out]; rfl
      · rw [← HPP.out]; exact ho2.rebase hx03.size
    by_cases h4 : rule = 4
    · subst h4
      have HS := Lib.hid (show shareP 4 E xs = some (lowP (ruleP 4 E xs)) by simp [shareP, hp])
      have er : ruleP 4 E xs = inTurnP E xs := by simp [ruleP]
      clear hp h0 h1 h2 h3
      go_wp2_with fail
      refine (inTurn_calls _ E ao cap xs (hI.ext hx02) hL HP.out.claims (by omega)).mono ?_
      rintro e w3 ⟨v, rfl, ho, hx3⟩
      rw [← er] at ho ⊢
      have hx03 := hx02.trans hx3
      have hs3 := hs2.ext hx3
      clear er
      obtain ⟨so, sc, rfl, hSI, -⟩ := ho.intsShape
      clear ho
      have hlc := fun w (h : IntsIn w so (ruleP 4 E xs).1) => lowest_calls w so sc (ruleP 4 E xs).1 (ruleP 4 E xs).2 h (by rw [HK.out.len]; omega) (by have := HK.out.den; omega) (fun k hk => by have := HK.out.num k (by rw [← HK.out.len]; exact hk); omega)
      rw [HK.out.len] at hlc ⊢
      have hden := HK.out.den
      obtain ⟨p, hp⟩ : ∃ p, p = ruleP 4 E xs := ⟨_, rfl⟩
      rw [← hp] at hlc hSI hden ⊢
      have HPP := Lib.hid hp
      clear hp
      go_wp2_with fail
      refine (hlc _ hSI).mono ?_
      rintro e w9 ⟨v, rfl, ho, hx9⟩
      have hx09 := hx03.trans hx9
      have hsb := hs3.ext hx9
      obtain ⟨vo, vn, vc, rfl, -⟩ := ho.shapeCap
      obtain ⟨c0, hc0⟩ := Option.isSome_iff_exists.1 hsb.some0
      obtain ⟨c1, hc1⟩ := Option.isSome_iff_exists.1 hsb.some1
      have hf0 := hsb.free0
      have hf1 := hsb.free1
      have hR3 := hs3.lt
      go_wp2_with fail
      obtain ⟨q0, q1⟩ := hsb.put (.slice vo vn vc) (.int .i64 (p.2 / gcdL p.2 p.1))
      refine bodyPost_ret (v := .tuple #[.agg #[.slice vo vn vc, .int .i64 (p.2 / gcdL p.2 p.1)], .int .i64 0]) (by simp [results, Try.results22, go_sem, q0, q1]) rfl ?_
      have ho2 := (ho.keep (grownBy_setCell _ ⟨R, 0, none⟩ (.slice vo vn vc)) (by right; intro e; have := (ho.lt R e).1; omega)).keep (grownBy_setCell _ ⟨R, 1, none⟩ (.int .i64 (p.2 / gcdL p.2 p.1))) (by right; intro e; have := (ho.lt R e).1; omega)
      refine .inr ⟨_, .slice vo vn vc, HS.out, ?_, ?_, (hx09.setOwn _ _ hRw).setOwn _ _ hRw⟩
      · rw [← HPP.out]; rfl
      · rw [← HPP.out]; exact ho2.rebase hx03.size
    have HN := Lib.hid (show shareP rule E xs = none by simp [shareP]; omega)
    clear hp
    have hsb := hs2
    obtain ⟨c0, hc0⟩ := Option.isSome_iff_exists.1 hsb.some0
    obtain ⟨c1, hc1⟩ := Option.isSome_iff_exists.1 hsb.some1
    have hf0 := hsb.free0
    have hf1 := hsb.free1
    go_wp2_with fail
    obtain ⟨q0, q1⟩ := hsb.put (.slice none 0 0) (.int .i64 0)
    refine bodyPost_ret (v := .tuple #[.agg #[.slice none 0 0, .int .i64 0], .int .i64 2]) (by simp [results, Try.results22, go_sem, q0, q1]) rfl ?_
    exact .inl ⟨HN.out, rfl, (hx02.setOwn _ _ hRw).setOwn _ _ hRw⟩
end Go.Proofs.Ytcngecibljgndaa
