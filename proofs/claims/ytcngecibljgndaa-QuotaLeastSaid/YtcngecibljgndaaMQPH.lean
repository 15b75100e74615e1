/- The Talmud's shares are fair for every pair, and no others are; of two they are the contest's: plain. -/
import Derived.Test.YtcngecibljgndaaMQFA
import Derived.Test.YtcngecibljgndaaMQPC
import Derived.Test.YtcngecibljgndaaMQTA
namespace Go.Proofs.Ytcngecibljgndaa
open Go.RowKit Go.Shelf

theorem contP_scale (k E a b : Int) (hk : 0 ≤ k) : contP (E * k) (a * k) (b * k) = contP E a b * k := by
  have h : ∀ x y : Int, max (x * k - y * k) 0 = max (x - y) 0 * k := fun x y => by
    rw [← Int.sub_mul]
    rcases Int.le_total 0 (x - y) with h | h
    · rw [Int.max_eq_left h, Int.max_eq_left (Int.mul_nonneg h hk)]
    · rw [Int.max_eq_right h, Int.max_eq_right (Int.mul_nonpos_of_nonpos_of_nonneg h hk), Int.zero_mul]
  unfold contP
  rw [h, h, Int.sub_mul, Int.sub_mul, Int.add_mul, Int.mul_assoc]
theorem contP_mono {E F a b : Int} (h : E ≤ F) : contP E a b ≤ contP F a b := by unfold contP; omega
theorem contP_other (E a b : Int) : contP E b a = 2 * E - contP E a b := by unfold contP; omega
/-- All pairs are fair. -/
def AllFair (xs l : List Int) (d : Int) : Prop := ∀ i j, i < j → j < xs.length → contP (ith l i + ith l j) (ith xs i * d) (ith xs j * d) = 2 * ith l i
theorem allFair_iff (xs l : List Int) (d : Int) : AllFair xs l d ↔ FairTo xs l d xs.length 0 := by
  constructor
  · intro h a b hab hb _
    have := h a b hab hb
    unfold offP; rw [this]; simp
  · intro h i j hij hj
    have := h i j hij hj (.inl (by omega))
    unfold offP at this; simpa using this
theorem AllFair.both {xs l : List Int} {d : Int} (h : AllFair xs l d) {i j : Nat} (hi : i < xs.length) (hj : j < xs.length) (hij : i ≠ j) : contP (ith l i + ith l j) (ith xs i * d) (ith xs j * d) = 2 * ith l i := by
  rcases Nat.lt_or_gt_of_ne hij with h1 | h1
  · exact h i j h1 hj
  · have h2 := h j i h1 hi
    rw [contP_other, Int.add_comm (ith l i), h2]; omega
theorem AllFair.low {E : Int} {xs : List Int} {p : List Int × Int} (hs : Shares E xs p) (h : AllFair xs p.1 p.2) : AllFair xs (lowP p).1 (lowP p).2 := by
  obtain ⟨g, hg, hd, hk⟩ := lowP_at hs
  intro i j hij hj
  have h1 := h i j hij hj
  rw [← hk i (by omega), ← hk j hj, ← hd, ← Int.add_mul, ← Int.mul_assoc, ← Int.mul_assoc, contP_scale _ _ _ _ (by omega), ← Int.mul_assoc] at h1
  exact Int.eq_of_mul_eq_mul_right (show g ≠ 0 by omega) h1
theorem talmud_allFair {E : Int} {xs : List Int} (h : IsProb E xs) : AllFair xs (talmudP E xs).1 (talmudP E xs).2 := by
  have h0 : ∀ x ∈ xs, 0 ≤ x := fun x hx => (h.claims x hx).1
  have e1 := h.estate
  have e2 := h.enough
  intro i j hij hj
  unfold talmudP
  have hmul : ∀ c m : Int, c * (2 * m) = 2 * (c * m) := fun c m => by rw [Int.mul_left_comm]
  split
  · obtain ⟨m, L, hm⟩ := equal_is h0 (show 0 ≤ 2 * E by omega) (show 2 * E ≤ isum xs by omega)
    have hl := hm.low
    have h1 := Int.mul_nonneg (h0 _ (ith_mem (show i < xs.length by omega))) (show 0 ≤ m by have := hm.den; omega)
    have h2 := Int.mul_nonneg (h0 _ (ith_mem hj)) (show 0 ≤ m by have := hm.den; omega)
    rw [hm.val]
    simp only []
    rw [ith_map _ _ _ (show i < xs.length by omega), ith_map _ _ _ hj, hmul, hmul]
    generalize ith xs i * m = a at *
    generalize ith xs j * m = b at *
    unfold contP
    omega
  · obtain ⟨m, L, hm⟩ := equal_is h0 (show 0 ≤ 2 * (isum xs - E) by omega) (show 2 * (isum xs - E) ≤ isum xs by omega)
    have hl := hm.low
    have h1 := Int.mul_nonneg (h0 _ (ith_mem (show i < xs.length by omega))) (show 0 ≤ m by have := hm.den; omega)
    have h2 := Int.mul_nonneg (h0 _ (ith_mem hj)) (show 0 ≤ m by have := hm.den; omega)
    rw [hm.val]
    simp only []
    rw [lessOf_at _ _ _ _ (show i < xs.length by omega), lessOf_at _ _ _ _ hj, ith_map _ _ _ (show i < xs.length by omega), ith_map _ _ _ hj, hmul, hmul]
    generalize ith xs i * m = a at *
    generalize ith xs j * m = b at *
    unfold contP
    omega
/-- Where two lists have the same sum and one is less somewhere, it is greater elsewhere. -/
theorem isum_greater (f g : Nat → Int) : ∀ n : Nat, isum ((List.range n).map f) = isum ((List.range n).map g) → ∀ i, i < n → f i < g i → ∃ j, j < n ∧ g j < f j := by
  intro n h i hi hlt
  refine Classical.byContradiction fun hno => ?_
  have hle : ∀ j, j < n → f j ≤ g j := fun j hj => by
    rcases Int.lt_or_le (g j) (f j) with h1 | h1
    · exact absurd ⟨j, hj, h1⟩ hno
    · exact h1
  have key : ∀ k, k ≤ n → isum ((List.range k).map f) + (if i < k then 1 else 0) ≤ isum ((List.range k).map g) := by
    intro k
    induction k with
    | zero => intro _; simp [isum_nil]
    | succ k ih =>
      intro hk
      have h1 := ih (by omega)
      have h2 := hle k (by omega)
      rw [range_snoc, range_snoc, isum_append, isum_append]
      simp only [isum_cons, isum_nil]
      by_cases e : k = i
      · subst e
        rw [if_neg (by omega)] at h1
        rw [if_pos (by omega)]
        omega
      · by_cases h3 : i < k
        · rw [if_pos h3] at h1; rw [if_pos (by omega)]; omega
        · rw [if_neg h3] at h1; rw [if_neg (by omega)]; omega
  have := key n (Nat.le_refl _)
  rw [if_pos hi] at this
  omega
theorem isum_take_range (l : List Int) (d : Int) (n : Nat) (h : l.length = n) : isum ((List.range n).map fun i => ith l i * d) = isum l * d := by
  subst h; rw [isum_range_mul, ← isum_eq_range]
theorem fair_only {E d d' : Int} {xs l l' : List Int} (hl : l.length = xs.length) (hl' : l'.length = xs.length) (hd : 0 < d) (hd' : 0 < d') (hs : isum l = E * d) (hs' : isum l' = E * d') (h : AllFair xs l d) (h' : AllFair xs l' d') :
    ∀ k, k < xs.length → ith l k * d' = ith l' k * d := by
  have hsum : isum ((List.range xs.length).map fun i => ith l i * d') = isum ((List.range xs.length).map fun i => ith l' i * d) := by
    rw [isum_take_range _ _ _ hl, isum_take_range _ _ _ hl', hs, hs', Int.mul_right_comm]
  have no : ∀ (p q : List Int) (u v : Int), 0 < u → 0 < v → AllFair xs p u → AllFair xs q v → ∀ i j, i < xs.length → j < xs.length → ith p i * v < ith q i * u → ith q j * u < ith p j * v → False := by
    intro p q u v hu hv hp hq i j hi hj h1 h2
    have hij : i ≠ j := fun e => by subst e; omega
    have f1 := hp.both hi hj hij
    have f2 := hq.both hi hj hij
    have f3 := hp.both hj hi (Ne.symm hij)
    have f4 := hq.both hj hi (Ne.symm hij)
    have g1 := contP_scale v (ith p i + ith p j) (ith xs i * u) (ith xs j * u) (by omega)
    have g2 := contP_scale u (ith q i + ith q j) (ith xs i * v) (ith xs j * v) (by omega)
    have g3 := contP_scale v (ith p j + ith p i) (ith xs j * u) (ith xs i * u) (by omega)
    have g4 := contP_scale u (ith q j + ith q i) (ith xs j * v) (ith xs i * v) (by omega)
    rw [f1, Int.add_mul, Int.mul_assoc 2] at g1
    rw [f2, Int.add_mul, Int.mul_assoc 2, Int.mul_right_comm, Int.mul_right_comm (ith xs j)] at g2
    rw [f3, Int.add_mul, Int.mul_assoc 2] at g3
    rw [f4, Int.add_mul, Int.mul_assoc 2, Int.mul_right_comm, Int.mul_right_comm (ith xs i)] at g4
    generalize ith p i * v = a at *
    generalize ith p j * v = b at *
    generalize ith q i * u = a' at *
    generalize ith q j * u = b' at *
    generalize ith xs i * u * v = c at *
    generalize ith xs j * u * v = e at *
    rcases Int.le_total (a + b) (a' + b') with hle | hle
    · have := contP_mono (a := e) (b := c) (show b + a ≤ b' + a' by omega); omega
    · have := contP_mono (a := c) (b := e) hle; omega
  intro k hk
  rcases Int.lt_trichotomy (ith l k * d') (ith l' k * d) with h1 | h1 | h1
  · obtain ⟨j, hj, h2⟩ := isum_greater _ _ _ hsum k hk h1
    exact (no l l' d d' hd hd' h h' k j hk hj h1 h2).elim
  · exact h1
  · obtain ⟨j, hj, h2⟩ := isum_greater _ _ _ hsum.symm k hk h1
    exact (no l' l d' d hd' hd h' h k j hk hj h1 h2).elim
theorem gcdL_scale (g : Nat) : ∀ (l : List Int) (d : Int), gcdL (d * g) (l.map (· * (g : Int))) = gcdL d l * g := by
  have key : ∀ (l : List Int) (a : Nat), (l.map (· * (g : Int))).foldl (fun b n => Int.gcd b n) (a * g) = l.foldl (fun b n => Int.gcd b n) a * g := by
    intro l
    induction l with
    | nil => intro a; rfl
    | cons x l ih =>
      intro a
      simp only [List.map_cons, List.foldl_cons]
      rw [Int.natCast_mul, Int.gcd_mul_right, Int.natAbs_natCast, ih]
  intro l d
  unfold gcdL
  rw [Int.natAbs_mul, Int.natAbs_natCast]
  exact key l d.natAbs
theorem dvd_gcdL {c : Int} (l : List Int) (d : Int) (hd : c ∣ d) (hl : ∀ x ∈ l, c ∣ x) : c ∣ (gcdL d l : Int) := by
  have key : ∀ (l : List Int) (a : Nat), c ∣ (a : Int) → (∀ x ∈ l, c ∣ x) → c ∣ ((l.foldl (fun b n => Int.gcd b n) a : Nat) : Int) := by
    intro l
    induction l with
    | nil => intro a h _; exact h
    | cons x l ih =>
      intro a h hx
      exact ih _ (Int.dvd_coe_gcd h (hx x (by simp))) (fun y hy => hx y (by simp [hy]))
  exact key l _ (by rw [Int.dvd_natAbs]; exact hd) hl
/-- Two in lowest terms that stand for the same are the same. -/
theorem low_same {d d' : Int} {l l' : List Int} (hl : l.length = l'.length) (hd : 0 < d) (hd' : 0 < d') (hg : gcdL d l = 1) (hg' : gcdL d' l' = 1) (h : ∀ k, k < l.length → ith l k * d' = ith l' k * d) : l = l' ∧ d = d' := by
  have half : ∀ (d d' : Int) (l l' : List Int), 0 < d → 0 < d' → gcdL d l = 1 → (∀ k, k < l.length → ith l k * d' = ith l' k * d) → d ∣ d' := by
    intro d d' l l' hd hd' hg h
    have e : (d'.toNat : Int) = d' := Int.toNat_of_nonneg (by omega)
    have h1 := gcdL_scale d'.toNat l d
    rw [hg, Nat.one_mul] at h1
    rw [← e, ← h1]
    refine dvd_gcdL _ _ (Int.dvd_mul_right _ _) (fun x hx => ?_)
    obtain ⟨y, hy, rfl⟩ := List.mem_map.1 hx
    obtain ⟨k, hk, rfl⟩ := List.getElem_of_mem hy
    have := h k hk
    rw [show ith l k = l[k] by simp [ith, hk]] at this
    rw [e, this]
    exact Int.dvd_mul_left _ _
  have h1 := half d d' l l' hd hd' hg h
  have h2 := half d' d l' l hd' hd hg' (fun k hk => (h k (by omega)).symm)
  have e := Int.dvd_antisymm (by omega) (by omega) h1 h2
  subst e
  refine ⟨?_, rfl⟩
  refine List.ext_getElem hl fun k h3 h4 => ?_
  have := h k h3
  rw [show ith l k = l[k] by simp [ith, h3], show ith l' k = l'[k] by simp [ith, h4]] at this
  exact Int.eq_of_mul_eq_mul_right (show d ≠ 0 by omega) this
theorem share_three {E : Int} {xs : List Int} {q : List Int × Int} (h : shareP 3 E xs = some q) : IsProb E xs ∧ q = lowP (talmudP E xs) ∧ IsSh E xs q.1 q.2 ∧ AllFair xs q.1 q.2 := by
  obtain ⟨hP, hS⟩ := share_is h
  unfold shareP at h
  split at h
  · rw [Option.some.injEq] at h
    subst h
    have hr : ruleP 3 E xs = talmudP E xs := by simp [ruleP]
    have hsh := rule_shares (rule := 3) hP
    rw [hr] at hsh hS ⊢
    exact ⟨hP, rfl, hS, (talmud_allFair hP).low hsh⟩
  · simp at h
theorem is_only {E d d' : Int} {xs l l' : List Int} (h : IsSh E xs l d) (h' : IsSh E xs l' d') (hf : AllFair xs l d) (hf' : AllFair xs l' d') : l = l' ∧ d = d' := by
  have hd := h.den
  have hd' := h'.den
  refine low_same (by rw [h.len, h'.len]) (by omega) (by omega) h.low h'.low (fun k hk => ?_)
  exact fair_only h.len h'.len (by omega) (by omega) h.sum h'.sum hf hf' k (by rw [← h.len]; exact hk)
/-- Of two claims the Talmud's shares are those of the contest. -/
theorem contest_talmud {E a b : Int} {q : List Int × Int} (h : shareP 3 E [a, b] = some q) : contestP E a b = some q := by
  obtain ⟨hP, hq, hS, hF⟩ := share_three h
  obtain ⟨p1, p2, p3, p4, p5, p6, p7⟩ := prob_two hP
  have hin := contP_in p1 p3 p5 p7
  have hsh : Shares E [a, b] ([contP E a b, 2 * E - contP E a b], 2) := by
    refine ⟨rfl, ⟨by simp, by simp⟩, fun k hk => ?_, ?_⟩
    · match k, hk with
      | 0, _ => simp [ith]; omega
      | 1, _ => simp [ith]; omega
      | k + 2, hk => exact absurd hk (by simp)
    · simp only [isum_cons, isum_nil]; omega
  have hfa : AllFair [a, b] ([contP E a b, 2 * E - contP E a b]) 2 := by
    intro i j hij hj
    have hj2 : j < 2 := hj
    obtain rfl : i = 0 := by omega
    obtain rfl : j = 1 := by omega
    simp only [ith, List.getD_cons_zero, List.getD_cons_succ]
    have e : contP E a b + (2 * E - contP E a b) = E * 2 := by omega
    rw [e, contP_scale _ _ _ _ (by omega)]
    omega
  obtain ⟨e1, e2⟩ := is_only (low_is hsh) hS (hfa.low hsh) hF
  have e3 : contestP E a b = some (lowP ([contP E a b, 2 * E - contP E a b], 2)) := by
    unfold contestP; rw [if_pos ((probB_true E [a, b]).2 hP)]
  rw [e3]
  exact congrArg some (Prod.ext e1 e2)
end Go.Proofs.Ytcngecibljgndaa

/- same, parts, and the law's own example: alive. -/
namespace Go.Proofs.Ytcngecibljgndaa
open Go.RowKit Go.Shelf

theorem same_calls (w : World) (ao bo : Option Addr) (cap cap2 : Nat) (xs ys : List Int) (hI : IntsIn w ao xs) (hJ : IntsIn w bo ys) (hl : xs.length ≤ 1000000) (hl2 : ys.length ≤ 1000000) :
    Calls Try.prog 24 #[.slice ao xs.length cap, .slice bo ys.length cap2] w fun e w' => e = .returned (.bool (decide (xs = ys))) ∧ Ext w w' := by
  go_enter Try.func24, Try.ntmps24
  by_cases hlen : xs.length = ys.length
  · have hb : ((xs.length : Int) != (ys.length : Int)) = false := by simp; omega
    have HL := Lib.hid hlen
    clear hlen
    go_wp2_with fail
    go_loopw [5] (fun i wr => ∃ k : Nat, k ≤ xs.length ∧ i = .int .i64 k ∧ Ext w wr ∧ Hid (∀ j, j < k → ith xs j = ith ys j)) (fun i _ => xs.length - (intOf i).toNat)
    case atStart => exact ⟨0, by omega, rfl, Ext.refl _, Lib.hid (fun j hj => by omega)⟩
    case round =>
      obtain ⟨k, hk, rfl, hx, HK⟩ := hrel
      by_cases hlt : k < xs.length
      · have hlt2 : k < ys.length := by have := HL.out; omega
        obtain ⟨b, off, rfl, hbl, hc⟩ := hI.ext hx k hlt
        obtain ⟨b2, off2, rfl, hbl2, hc2⟩ := hJ.ext hx k hlt2
        by_cases he : ith xs k = ith ys k
        · have hne : (ith xs k != ith ys k) = false := by simp [he]
          have HE := Lib.hid he
          clear he
          go_wp2_with fail
          go_region
          go_wp2_with fail
          refine ⟨⟨k + 1, by omega, rfl, hx.drew, Lib.hid (fun j hj => ?_)⟩, by simp only [intOf]; omega⟩
          rcases Nat.lt_or_ge j k with h | h
          · exact HK.out j h
          · rw [show j = k by omega]; exact HE.out
        · have hne : (ith xs k != ith ys k) = true := by simp [he]
          have HN : Hid (decide (xs = ys) = false) := Lib.hid (by simp; rintro rfl; exact he rfl)
          clear he
          go_wp2_with fail
          go_region
          go_wp2_with fail
          go_ret
          exact ⟨ret_bool HN.out.symm, hx.drew⟩
      · have HY : Hid (decide (xs = ys) = true) := Lib.hid (by
          simp only [decide_eq_true_eq]
          refine List.ext_getElem HL.out (fun j h1 h2 => ?_)
          have := HK.out j (by omega)
          simpa [ith, h1, h2] using this)
        go_wp2_with fail
        go_ret
        exact ⟨ret_bool HY.out.symm, hx⟩
  · have hb : ((xs.length : Int) != (ys.length : Int)) = true := by simp; omega
    have HN : Hid (decide (xs = ys) = false) := Lib.hid (by simp; rintro rfl; exact hlen rfl)
    clear hlen
    go_wp2_with fail
    go_ret
    exact ⟨ret_bool HN.out.symm, Ext.refl _⟩

def partsB (d : Int) (xs : List Int) (e : Int) (ys : List Int) : Bool := (d == e) && decide (xs = ys)
theorem parts_calls (w : World) (ao bo : Option Addr) (cap cap2 : Nat) (xs ys : List Int) (d e : Int) (hI : IntsIn w ao xs) (hJ : IntsIn w bo ys) (hl : xs.length ≤ 1000000) (hl2 : ys.length ≤ 1000000) :
    Calls Try.prog 23 #[.agg #[.slice ao xs.length cap, .int .i64 d], .agg #[.slice bo ys.length cap2, .int .i64 e]] w fun r w' => r = .returned (.bool (partsB d xs e ys)) ∧ Ext w w' := by
  go_enter Try.func23, Try.ntmps23
  cases hd : (d == e) with
  | false =>
    have HD := Lib.hid hd
    go_wp2_with fail
    go_ret
    exact ⟨ret_bool (by simp [partsB, HD.out]), (by repeat (first | exact Ext.refl _ | assumption | refine Ext.alloc ?_ _ | refine Ext.drewN ?_ _ | refine Ext.drew ?_))⟩
  | true =>
    have HD := Lib.hid hd
    go_wp2_with fail
    refine (same_calls _ ao bo cap cap2 xs ys (hI.ext (by repeat (first | exact Ext.refl _ | assumption | refine Ext.alloc ?_ _ | refine Ext.drewN ?_ _ | refine Ext.drew ?_))) (hJ.ext (by repeat (first | exact Ext.refl _ | assumption | refine Ext.alloc ?_ _ | refine Ext.drewN ?_ _ | refine Ext.drew ?_))) hl hl2).mono ?_
    rintro r w2 ⟨rfl, hx2⟩
    have hx : Ext w w2 := (show Ext w _ from (by repeat (first | exact Ext.refl _ | assumption | refine Ext.alloc ?_ _ | refine Ext.drewN ?_ _ | refine Ext.drew ?_))).trans hx2
    go_wp2_with fail
    go_ret
    exact ⟨ret_bool (by simp [partsB, HD.out]), hx⟩

theorem three_cells (w : World) (a b c : Int) (t : TypeId) : Ext w (w.alloc (.cells #[.int .i64 a, .int .i64 b, .int .i64 c] t)) ∧ IntsIn (w.alloc (.cells #[.int .i64 a, .int .i64 b, .int .i64 c] t)) (some ⟨w.heap.size, 0, none⟩) [a, b, c] := by
  refine ⟨(Ext.refl _).alloc _, fun k hk => ?_⟩
  have hk3 : k < 3 := hk
  refine ⟨w.heap.size, 0, rfl, by simp, ?_⟩
  match k, hk3 with
  | 0, _ => simp [go_sem, ith]
  | 1, _ => simp [go_sem, ith]
  | 2, _ => simp [go_sem, ith]
set_option maxRecDepth 100000 in
set_option maxHeartbeats 2000000 in
theorem alive_calls (hT : TabledOK) (w : World) : Calls Try.prog 20 #[] w fun e w' => e = .returned (.bool true) ∧ Ext w w' := by
  go_enter Try.func20, Try.ntmps20
  go_wp2_with fail
  obtain ⟨hx1, hC1⟩ := three_cells w 100 200 300 3
  obtain ⟨H, hH⟩ : ∃ H, H = w.heap.size := ⟨_, rfl⟩
  generalize (w.alloc (.cells #[.int .i64 100, .int .i64 200, .int .i64 300] 3)) = w1 at *
  rw [← hH] at hC1 ⊢
  clear hH
  refine (share_calls w1 3 200 (some ⟨H, 0, none⟩) 3 [100, 200, 300] hC1 (by simp)).mono ?_
  rintro e w2 hR
  rcases hR with ⟨hn, _⟩ | ⟨q, v, hq, rfl, ho, hx2⟩
  · rw [closed_talmud] at hn; simp at hn
  rw [closed_talmud, Option.some.injEq] at hq
  subst hq
  obtain ⟨so, sc, rfl, hS2, -⟩ := ho.intsShape
  simp only [List.length_cons, List.length_nil, Nat.zero_add, Nat.reduceAdd] at hS2 ⊢
  have hx02 := hx1.trans hx2
  have hC2 := hC1.ext hx2
  clear ho
  go_wp2_with fail
  obtain ⟨b1, hb1⟩ : ∃ b1, b1 = w2.heap.size := ⟨_, rfl⟩
  have hx3 : Ext w2 (w2.alloc (Obj.cells #[.slice so 3 sc, .int .i64 1] 26)) := (by repeat (first | exact Ext.refl _ | assumption | refine Ext.alloc ?_ _ | refine Ext.drewN ?_ _ | refine Ext.drew ?_))
  have hc0 : (w2.alloc (Obj.cells #[.slice so 3 sc, .int .i64 1] 26)).cell? ⟨b1, 0, none⟩ = some (.slice so 3 sc) := by subst hb1; simp [go_sem]
  have hc1 : (w2.alloc (Obj.cells #[.slice so 3 sc, .int .i64 1] 26)).cell? ⟨b1, 1, none⟩ = some (.int .i64 1) := by subst hb1; simp [go_sem]
  have hbl : b1 < (w2.alloc (Obj.cells #[.slice so 3 sc, .int .i64 1] 26)).heap.size := by simp [hb1]
  generalize (w2.alloc (Obj.cells #[.slice so 3 sc, .int .i64 1] 26)) = w3 at *
  rw [← hb1]
  clear hb1
  refine (share_calls w3 4 200 (some ⟨H, 0, none⟩) 3 [100, 200, 300] (hC2.ext hx3) (by simp)).mono ?_
  rintro e w4 hR
  rcases hR with ⟨hn, _⟩ | ⟨q, v, hq, rfl, ho, hx4⟩
  · rw [closed_run] at hn; simp at hn
  rw [closed_run, Option.some.injEq] at hq
  subst hq
  obtain ⟨so2, sc2, rfl, hS4, -⟩ := ho.intsShape
  simp only [List.length_cons, List.length_nil, Nat.zero_add, Nat.reduceAdd] at hS4 ⊢
  have hx24 := hx3.trans hx4
  have hC4 := hC2.ext hx24
  have hS24 := hS2.ext hx24
  have hd0 := (hx4.cell (p := ⟨b1, 0, none⟩) hbl).trans hc0
  have hd1 := (hx4.cell (p := ⟨b1, 1, none⟩) hbl).trans hc1
  have hbl4 := Nat.lt_of_lt_of_le hbl hx4.size
  have hx04 := hx02.trans hx24
  clear ho hc0 hc1 hbl
  go_wp2_with fail
  obtain ⟨b2, hb2⟩ : ∃ b2, b2 = w4.heap.size := ⟨_, rfl⟩
  have hx5 : Ext w4 (w4.alloc (Obj.cells #[.slice so2 3 sc2, .int .i64 3] 26)) := (by repeat (first | exact Ext.refl _ | assumption | refine Ext.alloc ?_ _ | refine Ext.drewN ?_ _ | refine Ext.drew ?_))
  have hc0 : (w4.alloc (Obj.cells #[.slice so2 3 sc2, .int .i64 3] 26)).cell? ⟨b2, 0, none⟩ = some (.slice so2 3 sc2) := by subst hb2; simp [go_sem]
  have hc1 : (w4.alloc (Obj.cells #[.slice so2 3 sc2, .int .i64 3] 26)).cell? ⟨b2, 1, none⟩ = some (.int .i64 3) := by subst hb2; simp [go_sem]
  have hbl2 : b2 < (w4.alloc (Obj.cells #[.slice so2 3 sc2, .int .i64 3] 26)).heap.size := by simp [hb2]
  generalize (w4.alloc (Obj.cells #[.slice so2 3 sc2, .int .i64 3] 26)) = w5 at *
  have hp : IsProb 200 [100, 200, 300] := (probB_true _ _).1 (by decide)
  have hsh : IsSh 200 [100, 200, 300] [50, 75, 75] 1 := by have := closed_is; simpa [isB] using this
  have hnc := nucleolus_calls hT w5 200 (some ⟨H, 0, none⟩) so 3 sc [100, 200, 300] [50, 75, 75] 1 30 (hC4.ext hx5) (hS24.ext hx5) hp (by decide) hsh closed_levels
  simp only [List.length_cons, List.length_nil, Nat.zero_add, Nat.reduceAdd] at hnc
  rw [← hb2]
  clear hb2
  have hf0 := (hx5.cell (p := ⟨b1, 0, none⟩) hbl4).trans hd0
  have hf1 := (hx5.cell (p := ⟨b1, 1, none⟩) hbl4).trans hd1
  have hbl5 := Nat.lt_of_lt_of_le hbl4 hx5.size
  go_wp2_with fail
  refine hnc.mono ?_
  rintro e w6 ⟨rfl, hx6⟩
  have hx56 := hx5.trans hx6
  have g0 := (hx6.cell (p := ⟨b1, 0, none⟩) hbl5).trans hf0
  have g1 := (hx6.cell (p := ⟨b1, 1, none⟩) hbl5).trans hf1
  have g2 := (hx6.cell (p := ⟨b2, 0, none⟩) hbl2).trans hc0
  have g3 := (hx6.cell (p := ⟨b2, 1, none⟩) hbl2).trans hc1
  have hbl6 := Nat.lt_of_lt_of_le hbl5 hx6.size
  have hbl26 := Nat.lt_of_lt_of_le hbl2 hx6.size
  have hS6 := hS24.ext hx56
  have hS46 := hS4.ext hx56
  have hx06 := hx04.trans hx56
  clear hnc hf0 hf1 hd0 hd1 hc0 hc1 hp hsh
  go_wp2_with fail
  obtain ⟨hx7, hK7⟩ := three_cells w6 50 75 75 3
  generalize (w6.alloc (.cells #[.int .i64 50, .int .i64 75, .int .i64 75] 3)) = w7 at *
  obtain ⟨Q, hQ⟩ : ∃ Q, Q = w6.heap.size := ⟨_, rfl⟩
  rw [← hQ] at hK7 ⊢
  clear hQ
  have hp1 := parts_calls w7 so (some ⟨Q, 0, none⟩) sc 3 [50, 75, 75] [50, 75, 75] 1 1 (hS6.ext hx7) hK7 (by simp) (by simp)
  simp only [List.length_cons, List.length_nil, Nat.zero_add, Nat.reduceAdd] at hp1
  refine hp1.mono ?_
  rintro e w8 ⟨rfl, hx8⟩
  rw [show partsB 1 [50, 75, 75] 1 [50, 75, 75] = true by decide]
  have hx78 := hx7.trans hx8
  have i2 := (hx78.cell (p := ⟨b2, 0, none⟩) hbl26).trans g2
  have i3 := (hx78.cell (p := ⟨b2, 1, none⟩) hbl26).trans g3
  have hbl8 := Nat.lt_of_lt_of_le hbl26 hx78.size
  have hS8 := hS46.ext hx78
  have hx08 := hx06.trans hx78
  clear hp1 g2 g3 g0 g1
  go_wp2_with fail
  obtain ⟨hx9, hK9⟩ := three_cells w8 100 250 250 3
  generalize (w8.alloc (.cells #[.int .i64 100, .int .i64 250, .int .i64 250] 3)) = w9 at *
  obtain ⟨Q2, hQ2⟩ : ∃ Q2, Q2 = w8.heap.size := ⟨_, rfl⟩
  rw [← hQ2] at hK9 ⊢
  clear hQ2
  have hp2 := parts_calls w9 so2 (some ⟨Q2, 0, none⟩) sc2 3 [100, 250, 250] [100, 250, 250] 3 3 (hS8.ext hx9) hK9 (by simp) (by simp)
  simp only [List.length_cons, List.length_nil, Nat.zero_add, Nat.reduceAdd] at hp2
  refine hp2.mono ?_
  rintro e w10 ⟨rfl, hx10⟩
  rw [show partsB 3 [100, 250, 250] 3 [100, 250, 250] = true by decide]
  have hx0 := hx08.trans (hx9.trans hx10)
  clear hp2 i2 i3
  go_wp2_with fail
  go_ret
  exact ⟨rfl, hx0⟩
end Go.Proofs.Ytcngecibljgndaa
