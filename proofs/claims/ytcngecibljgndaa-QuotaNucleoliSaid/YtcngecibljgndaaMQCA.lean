/- quota.Game, shaped; the core, plain. -/
import Derived.Test.YtcngecibljgndaaMQH
import Derived.Test.YtcngecibljgndaaMQPB
import Derived.Test.YtcngecibljgndaaMQRB
import Derived.Test.YtcngecibljgndaaMQPC
namespace Go.Proofs.Ytcngecibljgndaa
open Go.RowKit Go.Shelf

/-- What both Game return. -/
def GameRes (w : World) (E : Int) (xs : List Int) (e : Ending) (w' : World) : Prop :=
  (probB E xs = false ∧ e = .returned (.tuple #[.slice none 0 0, .int .i64 2]) ∧ Ext w w') ∨
  (probB E xs = true ∧ ∃ v, e = .returned (.tuple #[v, .int .i64 0]) ∧ Own w' w.heap.size 1 v (ints (gameP E xs)) ∧ Ext w w')
theorem quotaGame_calls (w : World) (E : Int) (ao : Option Addr) (cap : Nat) (xs : List Int) (hI : IntsIn w ao xs) (hl : xs.length ≤ 1000000) :
    Calls Try.prog 34 #[.int .i64 E, .slice ao xs.length cap] w (GameRes w E xs) := by
  go_enter Try.func34, Try.ntmps34
  go_wp2_with fail
  refine (problem_calls _ E ao cap xs hI hl).mono ?_
  rintro e w2 ⟨rfl, hx2⟩
  cases hp : probB E xs with
  | false =>
    have HP := Lib.hid hp
    clear hp
    simp only [errI]
    go_wp2_with fail
    go_ret2
    exact .inl ⟨HP.out, rfl, hx2⟩
  | true =>
    have hP := (probB_true E xs).1 hp
    have HP := Lib.hid hp
    clear hp
    simp only [errI]
    go_wp2_with fail
    refine (game_calls _ E ao cap xs (hI.ext hx2) hP.seven hP.claims hP.estate).mono ?_
    rintro e w3 ⟨v, rfl, ho, hx3⟩
    go_wp2_with fail
    go_ret2
    exact .inr ⟨HP.out, v, rfl, ho.rebase hx2.size, hx2.trans hx3⟩
theorem shaped_calls (w : World) (lo : Option Addr) (lcap : Nat) (l : List Int) (d : Int) (n : Nat) :
    Calls Try.prog 27 #[.agg #[.slice lo l.length lcap, .int .i64 d], .int .i64 n] w fun e w' => e = .returned (.bool (decide (l.length = n ∧ 0 < d))) ∧ Ext w w' := by
  go_enter Try.func27, Try.ntmps27
  have hx1 : Ext w (w.alloc (Obj.cells #[.slice lo l.length lcap, .int .i64 d] 26)) := (by repeat (first | exact Ext.refl _ | assumption | refine Ext.alloc ?_ _ | refine Ext.drewN ?_ _ | refine Ext.drew ?_))
  have hbx := PBox.new w 26 (.slice lo l.length lcap) d
  by_cases h1 : l.length = n
  · have h1b : ((l.length : Int) == (n : Int)) = true := by simp; omega
    by_cases h2 : 0 < d
    · have HN := Lib.hid (show decide (l.length = n ∧ 0 < d) = true by simp; omega)
      clear h1
      go_wp2_with fail
      go_ret
      exact ⟨ret_bool HN.out.symm, hx1⟩
    · have HN := Lib.hid (show decide (l.length = n ∧ 0 < d) = false by simp; omega)
      clear h1
      go_wp2_with fail
      go_ret
      exact ⟨ret_bool (by rw [← HN.out, Bool.decide_and]), hx1⟩
  · have h1b : ((l.length : Int) == (n : Int)) = false := by simp; omega
    have HN := Lib.hid (show decide (l.length = n ∧ 0 < d) = false by simp; omega)
    clear h1
    go_wp2_with fail
    go_ret
    exact ⟨ret_bool (by rw [← HN.out, Bool.decide_and]), hx1⟩

/-- The sum of those of a set. -/
def setP (l : List Int) (s : Nat) : Nat → Int
  | 0 => 0
  | k + 1 => setP l s k + if s.testBit k = true then ith l k else 0
theorem setP_in (l : List Int) (s k : Nat) (h : s.testBit k = true) : setP l s (k + 1) = setP l s k + ith l k := by rw [setP, if_pos h]
theorem setP_out (l : List Int) (s k : Nat) (h : s.testBit k = false) : setP l s (k + 1) = setP l s k := by rw [setP, h]; simp
theorem setP_bounds (l : List Int) (hu : Upto 100000000000 l) (s : Nat) : ∀ k, k ≤ l.length → 0 ≤ setP l s k ∧ setP l s k ≤ 100000000000 * k
  | 0, _ => by simp [setP]
  | k + 1, h => by
    have h1 := setP_bounds l hu s k (by omega)
    have h2 := hu.at_ k (by omega)
    rw [setP]
    split <;> omega
theorem is_upto {E d : Int} {xs l : List Int} (h : IsSh E xs l d) (hu : Upto 100000 xs) : Upto 100000000000 l := by
  intro x hx
  obtain ⟨j, hj, rfl⟩ := List.getElem_of_mem hx
  have h4 := h.num j (by rw [← h.len]; exact hj)
  have e : ith l j = l[j] := by simp [ith, hj]
  have hcx := hu.at_ j (by rw [← h.len]; exact hj)
  have hd := h.den
  have hpr : ith xs j * d ≤ 100000 * 1000000 := Int.mul_le_mul hcx.2 hd.2 (by omega) (by omega)
  rw [← e]; omega
theorem core_le {E d : Int} {xs l : List Int} (h : IsSh E xs l d) (s : Nat) : ∀ k, k ≤ xs.length → leftP E xs s k * d + isum (l.take k) ≤ E * d + setP l s k
  | 0, _ => by simp [leftP, isum_nil, setP]
  | k + 1, hk => by
    have ih := core_le h s k (by omega)
    have hn := h.num k (by omega)
    rw [isum_take l k (by rw [h.len]; omega)]
    cases hb : s.testBit k with
    | true => rw [leftP_in _ _ _ _ hb, setP_in _ _ _ hb]; omega
    | false => rw [leftP_out _ _ _ _ hb, setP_out _ _ _ hb, Int.sub_mul]; omega
theorem core_ok {E d : Int} {xs l : List Int} (h : IsSh E xs l d) (hu : Upto 100000 xs) (s : Nat) (hs : s < 2 ^ xs.length) : ith (gameP E xs) s * d ≤ setP l s xs.length := by
  have h1 := core_le h s xs.length (Nat.le_refl _)
  have h2 := (setP_bounds l (is_upto h hu) s xs.length (by rw [h.len]; omega)).1
  have h3 : l.take xs.length = l := by rw [← h.len, List.take_length]
  rw [h3, h.sum] at h1
  rw [gameP, ith_map_range _ _ _ hs]
  rcases Int.le_total 0 (leftP E xs s xs.length) with h4 | h4
  · rw [Int.max_eq_left h4]; omega
  · rw [Int.max_eq_right h4]; omega
theorem rem_all : ∀ s : Fin 128, ∀ c : Fin 7, (Int.tmod ((s.val : Int) / 2 ^ c.val) 2 == 1) = s.val.testBit c.val := by decide +kernel
theorem rem_test (s c : Nat) (hs : s < 128) (hc : c < 7) : (Int.tmod ((s : Int) / 2 ^ c) 2 == 1) = s.testBit c := rem_all ⟨s, hs⟩ ⟨c, hc⟩
end Go.Proofs.Ytcngecibljgndaa

/- inTurn, plain: what one gets is a sum over the sets of those who can come before. -/
namespace Go.Proofs.Ytcngecibljgndaa
open Go.RowKit Go.Shelf

theorem isum_one (F : Nat → Int) (a : Nat) : ∀ K, isum ((List.range K).map fun t => if t = a then F t else 0) = if a < K then F a else 0
  | 0 => by simp [isum_nil]
  | K + 1 => by
    rw [range_snoc, isum_append, isum_one F a K, isum_cons, isum_nil]
    by_cases e : K = a
    · subst e; simp
    · rw [if_neg e]
      by_cases h : a < K
      · rw [if_pos h, if_pos (by omega)]; omega
      · rw [if_neg h, if_neg (by omega)]; omega
/-- How many of a set are not among those who have come. -/
def extra (came : List Bool) (s : Nat) : Nat → Nat
  | 0 => 0
  | k + 1 => extra came s k + if bth came k = true then 0 else if s.testBit k = true then 1 else 0
def many1 (s : Nat) : Nat → Nat
  | 0 => 0
  | k + 1 => many1 s k + if s.testBit k = true then 1 else 0
theorem many1_le (s : Nat) : ∀ k, many1 s k ≤ k
  | 0 => by simp [many1]
  | k + 1 => by have := many1_le s k; rw [many1]; split <;> omega
theorem extra_set (came : List Bool) (s j : Nat) (hj : j < came.length) (h : bth came j = false) : ∀ k, extra (came.set j true) s k + (if j < k then if s.testBit j = true then 1 else 0 else 0) = extra came s k
  | 0 => by simp [extra]
  | k + 1 => by
    have := extra_set came s j hj h k
    rw [extra, extra, bth_set _ _ _ _ hj]
    by_cases e : k = j
    · subst e
      rw [if_pos rfl, h]
      simp at this ⊢
      exact this
    · rw [if_neg e]
      by_cases h2 : j < k
      · rw [if_pos h2] at this
        rw [if_pos (show j < k + 1 by omega)]
        omega
      · rw [if_neg h2] at this
        rw [if_neg (show ¬ j < k + 1 by omega)]
        omega
theorem extra_zero (came : List Bool) (s : Nat) : ∀ k, extra came s k = 0 → ∀ j, j < k → bth came j = false → s.testBit j = false
  | 0, _, j, hj, _ => by omega
  | k + 1, h, j, hj, hc => by
    rw [extra] at h
    by_cases e : j = k
    · subst e
      rw [hc] at h
      cases hb : s.testBit j with
      | false => rfl
      | true => rw [hb] at h; simp at h
    · exact extra_zero came s k (by omega) j (by omega) hc
theorem extra_self (came : List Bool) (s : Nat) : ∀ k, (∀ j, j < k → s.testBit j = bth came j) → extra came s k = 0
  | 0, _ => rfl
  | k + 1, h => by
    rw [extra, extra_self came s k (fun j hj => h j (by omega)), h k (by omega)]
    cases bth came k <;> simp
theorem sumW_extra (came : List Bool) (s : Nat) (c : Int) : ∀ k, sumW came k (fun j => if s.testBit j = true then c else 0) = extra came s k * c
  | 0 => by simp [sumW_zero, extra]
  | k + 1 => by
    rw [sumW_succ, extra, sumW_extra came s c k]
    cases bth came k <;> cases s.testBit k <;> simp [Int.add_mul]
theorem many_wait (came : List Bool) (m : Nat) : ∀ k, (∀ j, j < k → m.testBit j = bth came j) → many1 m k + wait came k = k
  | 0, _ => by simp [many1, wait]
  | k + 1, h => by
    have := many_wait came m k (fun j hj => h j (by omega))
    rw [many1, wait_succ, h k (by omega)]
    cases bth came k <;> simp <;> omega
theorem sumW_one (came : List Bool) (F : Nat → Int) (a : Nat) (h : bth came a = false) : ∀ K, sumW came K (fun t => if t = a then F t else 0) = if a < K then F a else 0
  | 0 => by simp [sumW_zero]
  | K + 1 => by
    rw [sumW_succ, sumW_one came F a h K]
    by_cases e : K = a
    · subst e; simp [h]
    · rw [if_neg e]
      by_cases h2 : a < K
      · rw [if_pos h2, if_pos (show a < K + 1 by omega)]; simp
      · rw [if_neg h2, if_neg (show ¬ a < K + 1 by omega)]; simp
theorem sumW_isum (came : List Bool) (f : Nat → Nat → Int) (K : Nat) : ∀ n, sumW came n (fun j => isum ((List.range K).map fun s => f j s)) = isum ((List.range K).map fun s => sumW came n fun j => f j s)
  | 0 => by
    simp only [sumW_zero]
    have := isum_range_mul (fun _ => (0 : Int)) 0 K
    simp at this
    have e : ∀ K : Nat, isum ((List.range K).map fun _ => (0 : Int)) = 0 := by
      intro K
      induction K with
      | zero => simp [isum_nil]
      | succ K ih => rw [range_snoc, isum_append, ih]; simp [isum_cons, isum_nil]
    exact (e K).symm
  | n + 1 => by
    rw [sumW_succ, sumW_isum came f K n]
    cases hc : bth came n with
    | true =>
      rw [if_pos rfl, Int.add_zero]
      exact isum_range_congr _ _ _ (fun s _ => by rw [sumW_succ, if_pos hc]; omega)
    | false =>
      rw [if_neg (by simp), ← isum_range_add]
      exact isum_range_congr _ _ _ (fun s _ => by rw [sumW_succ, if_neg (by simp [hc])])
theorem bit_or (m j k : Nat) : (m ||| 2 ^ j).testBit k = if k = j then true else m.testBit k := by
  rw [Nat.testBit_or, Nat.testBit_two_pow]
  by_cases e : k = j
  · subst e; simp
  · rw [if_neg e]
    have : ¬ j = k := fun h => e h.symm
    simp [this]
theorem setP_or (xs : List Int) (m j : Nat) (hj : m.testBit j = false) : ∀ k, setP xs (m ||| 2 ^ j) k = setP xs m k + if j < k then ith xs j else 0
  | 0 => by simp [setP]
  | k + 1 => by
    rw [setP, setP, setP_or xs m j hj k, bit_or]
    by_cases e : k = j
    · subst e; simp [hj]
    · rw [if_neg e]
      by_cases h : j < k
      · rw [if_pos h, if_pos (show j < k + 1 by omega)]; omega
      · rw [if_neg h, if_neg (show ¬ j < k + 1 by omega)]; simp
theorem bits_eq {n s m : Nat} (hs : s < 2 ^ n) (hm : m < 2 ^ n) (h : ∀ j, j < n → s.testBit j = m.testBit j) : s = m := by
  apply Nat.eq_of_testBit_eq
  intro j
  by_cases hj : j < n
  · exact h j hj
  · have e : ∀ x : Nat, x < 2 ^ n → x.testBit j = false := fun x hx => Nat.testBit_lt_two_pow (Nat.lt_of_lt_of_le hx (Nat.pow_le_pow_right (by omega) (by omega)))
    rw [e s hs, e m hm]
/-- What one gets who comes behind a set. -/
def payP (E : Int) (xs : List Int) (i s : Nat) : Int := min (ith xs i) (max 0 (E - setP xs s xs.length))
def Up (n : Nat) (came : List Bool) (s : Nat) : Prop := ∀ j, j < n → bth came j = true → s.testBit j = true
instance (n : Nat) (came : List Bool) (s : Nat) : Decidable (Up n came s) := by unfold Up; infer_instance
def restP (E : Int) (xs : List Int) (i s : Nat) : Int := (fact (xs.length - 1 - many1 s xs.length) : Int) * payP E xs i s
def termP (E : Int) (xs : List Int) (i : Nat) (came : List Bool) (s : Nat) : Int :=
  if Up xs.length came s ∧ s.testBit i = false then fact (extra came s xs.length) * restP E xs i s else 0
theorem term_sum (E : Int) (xs : List Int) (i m s : Nat) (came : List Bool) (hl : came.length = xs.length) (hm : m < 2 ^ xs.length) (hs : s < 2 ^ xs.length) (hb : ∀ j, j < xs.length → m.testBit j = bth came j) :
    sumW came xs.length (fun j => termP E xs i (came.set j true) s) = if s = m then 0 else termP E xs i came s := by
  by_cases hU : Up xs.length came s ∧ s.testBit i = false
  · have e : sumW came xs.length (fun j => termP E xs i (came.set j true) s) = sumW came xs.length (fun j => if s.testBit j = true then (fact (extra came s xs.length - 1) : Int) * restP E xs i s else 0) := by
      refine sumW_congr _ _ _ _ (fun j hj hc => ?_)
      unfold termP
      have h1 := extra_set came s j (by omega) hc xs.length
      rw [if_pos hj] at h1
      cases hbj : s.testBit j with
      | true =>
        rw [hbj, if_pos rfl] at h1
        have hUp : Up xs.length (came.set j true) s := fun k hk hck => by
          rw [bth_set _ _ _ _ (by omega)] at hck
          by_cases e : k = j
          · rw [e]; exact hbj
          · rw [if_neg e] at hck; exact hU.1 k hk hck
        rw [if_pos ⟨hUp, hU.2⟩, if_pos rfl, show extra (came.set j true) s xs.length = extra came s xs.length - 1 by omega]
      | false =>
        rw [if_neg (fun h => ?_), if_neg (by simp)]
        have := h.1 j hj (by rw [bth_set _ _ _ _ (by omega), if_pos rfl])
        rw [hbj] at this; simp at this
    rw [e, sumW_extra]
    by_cases hz : extra came s xs.length = 0
    · have : s = m := bits_eq hs hm (fun j hj => by
        rw [hb j hj]
        cases hc : bth came j with
        | true => exact hU.1 j hj hc
        | false => exact extra_zero came s _ hz j hj hc)
      rw [if_pos this, hz]; simp
    · have hne : s ≠ m := by
        rintro rfl
        exact hz (extra_self came s _ hb)
      rw [if_neg hne]
      unfold termP
      rw [if_pos hU]
      obtain ⟨q, hq⟩ : ∃ q, extra came s xs.length = q + 1 := ⟨extra came s xs.length - 1, by omega⟩
      rw [hq, fact, Int.natCast_mul, Int.mul_assoc]
      simp
  · have e : sumW came xs.length (fun j => termP E xs i (came.set j true) s) = sumW came xs.length (fun _ => 0) := by
      refine sumW_congr _ _ _ _ (fun j hj hc => ?_)
      unfold termP
      exact if_neg (fun h => hU ⟨fun k hk hck => h.1 k hk (by
        rw [bth_set _ _ _ _ (by omega)]
        split
        · rfl
        · exact hck), h.2⟩)
    rw [e, sumW_const]
    unfold termP
    rw [if_neg hU]
    simp
theorem gets_sets (E : Int) (xs : List Int) (h0 : ∀ i, i < xs.length → 0 ≤ ith xs i) (i : Nat) (hi : i < xs.length) : ∀ (f m : Nat) (left : Int) (came : List Bool), came.length = xs.length → wait came xs.length = f → m < 2 ^ xs.length →
    (∀ j, j < xs.length → m.testBit j = bth came j) → left = max 0 (E - setP xs m xs.length) → bth came i = false → gets xs f left came i = isum ((List.range (2 ^ xs.length)).map fun s => termP E xs i came s)
  | 0, m, left, came, hl, hw, hm, hb, hL, hc => by
    have := wait_none hw i hi
    rw [this] at hc; simp at hc
  | f + 1, m, left, came, hl, hw, hm, hb, hL, hc => by
    rw [gets]
    have e : sumW came xs.length (fun j => if j = i then min (ith xs j) left * fact f else gets xs f (left - min (ith xs j) left) (came.set j true) i) =
        sumW came xs.length (fun j => (if j = i then min (ith xs j) left * fact f else 0) + isum ((List.range (2 ^ xs.length)).map fun s => termP E xs i (came.set j true) s)) := by
      refine sumW_congr _ _ _ _ (fun j hj hcj => ?_)
      by_cases e : j = i
      · subst e
        rw [if_pos rfl, if_pos rfl]
        have : isum ((List.range (2 ^ xs.length)).map fun s => termP E xs j (came.set j true) s) = isum ((List.range (2 ^ xs.length)).map fun _ => 0) := by
          refine isum_range_congr _ _ _ (fun s _ => ?_)
          unfold termP
          rw [if_neg (fun h => ?_)]
          have h1 := h.1 j hj (by rw [bth_set _ _ _ _ (by omega), if_pos rfl])
          rw [h.2] at h1; simp at h1
        rw [this]
        have := isum_range_mul (fun _ => (1 : Int)) 0 (2 ^ xs.length)
        simp at this
        have e0 : ∀ K : Nat, isum ((List.range K).map fun _ => (0 : Int)) = 0 := by
          intro K
          induction K with
          | zero => simp [isum_nil]
          | succ K ih => rw [range_snoc, isum_append, ih]; simp [isum_cons, isum_nil]
        rw [e0]; omega
      · rw [if_neg e, if_neg e, Int.zero_add]
        have hmj : m.testBit j = false := by rw [hb j hj]; exact hcj
        refine gets_sets E xs h0 i hi f (m ||| 2 ^ j) _ (came.set j true) (by simpa using hl) (wait_set' hl hw hj hcj) ?_ ?_ ?_ ?_
        · exact Nat.or_lt_two_pow hm (Nat.pow_lt_pow_right (by omega) hj)
        · intro k hk
          rw [bit_or, bth_set _ _ _ _ (by omega)]
          split
          · rfl
          · exact hb k hk
        · rw [setP_or _ _ _ hmj, if_pos hj]
          have := h0 j hj
          omega
        · rw [bth_set _ _ _ _ (by omega), if_neg (fun h => e h.symm)]; exact hc
    rw [e, sumW_add, sumW_one came (fun j => min (ith xs j) left * fact f) i hc, if_pos hi, sumW_isum]
    have e2 : isum ((List.range (2 ^ xs.length)).map fun s => sumW came xs.length fun j => termP E xs i (came.set j true) s) = isum ((List.range (2 ^ xs.length)).map fun s => termP E xs i came s - if s = m then termP E xs i came s else 0) := by
      refine isum_range_congr _ _ _ (fun s hs => ?_)
      rw [term_sum E xs i m s came hl hm hs hb]
      split <;> omega
    rw [e2, isum_range_sub, isum_one (termP E xs i came), if_pos hm]
    have e3 : termP E xs i came m = min (ith xs i) left * fact f := by
      unfold termP
      rw [if_pos ⟨fun j hj h => by rw [hb j hj]; exact h, by rw [hb i hi]; exact hc⟩, extra_self came m _ hb]
      unfold restP payP
      have := many_wait came m xs.length hb
      rw [show xs.length - 1 - many1 m xs.length = f by omega, ← hL]
      simp [fact, Int.mul_comm]
    have e4 : isum ((List.range (2 ^ xs.length)).map fun s => termP E xs i came s) = isum ((List.range (2 ^ xs.length)).map (termP E xs i came)) := rfl
    rw [e3]
    omega
/-- All orders, by the sets of those before. -/
def setTerm (E : Int) (xs : List Int) (i s : Nat) : Int := if s.testBit i = true then 0 else (fact (many1 s xs.length) : Int) * restP E xs i s
theorem extra_none (n s : Nat) : ∀ k, extra (List.replicate n false) s k = many1 s k
  | 0 => rfl
  | k + 1 => by rw [extra, many1, extra_none n s k, bth_none]; simp
theorem inTurn_sets (E : Int) (hE : 0 ≤ E) (xs : List Int) (h0 : ∀ i, i < xs.length → 0 ≤ ith xs i) (i : Nat) (hi : i < xs.length) : ith (inTurnP E xs).1 i = isum ((List.range (2 ^ xs.length)).map fun s => setTerm E xs i s) := by
  obtain ⟨_, h2⟩ := inTurn_gets E xs
  have hz : ∀ k, setP xs 0 k = 0 := by
    intro k
    induction k with
    | zero => rfl
    | succ k ih => rw [setP, ih]; simp
  rw [h2 i hi, gets_sets E xs h0 i hi xs.length 0 E (List.replicate xs.length false) (by simp) (wait_all _) (Nat.pow_pos (by omega)) (fun j _ => by rw [bth_none]; simp) (by rw [hz]; omega) (bth_none _ _)]
  refine isum_range_congr _ _ _ (fun s _ => ?_)
  unfold termP setTerm
  rw [extra_none]
  cases s.testBit i with
  | true => rw [if_neg (fun h => by simp at h), if_pos rfl]
  | false => rw [if_pos ⟨fun j _ h => by rw [bth_none] at h; simp at h, rfl⟩, if_neg (by simp)]
end Go.Proofs.Ytcngecibljgndaa

/- inTurn is its own dual, and the mean of what each one adds, plain. -/
namespace Go.Proofs.Ytcngecibljgndaa
open Go.RowKit Go.Shelf

theorem isum_turned (σ : Nat → Nat) (K : Nat) (h : ∀ s, s < K → σ s < K ∧ σ (σ s) = s) (F : Nat → Int) : isum ((List.range K).map fun s => F (σ s)) = isum ((List.range K).map fun s => F s) := by
  have e1 : isum ((List.range K).map fun s => F (σ s)) = isum ((List.range K).map fun s => isum ((List.range K).map fun t => if t = σ s then F t else 0)) :=
    isum_range_congr _ _ _ (fun s hs => by rw [isum_one F (σ s) K, if_pos (h s hs).1])
  rw [e1, isum_range_swap]
  refine isum_range_congr _ _ _ (fun t ht => ?_)
  have e2 : isum ((List.range K).map fun s => if t = σ s then F t else 0) = isum ((List.range K).map fun s => if s = σ t then F t else 0) := by
    refine isum_range_congr _ _ _ (fun s hs => ?_)
    by_cases e : t = σ s
    · rw [if_pos e, if_pos (by rw [e, (h s hs).2])]
    · rw [if_neg e, if_neg (fun e2 => e (by rw [e2, (h t ht).2]))]
  rw [e2, isum_one (fun _ => F t) (σ t) K, if_pos (h t ht).1]
/-- All others but one. -/
def others (n i s : Nat) : Nat := (2 ^ n - (s + 1)) ^^^ 2 ^ i
theorem others_bit {n i s : Nat} (hs : s < 2 ^ n) (k : Nat) (hk : k < n) : (others n i s).testBit k = if k = i then s.testBit k else !s.testBit k := by
  unfold others
  rw [Nat.testBit_xor, Nat.testBit_two_pow_sub_succ hs, Nat.testBit_two_pow]
  by_cases e : k = i
  · subst e; simp [hk]
  · rw [if_neg e]
    have : ¬ i = k := fun h => e h.symm
    simp [this, hk]
theorem others_lt {n i s : Nat} (hi : i < n) : others n i s < 2 ^ n := by
  have hp : 0 < 2 ^ n := Nat.pow_pos (by omega)
  exact Nat.xor_lt_two_pow (by omega) (Nat.pow_lt_pow_right (by omega) hi)
theorem others_twice {n i s : Nat} (hi : i < n) (hs : s < 2 ^ n) : others n i (others n i s) = s :=
  bits_eq (others_lt hi) hs (fun j hj => by
    rw [others_bit (others_lt hi) j hj, others_bit hs j hj]
    split <;> simp)
theorem many_others {n i s : Nat} (hs : s < 2 ^ n) (hb : s.testBit i = false) : ∀ k, k ≤ n → many1 s k + many1 (others n i s) k + (if i < k then 1 else 0) = k
  | 0, _ => by simp [many1]
  | k + 1, h => by
    have ih := many_others hs hb k (by omega)
    rw [many1, many1, others_bit hs k (by omega)]
    by_cases e : k = i
    · subst e
      rw [if_pos rfl, hb]
      simp at ih ⊢
      omega
    · rw [if_neg e]
      by_cases h2 : i < k
      · rw [if_pos h2] at ih
        rw [if_pos (show i < k + 1 by omega)]
        cases s.testBit k <;> simp <;> omega
      · rw [if_neg h2] at ih
        rw [if_neg (show ¬ i < k + 1 by omega)]
        cases s.testBit k <;> simp <;> omega
theorem setP_others {n i s : Nat} (xs : List Int) (hs : s < 2 ^ n) (hb : s.testBit i = false) : ∀ k, k ≤ n → setP xs s k + setP xs (others n i s) k + (if i < k then ith xs i else 0) = isum ((List.range k).map fun j => ith xs j)
  | 0, _ => by simp [setP, isum_nil]
  | k + 1, h => by
    have ih := setP_others xs hs hb k (by omega)
    rw [setP, setP, others_bit hs k (by omega), range_snoc, isum_append, isum_cons, isum_nil, ← ih]
    by_cases e : k = i
    · subst e
      rw [if_pos rfl, hb]
      simp
    · rw [if_neg e]
      by_cases h2 : i < k
      · rw [if_pos h2, if_pos (show i < k + 1 by omega)]
        cases s.testBit k <;> simp <;> omega
      · rw [if_neg h2, if_neg (show ¬ i < k + 1 by omega)]
        cases s.testBit k <;> simp <;> omega
theorem setP_nonneg (xs : List Int) (h0 : ∀ i, i < xs.length → 0 ≤ ith xs i) (s : Nat) : ∀ k, k ≤ xs.length → 0 ≤ setP xs s k
  | 0, _ => by simp [setP]
  | k + 1, h => by
    have := setP_nonneg xs h0 s k (by omega)
    have := h0 k (by omega)
    rw [setP]; split <;> omega
/-- What is known of a set and of all others but one. -/
theorem others_sums (xs : List Int) (h0 : ∀ i, i < xs.length → 0 ≤ ith xs i) (i s : Nat) (hi : i < xs.length) (hs : s < 2 ^ xs.length) (hb : s.testBit i = false) :
    setP xs (others xs.length i s) xs.length = isum xs - ith xs i - setP xs s xs.length ∧ many1 (others xs.length i s) xs.length = xs.length - 1 - many1 s xs.length ∧ xs.length - 1 - many1 (others xs.length i s) xs.length = many1 s xs.length ∧ 0 ≤ setP xs s xs.length ∧ 0 ≤ setP xs (others xs.length i s) xs.length := by
  have h1 := many_others (n := xs.length) hs hb xs.length (Nat.le_refl _)
  have h2 := setP_others (n := xs.length) xs hs hb xs.length (Nat.le_refl _)
  rw [if_pos hi] at h1 h2
  rw [← isum_eq_range] at h2
  have h3 := setP_nonneg xs h0 s xs.length (Nat.le_refl _)
  have h4 := setP_nonneg xs h0 (others xs.length i s) xs.length (Nat.le_refl _)
  omega
theorem inTurn_dual (E : Int) (xs : List Int) (h0 : ∀ i, i < xs.length → 0 ≤ ith xs i) (hE : 0 ≤ E) (hS : E ≤ isum xs) (i : Nat) (hi : i < xs.length) :
    ith (inTurnP E xs).1 i + ith (inTurnP (isum xs - E) xs).1 i = ith (inTurnP (isum xs) xs).1 i := by
  rw [inTurn_sets E hE xs h0 i hi, inTurn_sets (isum xs - E) (by omega) xs h0 i hi, inTurn_sets (isum xs) (by omega) xs h0 i hi,
    ← isum_turned (others xs.length i) (2 ^ xs.length) (fun s hs => ⟨others_lt hi, others_twice hi hs⟩) (fun s => setTerm (isum xs - E) xs i s), ← isum_range_add]
  refine isum_range_congr _ _ _ (fun s hs => ?_)
  unfold setTerm
  rw [others_bit hs i hi, if_pos rfl]
  cases hb : s.testBit i with
  | true => simp
  | false =>
    obtain ⟨e1, e2, e3, e4, e5⟩ := others_sums xs h0 i s hi hs hb
    rw [if_neg (by simp), if_neg (by simp), if_neg (by simp)]
    unfold restP payP
    rw [e3, e2, e1]
    have hx := h0 i hi
    rw [e1] at e5
    generalize setP xs s xs.length = C at *
    generalize isum xs = S at *
    generalize ith xs i = x at *
    generalize (fact (many1 s xs.length) : Int) = a
    generalize (fact (xs.length - 1 - many1 s xs.length) : Int) = b
    have k : min x (max 0 (E - C)) + min x (max 0 (S - E - (S - x - C))) = min x (max 0 (S - C)) := by omega
    rw [← k, Int.mul_add, Int.mul_add, Int.mul_left_comm b a]
theorem inTurn_full (xs : List Int) (h0 : ∀ i, i < xs.length → 0 ≤ ith xs i) (i : Nat) (hi : i < xs.length) : ith (inTurnP (isum xs) xs).1 i = ith xs i * fact xs.length := by
  obtain ⟨hlen, h2⟩ := inTurn_gets (isum xs) xs
  have hS : 0 ≤ isum xs := by
    rw [isum_eq_range]
    have := isum_range_le (fun _ => 0) (fun i => ith xs i) xs.length (fun i hi => h0 i hi)
    have e : isum ((List.range xs.length).map fun _ => (0 : Int)) = 0 := by
      have := isum_range_mul (fun _ => (0 : Int)) 0 xs.length
      simpa using this
    omega
  have hb := fun k (hk : k < xs.length) => gets_bounds xs h0 xs.length (isum xs) (List.replicate xs.length false) k (by simp) (wait_all _) hS hk (bth_none _ _)
  have hs := gets_sum xs h0 xs.length (isum xs) (List.replicate xs.length false) (by simp) (wait_all _) hS
  rw [sumW_none, sumW_none, ← isum_eq_range, Int.min_self] at hs
  have e1 : isum (xs.map fun x => x * fact xs.length) = isum xs * fact xs.length := by
    have := isum_map_mul id (fact xs.length) xs
    simpa using this
  -- no term falls short
  have key : ∀ k, k ≤ xs.length → isum ((List.range k).map fun j => gets xs xs.length (isum xs) (List.replicate xs.length false) j) ≤ isum ((List.range k).map fun j => ith xs j * fact xs.length) ∧
      (isum ((List.range k).map fun j => ith xs j * fact xs.length) ≤ isum ((List.range k).map fun j => gets xs xs.length (isum xs) (List.replicate xs.length false) j) → ∀ j, j < k → gets xs xs.length (isum xs) (List.replicate xs.length false) j = ith xs j * fact xs.length) := by
    intro k
    induction k with
    | zero => intro _; simp
    | succ k ih =>
      intro hk
      obtain ⟨i1, i2⟩ := ih (by omega)
      have := hb k (by omega)
      rw [range_snoc, range_snoc, isum_append, isum_append, isum_cons, isum_cons, isum_nil]
      refine ⟨by omega, fun h j hj => ?_⟩
      by_cases e : j = k
      · subst e; omega
      · exact i2 (by omega) j (by omega)
  rw [h2 i hi]
  refine (key xs.length (Nat.le_refl _)).2 ?_ i hi
  rw [hs, isum_range_mul (fun j => ith xs j), ← isum_eq_range]
  omega
/-- The mean of what one adds, all orders together. -/
def addsP (E : Int) (xs : List Int) (i s : Nat) : Int :=
  if s.testBit i = true then 0 else (fact (many1 s xs.length) : Int) * fact (xs.length - 1 - many1 s xs.length) * (ith (gameP E xs) (s + 2 ^ i) - ith (gameP E xs) s)
theorem leftP_setP (E : Int) (xs : List Int) (s : Nat) : ∀ k, leftP E xs s k = E - isum ((List.range k).map fun j => ith xs j) + setP xs s k
  | 0 => by simp [leftP, setP, isum_nil]
  | k + 1 => by
    rw [leftP, setP, leftP_setP E xs s k, range_snoc, isum_append, isum_cons, isum_nil]
    cases s.testBit k <;> simp <;> omega
theorem add_or {s i : Nat} (h : s.testBit i = false) : s + 2 ^ i = s ||| 2 ^ i := by
  apply Nat.eq_of_testBit_eq
  intro j
  rw [bit_or]
  by_cases e : j = i
  · subst e
    rw [if_pos rfl, Nat.add_comm, Nat.testBit_two_pow_add_eq, h]; rfl
  · rw [if_neg e]
    have h1 : s = 2 ^ (i + 1) * (s / 2 ^ (i + 1)) + s % 2 ^ (i + 1) := (Nat.div_add_mod _ _).symm
    have hlt : s % 2 ^ (i + 1) < 2 ^ i := by
      have h2 := Nat.mod_lt s (Nat.pow_pos (show 0 < 2 by omega) (n := i + 1))
      by_cases h3 : s % 2 ^ (i + 1) < 2 ^ i
      · exact h3
      · have h4 : (s % 2 ^ (i + 1)).testBit i = true := by
          apply Nat.testBit_of_two_pow_le_and_two_pow_add_one_gt <;> omega
        rw [Nat.testBit_mod_two_pow, h] at h4
        simp at h4
    have h5 : s % 2 ^ (i + 1) + 2 ^ i < 2 ^ (i + 1) := by
      have h7 : 2 ^ (i + 1) = 2 ^ i * 2 := Nat.pow_succ _ _
      generalize s % 2 ^ (i + 1) = y at *
      omega
    have h6 : s + 2 ^ i = 2 ^ (i + 1) * (s / 2 ^ (i + 1)) + (s % 2 ^ (i + 1) + 2 ^ i) := by omega
    rw [h6, Nat.testBit_two_pow_mul_add _ h5]
    conv => rhs; rw [h1, Nat.testBit_two_pow_mul_add _ (Nat.mod_lt _ (Nat.pow_pos (by omega)))]
    split
    · rename_i hj
      rw [Nat.add_comm]
      have : j < i := by omega
      rw [Nat.testBit_two_pow_add_gt this]
    · rfl
theorem shapley (E : Int) (xs : List Int) (h0 : ∀ i, i < xs.length → 0 ≤ ith xs i) (hE : 0 ≤ E) (i : Nat) (hi : i < xs.length) :
    isum ((List.range (2 ^ xs.length)).map fun s => addsP E xs i s) = ith (inTurnP E xs).1 i := by
  rw [inTurn_sets E hE xs h0 i hi, ← isum_turned (others xs.length i) (2 ^ xs.length) (fun s hs => ⟨others_lt hi, others_twice hi hs⟩) (fun s => setTerm E xs i s)]
  refine isum_range_congr _ _ _ (fun s hs => ?_)
  unfold addsP setTerm
  rw [others_bit hs i hi, if_pos rfl]
  cases hb : s.testBit i with
  | true => rfl
  | false =>
    obtain ⟨e1, e2, e3, e4, e5⟩ := others_sums xs h0 i s hi hs hb
    have hor : s ||| 2 ^ i < 2 ^ xs.length := Nat.or_lt_two_pow hs (Nat.pow_lt_pow_right (by omega) hi)
    rw [if_neg (by simp), if_neg (by simp), add_or hb]
    unfold restP payP
    have g : ∀ t, t < 2 ^ xs.length → ith (gameP E xs) t = max (E - isum xs + setP xs t xs.length) 0 := fun t ht => by
      unfold gameP
      rw [ith_map_range _ _ _ ht, leftP_setP, ← isum_eq_range]
    rw [g _ hor, g _ hs, e3, e2, e1, setP_or xs s i hb, if_pos hi]
    have hx := h0 i hi
    rw [e1] at e5
    generalize setP xs s xs.length = C at *
    generalize isum xs = S at *
    generalize ith xs i = x at *
    generalize (fact (many1 s xs.length) : Int) = a
    generalize (fact (xs.length - 1 - many1 s xs.length) : Int) = b
    have k : max (E - S + (C + x)) 0 - max (E - S + C) 0 = min x (max 0 (E - (S - x - C))) := by omega
    rw [k, Int.mul_comm a b, Int.mul_assoc]
end Go.Proofs.Ytcngecibljgndaa
