/- The specification's whole numbers of any size: addD, subD. -/
import Derived.Test.YtcngecibljgndaaBA
namespace Go.Proofs.Ytcngecibljgndaa
open Go.RowKit Go.Shelf

/-- The digits of a number lie in memory. -/
structure DigsIn (w : World) (ao : Option Addr) (n A : Nat) : Prop where
  len : (digs n).length = A
  ints : IntsIn w ao (digs n)
theorem DigsIn.ext {w w' : World} {ao : Option Addr} {n A : Nat} (h : DigsIn w ao n A) (hx : Ext w w') : DigsIn w' ao n A := ⟨h.len, h.ints.ext hx⟩
theorem DigsIn.at_ {w : World} {ao : Option Addr} {n A : Nat} (h : DigsIn w ao n A) (k : Nat) (hk : k < A) : ∃ b off, ao = some ⟨b, off, none⟩ ∧ b < w.heap.size ∧ w.cell? ⟨b, off + k, none⟩ = some (.int .i64 (dig n k)) := by
  obtain ⟨b, off, h1, h2, h3⟩ := h.ints k (by rw [h.len]; exact hk)
  exact ⟨b, off, h1, h2, by rw [h3, ith_getD, digs_at]⟩
theorem DigsIn.many {w : World} {ao : Option Addr} {n A : Nat} (h : DigsIn w ao n A) : many n = A := by rw [← digs_length]; exact h.len
/-- Digits are handed back. -/
def Dg (w : World) (n : Nat) (most : Nat) (e : Ending) (w' : World) : Prop := ∃ v l, e = .returned v ∧ Own w' w.heap.size 1 v (ints l) ∧ Digits l ∧ worth l = (n : Int) ∧ l.length ≤ most ∧ Ext w w'
set_option maxRecDepth 100000 in
set_option maxHeartbeats 1000000 in
theorem addD_calls (w : World) (ao bo : Option Addr) (cap cap2 A B : Nat) (m n : Nat) (hI : DigsIn w ao m A) (hJ : DigsIn w bo n B) (hA : A ≤ 10000) (hB : B ≤ 10000) :
    Calls Try.prog 115 #[.slice ao A cap, .slice bo B cap2] w (Dg w (m + n) (A + B + 1)) := by
  obtain ⟨i0, hi, hz0, hz1, hz2⟩ := info_parts info_int
  obtain ⟨W, hW⟩ : ∃ W, W = w.heap.size := ⟨_, rfl⟩
  have HmA := Lib.hid hI.many
  have HnB := Lib.hid hJ.many
  go_enter Try.func115, Try.ntmps115
  go_wp2_with fail
  go_loopw [5, 6, 7] (fun ov cv iv wr => ∃ (k q : Nat), k ≤ A + B + 1 ∧ iv = .int .i64 k ∧ cv = .int .i64 q ∧ q ≤ 1 ∧ (k ≤ A ∨ k ≤ B ∨ q = 0) ∧ Hid (q = (m % 10000 ^ k + n % 10000 ^ k) / 10000 ^ k) ∧ Ext w wr ∧ Own wr W 1 ov (ints (low k (m + n)))) (fun _ _ iv _ => A + B + 2 - (intOf iv).toNat)
  case atStart => exact ⟨0, 0, by omega, rfl, rfl, by omega, by omega, Lib.hid (by simp [Nat.mod_one]), Ext.refl _, Own.nil _ _ _⟩
  case round =>
    obtain ⟨k, q, hk, rfl, rfl, hq1, hkq, HC, hx, ho⟩ := hrel
    have hWr : W ≤ wr.heap.size := by rw [hW]; exact hx.size
    obtain ⟨x, hxx⟩ : ∃ x, x = dig m k := ⟨_, rfl⟩
    obtain ⟨y, hyy⟩ : ∃ y, y = dig n k := ⟨_, rfl⟩
    have hx0 : A ≤ k → x = 0 := fun h => by rw [hxx]; exact dig_out (by rw [HmA.out]; exact h)
    have hy0 : B ≤ k → y = 0 := fun h => by rw [hyy]; exact dig_out (by rw [HnB.out]; exact h)
    have hx9 : x < 10000 := by rw [hxx]; exact dig_lt _ _
    have hy9 : y < 10000 := by rw [hyy]; exact dig_lt _ _
    have hkl : (low k (m + n)).length = k := low_length _ _
    have hlow := ho.lt
    have st := add_step m n k
    rw [← HC.out, ← hxx, ← hyy] at st
    obtain ⟨r, hr⟩ : ∃ r, r = (q + x + y) % 10000 := ⟨_, rfl⟩
    obtain ⟨q', hq⟩ : ∃ q', q' = (q + x + y) / 10000 := ⟨_, rfl⟩
    have HE : Hid (low k (m + n) ++ [(r : Int)] = low (k + 1) (m + n)) := Lib.hid (by rw [low_snoc, st.1, hr])
    have HC2 : Hid (q' = (m % 10000 ^ (k + 1) + n % 10000 ^ (k + 1)) / 10000 ^ (k + 1)) := Lib.hid (by rw [st.2, hq])
    have HX := Lib.hid hxx
    have HY := Lib.hid hyy
    clear st hxx hyy
    have hq1 : q' ≤ 1 := by omega
    have hq0 : A ≤ k → B ≤ k → q' = 0 := fun h1 h2 => by have := hx0 h1; have := hy0 h2; omega
    by_cases hkA : k < A
    · obtain ⟨b, off, rfl, hb, hc⟩ := (hI.ext hx).at_ k hkA
      rw [← HX.out] at hc
      by_cases hkB : k < B
      · obtain ⟨b2, off2, rfl, hb2, hc2⟩ := (hJ.ext hx).at_ k hkB
        rw [← HY.out] at hc2
        have hs1 : (((q : Int) + (x : Int) + (y : Int))).tmod 10000 = (r : Int) := by rw [show ((q : Int) + (x : Int) + (y : Int)) = ((q + x + y : Nat) : Int) by omega, Int.tmod_eq_emod_of_nonneg (by omega), hr]; omega
        have hs2 : (((q : Int) + (x : Int) + (y : Int))).tdiv 10000 = (q' : Int) := by rw [show ((q : Int) + (x : Int) + (y : Int)) = ((q + x + y : Nat) : Int) by omega, Int.tdiv_eq_ediv_of_nonneg (by omega), hq]; omega
        clear hr hq
        go_wp2_with (at_builtin; refine wpList_append_Own _ rfl _ _ 22 rfl 3 i0 (.int .i64 0) 1 8 Try.underlying22 hi hz0 hz1 hz2 rfl (by omega) W _ _ rfl (Own.ext ho ((Ext.refl _).alloc _)) (by first | omega | (simp; omega)) _ 1 1 [.int .i64 ((r : Int) : Int)] rfl rfl (one_cell _ _ _ _ rfl) (by simp [Value.oneCell']) (by rw [ints_length, hkl]; unfold maxLen; simp only [List.length_cons, List.length_nil]; omega) (by rw [ints_length, hkl]; simp only [List.length_cons, List.length_nil]; omega) ?_; intro v5 w5 ho5 hg5 hb5)
        rw [ints_snoc, HE.out] at ho5
        exact ⟨⟨k + 1, q', by omega, rfl, rfl, hq1, by omega, HC2, (hx.alloc _).onto hg5 (fun q hq => by have := (hlow q hq).1; omega), ho5⟩, by simp only [intOf]; omega⟩
      · have hy00 : y = 0 := hy0 (by omega)
        have hs1 : (((q : Int) + (x : Int))).tmod 10000 = (r : Int) := by rw [show ((q : Int) + (x : Int)) = ((q + x + y : Nat) : Int) by omega, Int.tmod_eq_emod_of_nonneg (by omega), hr]; omega
        have hs2 : (((q : Int) + (x : Int))).tdiv 10000 = (q' : Int) := by rw [show ((q : Int) + (x : Int)) = ((q + x + y : Nat) : Int) by omega, Int.tdiv_eq_ediv_of_nonneg (by omega), hq]; omega
        clear hr hq
        go_wp2_with (at_builtin; refine wpList_append_Own _ rfl _ _ 22 rfl 3 i0 (.int .i64 0) 1 8 Try.underlying22 hi hz0 hz1 hz2 rfl (by omega) W _ _ rfl (Own.ext ho ((Ext.refl _).alloc _)) (by first | omega | (simp; omega)) _ 1 1 [.int .i64 ((r : Int) : Int)] rfl rfl (one_cell _ _ _ _ rfl) (by simp [Value.oneCell']) (by rw [ints_length, hkl]; unfold maxLen; simp only [List.length_cons, List.length_nil]; omega) (by rw [ints_length, hkl]; simp only [List.length_cons, List.length_nil]; omega) ?_; intro v5 w5 ho5 hg5 hb5)
        rw [ints_snoc, HE.out] at ho5
        exact ⟨⟨k + 1, q', by omega, rfl, rfl, hq1, by omega, HC2, (hx.alloc _).onto hg5 (fun q hq => by have := (hlow q hq).1; omega), ho5⟩, by simp only [intOf]; omega⟩
    · have hx00 : x = 0 := hx0 (by omega)
      by_cases hkB : k < B
      · obtain ⟨b2, off2, rfl, hb2, hc2⟩ := (hJ.ext hx).at_ k hkB
        rw [← HY.out] at hc2
        have hs1 : (((q : Int) + (y : Int))).tmod 10000 = (r : Int) := by rw [show ((q : Int) + (y : Int)) = ((q + x + y : Nat) : Int) by omega, Int.tmod_eq_emod_of_nonneg (by omega), hr]; omega
        have hs2 : (((q : Int) + (y : Int))).tdiv 10000 = (q' : Int) := by rw [show ((q : Int) + (y : Int)) = ((q + x + y : Nat) : Int) by omega, Int.tdiv_eq_ediv_of_nonneg (by omega), hq]; omega
        clear hr hq
        go_wp2_with (at_builtin; refine wpList_append_Own _ rfl _ _ 22 rfl 3 i0 (.int .i64 0) 1 8 Try.underlying22 hi hz0 hz1 hz2 rfl (by omega) W _ _ rfl (Own.ext ho ((Ext.refl _).alloc _)) (by first | omega | (simp; omega)) _ 1 1 [.int .i64 ((r : Int) : Int)] rfl rfl (one_cell _ _ _ _ rfl) (by simp [Value.oneCell']) (by rw [ints_length, hkl]; unfold maxLen; simp only [List.length_cons, List.length_nil]; omega) (by rw [ints_length, hkl]; simp only [List.length_cons, List.length_nil]; omega) ?_; intro v5 w5 ho5 hg5 hb5)
        rw [ints_snoc, HE.out] at ho5
        exact ⟨⟨k + 1, q', by omega, rfl, rfl, hq1, by omega, HC2, (hx.alloc _).onto hg5 (fun q hq => by have := (hlow q hq).1; omega), ho5⟩, by simp only [intOf]; omega⟩
      · have hy00 : y = 0 := hy0 (by omega)
        by_cases hq00 : 0 < q
        · have hs1 : ((q : Int)).tmod 10000 = (r : Int) := by rw [show (q : Int) = ((q + x + y : Nat) : Int) by omega, Int.tmod_eq_emod_of_nonneg (by omega), hr]; omega
          have hs2 : ((q : Int)).tdiv 10000 = (q' : Int) := by rw [show (q : Int) = ((q + x + y : Nat) : Int) by omega, Int.tdiv_eq_ediv_of_nonneg (by omega), hq]; omega
          clear hr hq
          go_wp2_with (at_builtin; refine wpList_append_Own _ rfl _ _ 22 rfl 3 i0 (.int .i64 0) 1 8 Try.underlying22 hi hz0 hz1 hz2 rfl (by omega) W _ _ rfl (Own.ext ho ((Ext.refl _).alloc _)) (by first | omega | (simp; omega)) _ 1 1 [.int .i64 ((r : Int) : Int)] rfl rfl (one_cell _ _ _ _ rfl) (by simp [Value.oneCell']) (by rw [ints_length, hkl]; unfold maxLen; simp only [List.length_cons, List.length_nil]; omega) (by rw [ints_length, hkl]; simp only [List.length_cons, List.length_nil]; omega) ?_; intro v5 w5 ho5 hg5 hb5)
          rw [ints_snoc, HE.out] at ho5
          exact ⟨⟨k + 1, q', by omega, rfl, rfl, hq1, by omega, HC2, (hx.alloc _).onto hg5 (fun q hq => by have := (hlow q hq).1; omega), ho5⟩, by simp only [intOf]; omega⟩
        · have hw : worth (low k (m + n)) = ((m + n : Nat) : Int) := by
            rw [worth_low]
            have h1 := HC.out
            have h2 : m < 10000 ^ k := Nat.lt_of_lt_of_le (lt_many m) (Nat.pow_le_pow_right (by omega) (by rw [HmA.out]; omega))
            have h3 : n < 10000 ^ k := Nat.lt_of_lt_of_le (lt_many n) (Nat.pow_le_pow_right (by omega) (by rw [HnB.out]; omega))
            rw [Nat.mod_eq_of_lt h2, Nat.mod_eq_of_lt h3] at h1
            have h4 : m + n < 10000 ^ k := (Nat.div_eq_zero_iff_lt (Nat.pow_pos (by omega))).1 (by omega)
            rw [Nat.mod_eq_of_lt h4]
          have HWW := Lib.hid hw
          clear hw hr hq
          go_wp2_with fail
          go_ret
          exact ⟨_, _, rfl, by rw [← hW]; exact ho, digits_low _ _, HWW.out, by rw [low_length]; exact hk, hx⟩
set_option maxRecDepth 100000 in
set_option maxHeartbeats 1000000 in
theorem subD_calls (w : World) (ao bo : Option Addr) (cap cap2 A B : Nat) (m n : Nat) (hnm : n ≤ m) (hI : DigsIn w ao m A) (hJ : DigsIn w bo n B) (hA : A ≤ 10000) :
    Calls Try.prog 116 #[.slice ao A cap, .slice bo B cap2] w (Made w (digs (m - n))) := by
  obtain ⟨i0, hi, hz0, hz1, hz2⟩ := info_parts info_int
  obtain ⟨W, hW⟩ : ∃ W, W = w.heap.size := ⟨_, rfl⟩
  have HmA := Lib.hid hI.many
  have HnB := Lib.hid hJ.many
  have HNM := Lib.hid hnm
  clear hnm
  go_enter Try.func116, Try.ntmps116
  go_wp2_with fail
  go_loopw [5, 6, 7] (fun ov bv iv wr => ∃ (k bq : Nat), k ≤ A ∧ iv = .int .i64 k ∧ bv = .int .i64 bq ∧ bq ≤ 1 ∧ Hid ((bq = 1) ↔ m % 10000 ^ k < n % 10000 ^ k) ∧ Ext w wr ∧ Own wr W 1 ov (ints (low k (m - n)))) (fun _ _ iv _ => A - (intOf iv).toNat)
  case atStart => exact ⟨0, 0, by omega, rfl, rfl, by omega, Lib.hid (by simp [Nat.mod_one]), Ext.refl _, Own.nil _ _ _⟩
  case round =>
    obtain ⟨k, bq, hk, rfl, rfl, hq1, HC, hx, ho⟩ := hrel
    have hWr : W ≤ wr.heap.size := by rw [hW]; exact hx.size
    by_cases hkA : k < A
    · obtain ⟨x, hxx⟩ : ∃ x, x = dig m k := ⟨_, rfl⟩
      obtain ⟨y, hyy⟩ : ∃ y, y = dig n k := ⟨_, rfl⟩
      have hy0 : B ≤ k → y = 0 := fun h => by rw [hyy]; exact dig_out (by rw [HnB.out]; exact h)
      have hx9 : x < 10000 := by rw [hxx]; exact dig_lt _ _
      have hy9 : y < 10000 := by rw [hyy]; exact dig_lt _ _
      have hkl : (low k (m - n)).length = k := low_length _ _
      have hlow := ho.lt
      obtain ⟨e1, e2⟩ := sub_step m n k HNM.out
      have eb : (if m % 10000 ^ k < n % 10000 ^ k then (1 : Int) else 0) = (bq : Int) := by
        have := HC.out
        split <;> omega
      rw [eb, ← hxx, ← hyy] at e1 e2
      have HX := Lib.hid hxx
      have HY := Lib.hid hyy
      clear hxx hyy eb
      obtain ⟨b, off, rfl, hb, hc⟩ := (hI.ext hx).at_ k hkA
      rw [← HX.out] at hc
      by_cases hkB : k < B
      · obtain ⟨b2, off2, rfl, hb2, hc2⟩ := (hJ.ext hx).at_ k hkB
        rw [← HY.out] at hc2
        by_cases hs : (x : Int) - (bq : Int) - (y : Int) < 0
        · rw [if_pos (e2.2 hs)] at e1
          have HE : Hid (low k (m - n) ++ [((x : Int) - (bq : Int) - (y : Int) + 10000)] = low (k + 1) (m - n)) := Lib.hid (by
            rw [low_snoc]
            have : (dig (m - n) k : Int) = ((x : Int) - (bq : Int) - (y : Int) + 10000) := by omega
            rw [this])
          have HC2 : Hid (((1 : Nat) = 1) ↔ m % 10000 ^ (k + 1) < n % 10000 ^ (k + 1)) := Lib.hid (by omega)
          clear e1 e2
          go_wp2_with (at_builtin; refine wpList_append_Own _ rfl _ _ 22 rfl 3 i0 (.int .i64 0) 1 8 Try.underlying22 hi hz0 hz1 hz2 rfl (by omega) W _ _ rfl (Own.ext ho ((Ext.refl _).alloc _)) (by first | omega | (simp; omega)) _ 1 1 [.int .i64 (((x : Int) - (bq : Int) - (y : Int) + 10000) : Int)] rfl rfl (one_cell _ _ _ _ rfl) (by simp [Value.oneCell']) (by rw [ints_length, hkl]; unfold maxLen; simp only [List.length_cons, List.length_nil]; omega) (by rw [ints_length, hkl]; simp only [List.length_cons, List.length_nil]; omega) ?_; intro v5 w5 ho5 hg5 hb5)
          rw [ints_snoc, HE.out] at ho5
          exact ⟨⟨k + 1, 1, by omega, rfl, rfl, by omega, HC2, (hx.alloc _).onto hg5 (fun q hq => by have := (hlow q hq).1; omega), ho5⟩, by simp only [intOf]; omega⟩
        · rw [if_neg (fun h => hs (e2.1 h))] at e1
          have HE : Hid (low k (m - n) ++ [((x : Int) - (bq : Int) - (y : Int))] = low (k + 1) (m - n)) := Lib.hid (by
            rw [low_snoc]
            have : (dig (m - n) k : Int) = ((x : Int) - (bq : Int) - (y : Int)) := by omega
            rw [this])
          have HC2 : Hid (((0 : Nat) = 1) ↔ m % 10000 ^ (k + 1) < n % 10000 ^ (k + 1)) := Lib.hid (by omega)
          clear e1 e2
          go_wp2_with (at_builtin; refine wpList_append_Own _ rfl _ _ 22 rfl 3 i0 (.int .i64 0) 1 8 Try.underlying22 hi hz0 hz1 hz2 rfl (by omega) W _ _ rfl (Own.ext ho ((Ext.refl _).alloc _)) (by first | omega | (simp; omega)) _ 1 1 [.int .i64 (((x : Int) - (bq : Int) - (y : Int)) : Int)] rfl rfl (one_cell _ _ _ _ rfl) (by simp [Value.oneCell']) (by rw [ints_length, hkl]; unfold maxLen; simp only [List.length_cons, List.length_nil]; omega) (by rw [ints_length, hkl]; simp only [List.length_cons, List.length_nil]; omega) ?_; intro v5 w5 ho5 hg5 hb5)
          rw [ints_snoc, HE.out] at ho5
          exact ⟨⟨k + 1, 0, by omega, rfl, rfl, by omega, HC2, (hx.alloc _).onto hg5 (fun q hq => by have := (hlow q hq).1; omega), ho5⟩, by simp only [intOf]; omega⟩
      · have hy00 : y = 0 := hy0 (by omega)
        by_cases hs : (x : Int) - (bq : Int) < 0
        · rw [if_pos (e2.2 (by omega))] at e1
          have HE : Hid (low k (m - n) ++ [((x : Int) - (bq : Int) + 10000)] = low (k + 1) (m - n)) := Lib.hid (by
            rw [low_snoc]
            have : (dig (m - n) k : Int) = ((x : Int) - (bq : Int) + 10000) := by omega
            rw [this])
          have HC2 : Hid (((1 : Nat) = 1) ↔ m % 10000 ^ (k + 1) < n % 10000 ^ (k + 1)) := Lib.hid (by omega)
          clear e1 e2
          go_wp2_with (at_builtin; refine wpList_append_Own _ rfl _ _ 22 rfl 3 i0 (.int .i64 0) 1 8 Try.underlying22 hi hz0 hz1 hz2 rfl (by omega) W _ _ rfl (Own.ext ho ((Ext.refl _).alloc _)) (by first | omega | (simp; omega)) _ 1 1 [.int .i64 (((x : Int) - (bq : Int) + 10000) : Int)] rfl rfl (one_cell _ _ _ _ rfl) (by simp [Value.oneCell']) (by rw [ints_length, hkl]; unfold maxLen; simp only [List.length_cons, List.length_nil]; omega) (by rw [ints_length, hkl]; simp only [List.length_cons, List.length_nil]; omega) ?_; intro v5 w5 ho5 hg5 hb5)
          rw [ints_snoc, HE.out] at ho5
          exact ⟨⟨k + 1, 1, by omega, rfl, rfl, by omega, HC2, (hx.alloc _).onto hg5 (fun q hq => by have := (hlow q hq).1; omega), ho5⟩, by simp only [intOf]; omega⟩
        · rw [if_neg (fun h => hs (by have := e2.1 h; omega))] at e1
          have HE : Hid (low k (m - n) ++ [((x : Int) - (bq : Int))] = low (k + 1) (m - n)) := Lib.hid (by
            rw [low_snoc]
            have : (dig (m - n) k : Int) = ((x : Int) - (bq : Int)) := by omega
            rw [this])
          have HC2 : Hid (((0 : Nat) = 1) ↔ m % 10000 ^ (k + 1) < n % 10000 ^ (k + 1)) := Lib.hid (by omega)
          clear e1 e2
          go_wp2_with (at_builtin; refine wpList_append_Own _ rfl _ _ 22 rfl 3 i0 (.int .i64 0) 1 8 Try.underlying22 hi hz0 hz1 hz2 rfl (by omega) W _ _ rfl (Own.ext ho ((Ext.refl _).alloc _)) (by first | omega | (simp; omega)) _ 1 1 [.int .i64 (((x : Int) - (bq : Int)) : Int)] rfl rfl (one_cell _ _ _ _ rfl) (by simp [Value.oneCell']) (by rw [ints_length, hkl]; unfold maxLen; simp only [List.length_cons, List.length_nil]; omega) (by rw [ints_length, hkl]; simp only [List.length_cons, List.length_nil]; omega) ?_; intro v5 w5 ho5 hg5 hb5)
          rw [ints_snoc, HE.out] at ho5
          exact ⟨⟨k + 1, 0, by omega, rfl, rfl, by omega, HC2, (hx.alloc _).onto hg5 (fun q hq => by have := (hlow q hq).1; omega), ho5⟩, by simp only [intOf]; omega⟩
    · obtain rfl : k = A := by omega
      obtain ⟨so, sc, rfl, hSI, -⟩ := ho.intsShape
      have hwl : (worth (low k (m - n))).toNat = m - n := by
        rw [worth_low, Nat.mod_eq_of_lt]
        · omega
        · have h2 : m < 10000 ^ k := Nat.lt_of_lt_of_le (lt_many m) (Nat.pow_le_pow_right (by omega) (by rw [HmA.out]; omega))
          omega
      have htc := trim_calls wr so sc (low k (m - n)) hSI (digits_low _ _) (by rw [low_length]; omega)
      rw [hwl] at htc
      clear hwl hSI ho
      go_wp2_with fail
      refine htc.mono ?_
      rintro e w3 ⟨v, rfl, ho, hx3⟩
      go_wp2_with fail
      go_ret
      exact ⟨_, rfl, ho.rebase hx.size, hx.trans hx3⟩
end Go.Proofs.Ytcngecibljgndaa
