/- The specification's whole numbers of any size: addD, subD. -/
import Derived.Test.YtefmioppamdceaaDoorMKE
namespace Go.Proofs.YtefmioppamdceaaDoor
--@optional
open Go.RowKit Go.Shelf

/-- The digits of a number lie in memory. -/
structure DigsIn (w : World) (ao : Option Addr) (n A : Nat) : Prop where
  len : (digs n).length = A
  ints : IntsIn w ao (digs n)
theorem DigsIn.ext {w w' : World} {ao : Option Addr} {n A : Nat} (h : DigsIn w ao n A) (hx : Ext w w') : DigsIn w' ao n A := ⟨h.len, h.ints.ext hx⟩
theorem DigsIn.at_ {w : World} {ao : Option Addr} {n A : Nat} (h : DigsIn w ao n A) (k : Nat) (hk : k < A) : ∃ b off, ao = some ⟨b, off, none⟩ ∧ b < w.heap.size ∧ w.cell? ⟨b, off + k, none⟩ = some (.int .i64 (dig n k)) := by
  obtain ⟨b, off, h1, h2, h3⟩ := h.ints k (by rw [h.len]; exact hk)
  exact ⟨b, off, h1, h2, by rw [h3, ith_getD, digs_at]⟩
theorem DigsIn.many {w : World} {ao : Option Addr} {n A : Nat} (h : DigsIn w ao n A) : many n = A := by rw [← digs_length]; exact h.len
/-- Digits are handed back. -/
def Dg (w : World) (n : Nat) (most : Nat) (e : Ending) (w' : World) : Prop := ∃ v l, e = .returned v ∧ Own w' w.heap.size 1 v (ints l) ∧ Digits l ∧ worth l = (n : Int) ∧ l.length ≤ most ∧ Ext w w'
set_option maxRecDepth 100000 in
set_option maxHeartbeats 1000000 in
theorem addD_calls (w : World) (ao bo : Option Addr) (cap cap2 A B : Nat) (m n : Nat) (hI : DigsIn w ao m A) (hJ : DigsIn w bo n B) (hA : A ≤ 10000) (hB : B ≤ 10000) :
    Calls Tryd.prog 104 #[.slice ao A cap, .slice bo B cap2] w (Dg w (m + n) (A + B + 1)) := by
  obtain ⟨i0, hi, hz0, hz1, hz2⟩ := info_parts info_int
  obtain ⟨W, hW⟩ : ∃ W, W = w.heap.size := ⟨_, rfl⟩
  have HmA := Lib.hid hI.many
  have HnB := Lib.hid hJ.many
  go_enter Tryd.func104, Tryd.ntmps104
  go_wp2_with fail
  go_loopw [5, 6, 7] (fun ov cv iv wr => ∃ (k q : Nat), k ≤ A + B + 1 ∧ iv = .int .i64 k ∧ cv = .int .i64 q ∧ q ≤ 1 ∧ (k ≤ A ∨ k ≤ B ∨ q = 0) ∧ Hid (q = (m % 10000 ^ k + n % 10000 ^ k) / 10000 ^ k) ∧ Ext w wr ∧ Own wr W 1 ov (ints (low k (m + n)))) (fun _ _ iv _ => A + B + 2 - (intOf iv).toNat)
  case atStart => exact ⟨0, 0, by omega, rfl, rfl, by omega, by omega, Lib.hid (by simp [Nat.mod_one]), Ext.refl _, Own.nil _ _ _⟩
  case round =>
    obtain ⟨k, q, hk, rfl, rfl, hq1, hkq, HC, hx, ho⟩ := hrel
    have hWr : W ≤ wr.heap.size := by rw [hW]; exact hx.size
    obtain ⟨x, hxx⟩ : ∃ x, x = dig m k := ⟨_, rfl⟩
    obtain ⟨y, hyy⟩ : ∃ y, y = dig n k := ⟨_, rfl⟩
    have hx0 : A ≤ k → x = 0 := fun h => by rw [hxx]; exact dig_out (by rw [HmA.out]; exact h)
    have hy0 : B ≤ k → y = 0 := fun h => by rw [hyy]; exact dig_out (by rw [HnB.out]; exact h)
    have hx9 : x < 10000 := by rw [hxx]; exact dig_lt _ _
    have hy9 : y < 10000 := by rw [hyy]; exact dig_lt _ _
    have hkl : (low k (m + n)).length = k := low_length _ _
    have hlow := ho.lt
    have st := add_step m n k
    rw [← HC.out, ← hxx, ← hyy] at st
    obtain ⟨r, hr⟩ : ∃ r, r = (q + x + y) % 10000 := ⟨_, rfl⟩
    obtain ⟨q', hq⟩ : ∃ q', q' = (q + x + y) / 10000 := ⟨_, rfl⟩
    have HE : Hid (low k (m + n) ++ [(r : Int)] = low (k + 1) (m + n)) := Lib.hid (by rw [low_snoc, st.1, hr])
    have HC2 : Hid (q' = (m % 10000 ^ (k + 1) + n % 10000 ^ (k + 1)) / 10000 ^ (k + 1)) := Lib.hid (by rw [st.2, hq])
    have HX := Lib.hid hxx
    have HY := Lib.hid hyy
    clear st hxx hyy
    have hq1 : q' ≤ 1 := by omega
    have hq0 : A ≤ k → B ≤ k → q' = 0 := fun h1 h2 => by have := hx0 h1; have := hy0 h2; omega
    by_cases hkA : k < A
    · obtain ⟨b, off, rfl, hb, hc⟩ := (hI.ext hx).at_ k hkA
      rw [← HX.out] at hc
      by_cases hkB : k < B
      · obtain ⟨b2, off2, rfl, hb2, hc2⟩ := (hJ.ext hx).at_ k hkB
        rw [← HY.out] at hc2
        have hs1 : (((q : Int) + (x : Int) + (y : Int))).tmod 10000 = (r : Int) := by rw [show ((q : Int) + (x : Int) + (y : Int)) = ((q + x + y : Nat) : Int) by omega, Int.tmod_eq_emod_of_nonneg (by omega), hr]; omega
        have hs2 : (((q : Int) + (x : Int) + (y : Int))).tdiv 10000 = (q' : Int) := by rw [show ((q : Int) + (x : Int) + (y : Int)) = ((q + x + y : Nat) : Int) by omega, Int.tdiv_eq_ediv_of_nonneg (by omega), hq]; omega
        clear hr hq
        go_wp2_with (at_builtin; refine wpList_append_Own _ rfl _ _ 30 rfl 3 i0 (.int .i64 0) 1 8 Tryd.underlying30 hi hz0 hz1 hz2 rfl (by omega) W _ _ rfl (Own.ext ho ((Ext.refl _).alloc _)) (by first | omega | (simp; omega)) _ 1 1 [.int .i64 ((r : Int) : Int)] rfl rfl (one_cell _ _ _ _ rfl) (by simp [Value.oneCell']) (by rw [ints_length, hkl]; unfold maxLen; simp only [List.length_cons, List.length_nil]; omega) (by rw [ints_length, hkl]; simp only [List.length_cons, List.length_nil]; omega) ?_; intro v5 w5 ho5 hg5 hb5)
        rw [ints_snoc, HE.out] at ho5
        exact ⟨⟨k + 1, q', by omega, rfl, rfl, hq1, by omega, HC2, (hx.alloc _).onto hg5 (fun q hq => by have := (hlow q hq).1; omega), ho5⟩, by simp only [intOf]; omega⟩
      · have hy00 : y = 0 := hy0 (by omega)
        have hs1 : (((q : Int) + (x : Int))).tmod 10000 = (r : Int) := by rw [show ((q : Int) + (x : Int)) = ((q + x + y : Nat) : Int) by omega, Int.tmod_eq_emod_of_nonneg (by omega), hr]; omega
        have hs2 : (((q : Int) + (x : Int))).tdiv 10000 = (q' : Int) := by rw [show ((q : Int) + (x : Int)) = ((q + x + y : Nat) : Int) by omega, Int.tdiv_eq_ediv_of_nonneg (by omega), hq]; omega
        clear hr hq
        go_wp2_with (at_builtin; refine wpList_append_Own _ rfl _ _ 30 rfl 3 i0 (.int .i64 0) 1 8 Tryd.underlying30 hi hz0 hz1 hz2 rfl (by omega) W _ _ rfl (Own.ext ho ((Ext.refl _).alloc _)) (by first | omega | (simp; omega)) _ 1 1 [.int .i64 ((r : Int) : Int)] rfl rfl (one_cell _ _ _ _ rfl) (by simp [Value.oneCell']) (by rw [ints_length, hkl]; unfold maxLen; simp only [List.length_cons, List.length_nil]; omega) (by rw [ints_length, hkl]; simp only [List.length_cons, List.length_nil]; omega) ?_; intro v5 w5 ho5 hg5 hb5)
        rw [ints_snoc, HE.out] at ho5
        exact ⟨⟨k + 1, q', by omega, rfl, rfl, hq1, by omega, HC2, (hx.alloc _).onto hg5 (fun q hq => by have := (hlow q hq).1; omega), ho5⟩, by simp only [intOf]; omega⟩
    · have hx00 : x = 0 := hx0 (by omega)
      by_cases hkB : k < B
      · obtain ⟨b2, off2, rfl, hb2, hc2⟩ := (hJ.ext hx).at_ k hkB
        rw [← HY.out] at hc2
        have hs1 : (((q : Int) + (y : Int))).tmod 10000 = (r : Int) := by rw [show ((q : Int) + (y : Int)) = ((q + x + y : Nat) : Int) by omega, Int.tmod_eq_emod_of_nonneg (by omega), hr]; omega
        have hs2 : (((q : Int) + (y : Int))).tdiv 10000 = (q' : Int) := by rw [show ((q : Int) + (y : Int)) = ((q + x + y : Nat) : Int) by omega, Int.tdiv_eq_ediv_of_nonneg (by omega), hq]; omega
        clear hr hq
        go_wp2_with (at_builtin; refine wpList_append_Own _ rfl _ _ 30 rfl 3 i0 (.int .i64 0) 1 8 Tryd.underlying30 hi hz0 hz1 hz2 rfl (by omega) W _ _ rfl (Own.ext ho ((Ext.refl _).alloc _)) (by first | omega | (simp; omega)) _ 1 1 [.int .i64 ((r : Int) : Int)] rfl rfl (one_cell _ _ _ _ rfl) (by simp [Value.oneCell']) (by rw [ints_length, hkl]; unfold maxLen; simp only [List.length_cons, List.length_nil]; omega) (by rw [ints_length, hkl]; simp only [List.length_cons, List.length_nil]; omega) ?_; intro v5 w5 ho5 hg5 hb5)
        rw [ints_snoc, HE.out] at ho5
        exact ⟨⟨k + 1, q', by omega, rfl, rfl, hq1, by omega, HC2, (hx.alloc _).onto hg5 (fun q hq => by have := (hlow q hq).1; omega), ho5⟩, by simp only [intOf]; omega⟩
      · have hy00 : y = 0 := hy0 (by omega)
        by_cases hq00 : 0 < q
        · have hs1 : ((q : Int)).tmod 10000 = (r : Int) := by rw [show (q : Int) = ((q + x + y : Nat) : Int) by omega, Int.tmod_eq_emod_of_nonneg (by omega), hr]; omega
          have hs2 : ((q : Int)).tdiv 10000 = (q' : Int) := by rw [show (q : Int) = ((q + x + y : Nat) : Int) by omega, Int.tdiv_eq_ediv_of_nonneg (by omega), hq]; omega
          clear hr hq
          go_wp2_with (at_builtin; refine wpList_append_Own _ rfl _ _ 30 rfl 3 i0 (.int .i64 0) 1 8 Tryd.underlying30 hi hz0 hz1 hz2 rfl (by omega) W _ _ rfl (Own.ext ho ((Ext.refl _).alloc _)) (by first | omega | (simp; omega)) _ 1 1 [.int .i64 ((r : Int) : Int)] rfl rfl (one_cell _ _ _ _ rfl) (by simp [Value.oneCell']) (by rw [ints_length, hkl]; unfold maxLen; simp only [List.length_cons, List.length_nil]; omega) (by rw [ints_length, hkl]; simp only [List.length_cons, List.length_nil]; omega) ?_; intro v5 w5 ho5 hg5 hb5)
          rw [ints_snoc, HE.out] at ho5
          exact ⟨⟨k + 1, q', by omega, rfl, rfl, hq1, by omega, HC2, (hx.alloc _).onto hg5 (fun q hq => by have := (hlow q hq).1; omega), ho5⟩, by simp only [intOf]; omega⟩
        · have hw : worth (low k (m + n)) = ((m + n : Nat) : Int) := by
            rw [worth_low]
            have h1 := HC.out
            have h2 : m < 10000 ^ k := Nat.lt_of_lt_of_le (lt_many m) (Nat.pow_le_pow_right (by omega) (by rw [HmA.out]; omega))
            have h3 : n < 10000 ^ k := Nat.lt_of_lt_of_le (lt_many n) (Nat.pow_le_pow_right (by omega) (by rw [HnB.out]; omega))
            rw [Nat.mod_eq_of_lt h2, Nat.mod_eq_of_lt h3] at h1
            have h4 : m + n < 10000 ^ k := (Nat.div_eq_zero_iff_lt (Nat.pow_pos (by omega))).1 (by omega)
            rw [Nat.mod_eq_of_lt h4]
          have HWW := Lib.hid hw
          clear hw hr hq
          go_wp2_with fail
          go_ret
          exact ⟨_, _, rfl, by rw [← hW]; exact ho, digits_low _ _, HWW.out, by rw [low_length]; exact hk, hx⟩
set_option maxRecDepth 100000 in
set_option maxHeartbeats 1000000 in
theorem subD_calls (w : World) (ao bo : Option Addr) (cap cap2 A B : Nat) (m n : Nat) (hnm : n ≤ m) (hI : DigsIn w ao m A) (hJ : DigsIn w bo n B) (hA : A ≤ 10000) :
    Calls Tryd.prog 105 #[.slice ao A cap, .slice bo B cap2] w (Made w (digs (m - n))) := by
  obtain ⟨i0, hi, hz0, hz1, hz2⟩ := info_parts info_int
  obtain ⟨W, hW⟩ : ∃ W, W = w.heap.size := ⟨_, rfl⟩
  have HmA := Lib.hid hI.many
  have HnB := Lib.hid hJ.many
  have HNM := Lib.hid hnm
  clear hnm
  go_enter Tryd.func105, Tryd.ntmps105
  go_wp2_with fail
  go_loopw [5, 6, 7] (fun ov bv iv wr => ∃ (k bq : Nat), k ≤ A ∧ iv = .int .i64 k ∧ bv = .int .i64 bq ∧ bq ≤ 1 ∧ Hid ((bq = 1) ↔ m % 10000 ^ k < n % 10000 ^ k) ∧ Ext w wr ∧ Own wr W 1 ov (ints (low k (m - n)))) (fun _ _ iv _ => A - (intOf iv).toNat)
  case atStart => exact ⟨0, 0, by omega, rfl, rfl, by omega, Lib.hid (by simp [Nat.mod_one]), Ext.refl _, Own.nil _ _ _⟩
  case round =>
    obtain ⟨k, bq, hk, rfl, rfl, hq1, HC, hx, ho⟩ := hrel
    have hWr : W ≤ wr.heap.size := by rw [hW]; exact hx.size
    by_cases hkA : k < A
    · obtain ⟨x, hxx⟩ : ∃ x, x = dig m k := ⟨_, rfl⟩
      obtain ⟨y, hyy⟩ : ∃ y, y = dig n k := ⟨_, rfl⟩
      have hy0 : B ≤ k → y = 0 := fun h => by rw [hyy]; exact dig_out (by rw [HnB.out]; exact h)
      have hx9 : x < 10000 := by rw [hxx]; exact dig_lt _ _
      have hy9 : y < 10000 := by rw [hyy]; exact dig_lt _ _
      have hkl : (low k (m - n)).length = k := low_length _ _
      have hlow := ho.lt
      obtain ⟨e1, e2⟩ := sub_step m n k HNM.out
      have eb : (if m % 10000 ^ k < n % 10000 ^ k then (1 : Int) else 0) = (bq : Int) := by
        have := HC.out
        split <;> omega
      rw [eb, ← hxx, ← hyy] at e1 e2
      have HX := Lib.hid hxx
      have HY := Lib.hid hyy
      clear hxx hyy eb
      obtain ⟨b, off, rfl, hb, hc⟩ := (hI.ext hx).at_ k hkA
      rw [← HX.out] at hc
      by_cases hkB : k < B
      · obtain ⟨b2, off2, rfl, hb2, hc2⟩ := (hJ.ext hx).at_ k hkB
        rw [← HY.out] at hc2
        by_cases hs : (x : Int) - (bq : Int) - (y : Int) < 0
        · rw [if_pos (e2.2 hs)] at e1
          have HE : Hid (low k (m - n) ++ [((x : Int) - (bq : Int) - (y : Int) + 10000)] = low (k + 1) (m - n)) := Lib.hid (by
            rw [low_snoc]
            have : (dig (m - n) k : Int) = ((x : Int) - (bq : Int) - (y : Int) + 10000) := by omega
            rw [this])
          have HC2 : Hid (((1 : Nat) = 1) ↔ m % 10000 ^ (k + 1) < n % 10000 ^ (k + 1)) := Lib.hid (by omega)
          clear e1 e2
          go_wp2_with (at_builtin; refine wpList_append_Own _ rfl _ _ 30 rfl 3 i0 (.int .i64 0) 1 8 Tryd.underlying30 hi hz0 hz1 hz2 rfl (by omega) W _ _ rfl (Own.ext ho ((Ext.refl _).alloc _)) (by first | omega | (simp; omega)) _ 1 1 [.int .i64 (((x : Int) - (bq : Int) - (y : Int) + 10000) : Int)] rfl rfl (one_cell _ _ _ _ rfl) (by simp [Value.oneCell']) (by rw [ints_length, hkl]; unfold maxLen; simp only [List.length_cons, List.length_nil]; omega) (by rw [ints_length, hkl]; simp only [List.length_cons, List.length_nil]; omega) ?_; intro v5 w5 ho5 hg5 hb5)
          rw [ints_snoc, HE.out] at ho5
          exact ⟨⟨k + 1, 1, by omega, rfl, rfl, by omega, HC2, (hx.alloc _).onto hg5 (fun q hq => by have := (hlow q hq).1; omega), ho5⟩, by simp only [intOf]; omega⟩
        · rw [if_neg (fun h => hs (e2.1 h))] at e1
          have HE : Hid (low k (m - n) ++ [((x : Int) - (bq : Int) - (y : Int))] = low (k + 1) (m - n)) := Lib.hid (by
            rw [low_snoc]
            have : (dig (m - n) k : Int) = ((x : Int) - (bq : Int) - (y : Int)) := by omega
            rw [this])
          have HC2 : Hid (((0 : Nat) = 1) ↔ m % 10000 ^ (k + 1) < n % 10000 ^ (k + 1)) := Lib.hid (by omega)
          clear e1 e2
          go_wp2_with (at_builtin; refine wpList_append_Own _ rfl _ _ 30 rfl 3 i0 (.int .i64 0) 1 8 Tryd.underlying30 hi hz0 hz1 hz2 rfl (by omega) W _ _ rfl (Own.ext ho ((Ext.refl _).alloc _)) (by first | omega | (simp; omega)) _ 1 1 [.int .i64 (((x : Int) - (bq : Int) - (y : Int)) : Int)] rfl rfl (one_cell _ _ _ _ rfl) (by simp [Value.oneCell']) (by rw [ints_length, hkl]; unfold maxLen; simp only [List.length_cons, List.length_nil]; omega) (by rw [ints_length, hkl]; simp only [List.length_cons, List.length_nil]; omega) ?_; intro v5 w5 ho5 hg5 hb5)
          rw [ints_snoc, HE.out] at ho5
          exact ⟨⟨k + 1, 0, by omega, rfl, rfl, by omega, HC2, (hx.alloc _).onto hg5 (fun q hq => by have := (hlow q hq).1; omega), ho5⟩, by simp only [intOf]; omega⟩
      · have hy00 : y = 0 := hy0 (by omega)
        by_cases hs : (x : Int) - (bq : Int) < 0
        · rw [if_pos (e2.2 (by omega))] at e1
          have HE : Hid (low k (m - n) ++ [((x : Int) - (bq : Int) + 10000)] = low (k + 1) (m - n)) := Lib.hid (by
            rw [low_snoc]
            have : (dig (m - n) k : Int) = ((x : Int) - (bq : Int) + 10000) := by omega
            rw [this])
          have HC2 : Hid (((1 : Nat) = 1) ↔ m % 10000 ^ (k + 1) < n % 10000 ^ (k + 1)) := Lib.hid (by omega)
          clear e1 e2
          go_wp2_with (at_builtin; refine wpList_append_Own _ rfl _ _ 30 rfl 3 i0 (.int .i64 0) 1 8 Tryd.underlying30 hi hz0 hz1 hz2 rfl (by omega) W _ _ rfl (Own.ext ho ((Ext.refl _).alloc _)) (by first | omega | (simp; omega)) _ 1 1 [.int .i64 (((x : Int) - (bq : Int) + 10000) : Int)] rfl rfl (one_cell _ _ _ _ rfl) (by simp [Value.oneCell']) (by rw [ints_length, hkl]; unfold maxLen; simp only [List.length_cons, List.length_nil]; omega) (by rw [ints_length, hkl]; simp only [List.length_cons, List.length_nil]; omega) ?_; intro v5 w5 ho5 hg5 hb5)
          rw [ints_snoc, HE.out] at ho5
          exact ⟨⟨k + 1, 1, by omega, rfl, rfl, by omega, HC2, (hx.alloc _).onto hg5 (fun q hq => by have := (hlow q hq).1; omega), ho5⟩, by simp only [intOf]; omega⟩
        · rw [if_neg (fun h => hs (by have := e2.1 h; omega))] at e1
          have HE : Hid (low k (m - n) ++ [((x : Int) - (bq : Int))] = low (k + 1) (m - n)) := Lib.hid (by
            rw [low_snoc]
            have : (dig (m - n) k : Int) = ((x : Int) - (bq : Int)) := by omega
            rw [this])
          have HC2 : Hid (((0 : Nat) = 1) ↔ m % 10000 ^ (k + 1) < n % 10000 ^ (k + 1)) := Lib.hid (by omega)
          clear e1 e2
          go_wp2_with (at_builtin; refine wpList_append_Own _ rfl _ _ 30 rfl 3 i0 (.int .i64 0) 1 8 Tryd.underlying30 hi hz0 hz1 hz2 rfl (by omega) W _ _ rfl (Own.ext ho ((Ext.refl _).alloc _)) (by first | omega | (simp; omega)) _ 1 1 [.int .i64 (((x : Int) - (bq : Int)) : Int)] rfl rfl (one_cell _ _ _ _ rfl) (by simp [Value.oneCell']) (by rw [ints_length, hkl]; unfold maxLen; simp only [List.length_cons, List.length_nil]; omega) (by rw [ints_length, hkl]; simp only [List.length_cons, List.length_nil]; omega) ?_; intro v5 w5 ho5 hg5 hb5)
          rw [ints_snoc, HE.out] at ho5
          exact ⟨⟨k + 1, 0, by omega, rfl, rfl, by omega, HC2, (hx.alloc _).onto hg5 (fun q hq => by have := (hlow q hq).1; omega), ho5⟩, by simp only [intOf]; omega⟩
    · obtain rfl : k = A := by omega
      obtain ⟨so, sc, rfl, hSI, -⟩ := ho.intsShape
      have hwl : (worth (low k (m - n))).toNat = m - n := by
        rw [worth_low, Nat.mod_eq_of_lt]
        · omega
        · have h2 : m < 10000 ^ k := Nat.lt_of_lt_of_le (lt_many m) (Nat.pow_le_pow_right (by omega) (by rw [HmA.out]; omega))
          omega
      have htc := trim_calls wr so sc (low k (m - n)) hSI (digits_low _ _) (by rw [low_length]; omega)
      rw [hwl] at htc
      clear hwl hSI ho
      go_wp2_with fail
      refine htc.mono ?_
      rintro e w3 ⟨v, rfl, ho, hx3⟩
      go_wp2_with fail
      go_ret
      exact ⟨_, rfl, ho.rebase hx.size, hx.trans hx3⟩
end Go.Proofs.YtefmioppamdceaaDoor

/- The specification's whole numbers of any size: mulD. -/
namespace Go.Proofs.YtefmioppamdceaaDoor
--@optional
open Go.RowKit Go.Shelf

/-- A product under way. -/
structure Prod2 (M N A B i : Nat) (L : List Int) : Prop where
  len : L.length = A + B
  dgs : Digits L
  val : worth L = ((M % 10000 ^ i * N : Nat) : Int)
  top : ∀ q, i + B ≤ q → ith L q = 0
structure Prod3 (M N A B i k q : Nat) (L : List Int) : Prop where
  len : L.length = A + B
  dgs : Digits L
  carry : q < 10000
  val : worth L + (q : Int) * 10000 ^ (i + k) = ((M % 10000 ^ i * N + dig M i * 10000 ^ i * (N % 10000 ^ k) : Nat) : Int)
  top : ∀ q, i + B ≤ q → ith L q = 0
theorem prod_start (M N A B : Nat) : Prod2 M N A B 0 (List.replicate (A + B) 0) := by
  refine ⟨by simp, fun x hx => ?_, by rw [worth_replicate]; simp [Nat.mod_one], fun q _ => ?_⟩
  · rw [List.mem_replicate] at hx; omega
  · unfold ith; rw [List.getD_eq_getElem?_getD, List.getElem?_replicate]; split <;> rfl
theorem Prod2.inner {M N A B i : Nat} {L : List Int} (h : Prod2 M N A B i L) : Prod3 M N A B i 0 0 L :=
  ⟨h.len, h.dgs, by omega, by rw [h.val]; simp [Nat.mod_one], h.top⟩
theorem Prod3.step {M N A B i k q : Nat} {L : List Int} (h : Prod3 M N A B i k q L) (hi : i < A) (hk : k < B) {s : Nat} (hs : (s : Int) = ith L (i + k) + (dig M i : Int) * (dig N k : Int) + q) :
    Prod3 M N A B i (k + 1) (s / 10000) (L.set (i + k) ((s % 10000 : Nat) : Int)) ∧ s ≤ 99999999 := by
  have hx := digits_getD h.dgs (i + k)
  rw [← ith_getD] at hx
  have ha := dig_lt M i
  have hb := dig_lt N k
  have hq := h.carry
  have hab : dig M i * dig N k ≤ 9999 * 9999 := Nat.mul_le_mul (by omega) (by omega)
  have hsb : s ≤ 99999999 := by
    have : (dig M i : Int) * (dig N k : Int) = ((dig M i * dig N k : Nat) : Int) := by simp
    omega
  refine ⟨⟨by rw [List.length_set]; exact h.len, digits_set h.dgs _ (by omega) (by omega), by omega, ?_, fun p hp => ?_⟩, hsb⟩
  · rw [worth_set _ _ _ (by rw [h.len]; omega), ← ith_getD]
    have h1 := h.val
    have e1 : (10000 : Int) ^ (i + (k + 1)) = 10000 ^ (i + k) * 10000 := by rw [← Nat.add_assoc, Int.pow_succ]
    have e2 : N % 10000 ^ (k + 1) = N % 10000 ^ k + 10000 ^ k * dig N k := mod_succ N k
    have e3 : dig M i * 10000 ^ i * (N % 10000 ^ (k + 1)) = dig M i * 10000 ^ i * (N % 10000 ^ k) + dig M i * dig N k * 10000 ^ (i + k) := by
      rw [e2, Nat.mul_add, Nat.pow_add]
      congr 1
      rw [Nat.mul_assoc, Nat.mul_assoc]
      congr 1
      rw [Nat.mul_comm (dig N k) (10000 ^ i * 10000 ^ k), Nat.mul_assoc]
    rw [e3, e1]
    have e4 : ((s % 10000 : Nat) : Int) = s - (s / 10000 : Nat) * 10000 := by omega
    rw [e4, hs]
    have e5 : ((dig M i * dig N k * 10000 ^ (i + k) : Nat) : Int) = (dig M i : Int) * (dig N k : Int) * 10000 ^ (i + k) := by simp
    rw [← Nat.add_assoc, Int.natCast_add, ← h1, e5]
    generalize (10000 : Int) ^ (i + k) = P
    generalize (dig M i : Int) * (dig N k : Int) = ab
    generalize ith L (i + k) = x
    generalize ((s / 10000 : Nat) : Int) = c
    have e6 : (x + ab + (q : Int) - c * 10000 - x) * P = ab * P + q * P - c * 10000 * P := by
      rw [show x + ab + (q : Int) - c * 10000 - x = ab + q - c * 10000 by omega, Int.sub_mul, Int.add_mul]
    have e7 : c * (P * 10000) = c * 10000 * P := by rw [Int.mul_comm P, Int.mul_assoc]
    rw [e6, e7]
    omega
  · rw [ith_set _ _ _ _ (by rw [h.len]; omega), if_neg (by omega)]
    exact h.top p hp
theorem Prod3.out {M N A B i q : Nat} {L : List Int} (h : Prod3 M N A B i B q L) (hi : i < A) (hN : N < 10000 ^ B) : Prod2 M N A B (i + 1) (L.set (i + B) (q : Int)) := by
  have hq := h.carry
  refine ⟨by rw [List.length_set]; exact h.len, digits_set h.dgs _ (by omega) (by omega), ?_, fun p hp => ?_⟩
  · rw [worth_set _ _ _ (by rw [h.len]; omega), ← ith_getD, h.top (i + B) (by omega)]
    have h1 := h.val
    rw [Nat.mod_eq_of_lt hN] at h1
    rw [Int.sub_zero, h1, mod_succ M i, Nat.add_mul, Nat.mul_comm (10000 ^ i)]
  · rw [ith_set _ _ _ _ (by rw [h.len]; omega), if_neg (by omega)]
    exact h.top p (by omega)
set_option maxRecDepth 100000 in
set_option maxHeartbeats 2000000 in
theorem mulD_calls (w : World) (ao bo : Option Addr) (cap cap2 A B : Nat) (M N : Nat) (hI : DigsIn w ao M A) (hJ : DigsIn w bo N B) (hA : A ≤ 10000) (hB : B ≤ 10000) :
    Calls Tryd.prog 69 #[.slice ao A cap, .slice bo B cap2] w (Made w (digs (M * N))) := by
  have HmA := Lib.hid hI.many
  have HnB := Lib.hid hJ.many
  have hw1 : IntKind.i64.wrap ((A : Int) + (B : Int)) = (A : Int) + (B : Int) := by rw [IntKind.wrap_i64]; omega
  obtain ⟨m, hm⟩ : ∃ m, m = A + B := ⟨_, rfl⟩
  have hmk : ∀ W, (Instr.makeSlice 30 (.int .i64 ((A : Int) + (B : Int))) (.int .i64 ((A : Int) + (B : Int)))).run Tryd.prog W = .ok (.slice (some ⟨W.heap.size, 0, none⟩) m m) (W.alloc (.cells (Array.replicate m (.int .i64 0)) 3)) := fun W => by
    have := make_ints m (by omega) W
    have e : ((m : Nat) : Int) = (A : Int) + (B : Int) := by rw [hm]; simp
    rw [e] at this
    exact this
  have HM := Lib.hid hm
  have hm9 : m ≤ 20000 := by omega
  clear hm
  go_enter Tryd.func69, Tryd.ntmps69
  go_wp2_with fail
  obtain ⟨R, hR⟩ : ∃ R, R = w.heap.size := ⟨_, rfl⟩
  have hx1 : Ext w (w.alloc (.cells (Array.replicate m (.int .i64 0)) 3)) := (by repeat (first | exact Ext.refl _ | assumption | refine Ext.alloc ?_ _ | refine Ext.drewN ?_ _ | refine Ext.drew ?_))
  have ho1 : Own (w.alloc (.cells (Array.replicate m (.int .i64 0)) 3)) R 1 (.slice (some ⟨R, 0, none⟩) m m) (ints (List.replicate m 0)) := by
    refine ⟨m, by simp [ints_length], .inr ⟨R, 0, m, rfl, Nat.le_refl _, by simp [hR], Nat.le_refl _, by unfold maxLen; omega, fun j hj => ?_, fun j hj => ?_⟩⟩
    · subst hR
      exact ⟨by simp [go_sem]; omega, by simp [go_sem]⟩
    · subst hR
      have hj' : j < m := by omega
      simp [go_sem, ints, hj']
  have hs1 : (w.alloc (.cells (Array.replicate m (.int .i64 0)) 3)).heap.size = R + 1 := by rw [hR]; simp
  generalize (w.alloc (.cells (Array.replicate m (.int .i64 0)) 3)) = w1 at *
  rw [← hR]
  have hRw : w.heap.size ≤ R := by omega
  clear hR hmk hw1
  go_loopw [6] (fun iv wr => ∃ (i : Nat) (L : List Int), i ≤ A ∧ iv = .int .i64 i ∧ w1.grownBy wr (some R) ∧ Own wr R 1 (.slice (some ⟨R, 0, none⟩) m m) (ints L) ∧ Hid (Prod2 M N A B i L)) (fun iv _ => A - (intOf iv).toNat)
  case atStart => exact ⟨0, _, by omega, rfl, (Ext.refl _).grown _, ho1, Lib.hid (by rw [HM.out]; exact prod_start M N A B)⟩
  case round =>
    obtain ⟨i, L, hi, rfl, hg, ho, HP⟩ := hrel
    by_cases hiA : i < A
    · go_wp2_with fail
      go_loopw [7, 8] (fun cv kv ws => ∃ (k q : Nat) (L : List Int), k ≤ B ∧ q < 10000 ∧ kv = .int .i64 k ∧ cv = .int .i64 q ∧ w1.grownBy ws (some R) ∧ Own ws R 1 (.slice (some ⟨R, 0, none⟩) m m) (ints L) ∧ Hid (Prod3 M N A B i k q L)) (fun _ kv _ => B - (intOf kv).toNat)
      case atStart => exact ⟨0, 0, L, by omega, by omega, rfl, rfl, hg, ho, Lib.hid HP.out.inner⟩
      case round =>
        clear HP ho hg
        rename World => ws
        obtain ⟨k, q, L, hk, hq9, rfl, rfl, hg, ho, HP⟩ := hrel
        have hRs : R < ws.heap.size := by have := hg.size; omega
        have hxs : Ext w ws := hx1.onto hg (fun q hq => by simp only [Option.some.injEq] at hq; omega)
        by_cases hkB : k < B
        · obtain ⟨b, off, rfl, hb, hc⟩ := (hI.ext hxs).at_ i hiA
          obtain ⟨b2, off2, rfl, hb2, hc2⟩ := (hJ.ext hxs).at_ k hkB
          have hpm : i + k < m := by have := HM.out; omega
          have hlen := HP.out.len
          obtain ⟨c1, c2⟩ := ho.intAt (i + k) (by rw [hlen, ← HM.out]; exact hpm)
          rw [Nat.zero_add] at c1 c2
          have hxd := digits_getD HP.out.dgs (i + k)
          rw [← ith_getD] at hxd
          obtain ⟨x, hx⟩ : ∃ x, x = ith L (i + k) := ⟨_, rfl⟩
          obtain ⟨a, ha⟩ : ∃ a, a = dig M i := ⟨_, rfl⟩
          obtain ⟨d, hd⟩ : ∃ d, d = dig N k := ⟨_, rfl⟩
          obtain ⟨ab, hab⟩ : ∃ ab, (a : Int) * (d : Int) = ab := ⟨_, rfl⟩
          obtain ⟨s, hs⟩ : ∃ s : Nat, (s : Int) = x + ab + q := ⟨(x + ab + q).toNat, by
            have : 0 ≤ (a : Int) * (d : Int) := Int.mul_nonneg (by omega) (by omega)
            omega⟩
          obtain ⟨st, hsb⟩ := HP.out.step hiA hkB (s := s) (by rw [← hx, ← ha, ← hd, hab]; exact hs)
          rw [← hx] at hxd c1
          rw [← ha] at hc
          rw [← hd] at hc2
          have hab0 : 0 ≤ ab := by rw [← hab]; exact Int.mul_nonneg (by omega) (by omega)
          have HST := Lib.hid st
          clear st hx ha hd hlen
          have hr1 : (x + ab + (q : Int)).tmod 10000 = ((s % 10000 : Nat) : Int) := by rw [← hs, Int.tmod_eq_emod_of_nonneg (by omega)]; omega
          have hr2 : (x + ab + (q : Int)).tdiv 10000 = ((s / 10000 : Nat) : Int) := by rw [← hs, Int.tdiv_eq_ediv_of_nonneg (by omega)]; omega
          obtain ⟨r, hr⟩ : ∃ r, r = s % 10000 := ⟨_, rfl⟩
          obtain ⟨q', hq'⟩ : ∃ q', q' = s / 10000 := ⟨_, rfl⟩
          rw [← hr] at hr1 HST
          rw [← hq'] at hr2 HST
          have hr9 : r < 10000 := by omega
          have hq9' : q' < 10000 := HST.out.carry
          have hs9 : x + ab + (q : Int) ≤ 99999999 := by omega
          clear hr hq' hs hsb
          have a1 := After.cell c1 hRs
          have a2 := After.cell hc hb
          have a3 := After.cell hc2 hb2
          have k1 : (0 : Int) ≤ (i : Int) + (k : Int) := by omega
          have k2 : (i : Int) + (k : Int) < (m : Int) := by omega
          have k3 : ((i : Int) + (k : Int)).toNat = i + k := by omega
          have k4 : IntKind.i64.wrap ((i : Int) + (k : Int)) = (i : Int) + (k : Int) := by rw [IntKind.wrap_i64]; omega
          have k5 : IntKind.i64.wrap ab = ab := by rw [IntKind.wrap_i64]; omega
          have k6 : IntKind.i64.wrap (x + ab) = x + ab := by rw [IntKind.wrap_i64]; omega
          have k7 : IntKind.i64.wrap (x + ab + (q : Int)) = x + ab + (q : Int) := by rw [IntKind.wrap_i64]; omega
          have k8 : (i : Int) < (A : Int) := by omega
          have k9 : (k : Int) < (B : Int) := by omega
          go_wp2_with fail
          refine wp_region_after (by kernel_rfl) (by kernel_rfl) ?_
          intro hne
          repeat (go_big_quiet_step (fail))
          refine wpQuiet_nil ?_
          intro w7 hx7
          have ho7 := ho.ext hx7
          obtain ⟨c1', c2'⟩ := ho7.intAt (i + k) (by rw [HP.out.len, ← HM.out]; exact hpm)
          rw [Nat.zero_add] at c1' c2'
          have hR7 : R < w7.heap.size := Nat.lt_of_lt_of_le hRs hx7.size
          clear a1 a2 a3 c1 c2 hc hc2
          go_wp2_with fail
          have ho8 := ho7.setInt (i + k) (by rw [HP.out.len, ← HM.out]; exact hpm) (r : Int)
          rw [Nat.zero_add] at ho8
          exact ⟨⟨k + 1, q', _, by omega, hq9', rfl, rfl, grownBy_trans (grownBy_trans hg (hx7.grown _)) (grownBy_setCell w7 ⟨R, i + k, none⟩ _), ho8, HST⟩, by simp only [intOf]; omega⟩
        · obtain rfl : k = B := by omega
          have hpm : i + k < m := by have := HM.out; omega
          obtain ⟨c1, c2⟩ := ho.intAt (i + k) (by rw [HP.out.len, ← HM.out]; exact hpm)
          rw [Nat.zero_add] at c1 c2
          have k1 : (0 : Int) ≤ (i : Int) + (k : Int) := by omega
          have k2 : (i : Int) + (k : Int) < (m : Int) := by omega
          have k3 : ((i : Int) + (k : Int)).toNat = i + k := by omega
          have k4 : IntKind.i64.wrap ((i : Int) + (k : Int)) = (i : Int) + (k : Int) := by rw [IntKind.wrap_i64]; omega
          go_wp2_with fail
          have ho8 := ho.setInt (i + k) (by rw [HP.out.len, ← HM.out]; exact hpm) (q : Int)
          rw [Nat.zero_add] at ho8
          exact ⟨⟨i + 1, _, by omega, rfl, grownBy_trans hg (grownBy_setCell ws ⟨R, i + k, none⟩ _), ho8, Lib.hid (HP.out.out hiA (by rw [← HnB.out]; exact lt_many N))⟩, by simp only [intOf]; omega⟩
    · obtain rfl : i = A := by omega
      have hxs : Ext w wr := hx1.onto hg (fun q hq => by simp only [Option.some.injEq] at hq; omega)
      have hlen := HP.out.len
      rw [← HM.out] at hlen
      have hwl : (worth L).toNat = M * N := by
        rw [HP.out.val, Nat.mod_eq_of_lt (by rw [← HmA.out]; exact lt_many M)]
        exact Int.toNat_natCast _
      have htc := trim_calls wr (some ⟨R, 0, none⟩) m L (by
        have := ho
        rw [← hlen] at this
        exact this.intsIn) HP.out.dgs (by omega)
      rw [hwl, hlen] at htc
      clear hwl hlen
      go_wp2_with fail
      refine htc.mono ?_
      rintro e w3 ⟨v, rfl, ho, hx3⟩
      go_wp2_with fail
      go_ret
      exact ⟨_, rfl, ho.rebase hxs.size, hxs.trans hx3⟩
end Go.Proofs.YtefmioppamdceaaDoor
