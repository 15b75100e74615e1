/- The specification's whole numbers of any size: trim, whole, Of, cmpD. -/
import Derived.Test.YtefmioppamdceaaDoorMYK
namespace Go.Proofs.YtefmioppamdceaaDoor
--@optional
open Go.RowKit Go.Shelf

set_option maxRecDepth 100000 in
theorem trim_calls (w : World) (ao : Option Addr) (cap : Nat) (l : List Int) (hI : IntsIn w ao l) (hD : Digits l) (hl : l.length ≤ 100000) :
    Calls Tryd.prog 102 #[.slice ao l.length cap] w (Made w (digs (worth l).toNat)) := by
  obtain ⟨i0, hi, hz0, hz1, hz2⟩ := info_parts info_int
  obtain ⟨W, hW⟩ : ∃ W, W = w.heap.size := ⟨_, rfl⟩
  have HT : Hid (∀ p, p ≤ l.length → (∀ k, p ≤ k → k < l.length → ith l k = 0) → (p = 0 ∨ ith l (p - 1) ≠ 0) → l.take p = digs (worth l).toNat) := Lib.hid (fun p h1 h2 h3 => digs_of_take hD p h1 h2 h3)
  clear hD
  go_enter Tryd.func102, Tryd.ntmps102
  go_wp2_with fail
  go_loopw [3] (fun nv wr => ∃ p : Nat, p ≤ l.length ∧ nv = .int .i64 p ∧ Ext w wr ∧ Hid (∀ k, p ≤ k → k < l.length → ith l k = 0)) (fun nv _ => (intOf nv).toNat)
  case atStart => exact ⟨l.length, by omega, rfl, Ext.refl _, Lib.hid (fun k h1 h2 => by omega)⟩
  case round =>
    obtain ⟨p, hp, rfl, hx, HZ⟩ := hrel
    rcases Nat.eq_zero_or_pos p with hp0 | hp0
    · subst hp0
      replace HT : Hid (l.take 0 = digs (worth l).toNat) := Lib.hid (HT.out 0 hp (fun k h1 h2 => HZ.out k (by omega) h2) (.inl rfl))
      go_wp2_with fail
      rename World => wr1
      go_loopw [4, 5] (fun ov i wr => i = .int .i64 0 ∧ ov = .slice none 0 0 ∧ Ext w wr) (fun _ i _ => 0)
      case atStart => exact ⟨rfl, rfl, hx⟩
      case round =>
        rename World => wr2
        obtain ⟨rfl, rfl, hx2⟩ := hrel
        go_wp2_with fail
        go_ret
        have h1 := HT.out
        rw [List.take_zero] at h1
        exact ⟨_, rfl, by rw [← h1]; exact Own.nil _ _ _, hx2⟩
    · obtain ⟨q, hq⟩ : ∃ q, p = q + 1 := ⟨p - 1, by omega⟩
      obtain ⟨b, off, rfl, hb, hc⟩ := hI.ext hx q (by omega)
      have e1 : (p : Int) - 1 = (q : Int) := by omega
      have k1 : (0 : Int) < (p : Int) := by omega
      have HQ := Lib.hid hq
      clear hq
      by_cases h0 : ith l q = 0
      · have h0b : (ith l q == 0) = true := by simp [h0]
        have H0 := Lib.hid h0
        clear h0
        go_wp2_with fail
        have hq := HQ.out
        exact ⟨⟨q, by omega, rfl, hx, Lib.hid (fun k h1 h2 => by
          by_cases e : k = q
          · subst e; exact H0.out
          · exact HZ.out k (by omega) h2)⟩, by simp only [intOf]; omega⟩
      · have h0b : (ith l q == 0) = false := by simp [h0]
        replace HT : Hid (l.take p = digs (worth l).toNat) := Lib.hid (HT.out p hp (fun k h1 h2 => HZ.out k (by omega) h2) (.inr (by rw [HQ.out]; exact h0)))
        clear h0
        go_wp2_with fail
        rename World => wr1
        go_loopw [4, 5] (fun ov i wr => ∃ k : Nat, k ≤ p ∧ i = .int .i64 k ∧ Ext w wr ∧ Own wr W 1 ov (ints (l.take k))) (fun _ i _ => p - (intOf i).toNat)
        case atStart => exact ⟨0, by omega, rfl, hx, Own.nil _ _ _⟩
        case round =>
          rename World => wr2
          obtain ⟨k, hk, rfl, hx2, ho⟩ := hrel
          have hWr : W ≤ wr2.heap.size := by rw [hW]; exact hx2.size
          by_cases hlt : k < p
          · obtain ⟨b2, off2, hao, hb, hc⟩ := hI.ext hx2 k (by omega)
            simp only [Option.some.injEq, Addr.mk.injEq] at hao
            obtain ⟨rfl, rfl, -⟩ := hao
            have hkl : (l.take k).length = k := by rw [List.length_take]; omega
            have hlow := ho.lt
            go_wp2_with (at_builtin; refine wpList_append_Own _ rfl _ _ 30 rfl 3 i0 (.int .i64 0) 1 8 Tryd.underlying30 hi hz0 hz1 hz2 rfl (by omega) W _ _ rfl (Own.ext ho ((Ext.refl _).alloc _)) (by first | omega | (simp; omega)) _ 1 1 [.int .i64 ((ith l k) : Int)] rfl rfl (one_cell _ _ _ _ rfl) (by simp [Value.oneCell']) (by rw [ints_length, hkl]; unfold maxLen; simp only [List.length_cons, List.length_nil]; omega) (by rw [ints_length, hkl]; simp only [List.length_cons, List.length_nil]; omega) ?_; intro v5 w5 ho5 hg5 hb5)
            rw [ints_snoc, ← take_snoc l k (by omega)] at ho5
            exact ⟨⟨k + 1, by omega, rfl, (hx2.alloc _).onto hg5 (fun q hq => by have := (hlow q hq).1; omega), ho5⟩, by simp only [intOf]; omega⟩
          · have hkp : k = p := by omega
            rw [hkp] at ho
            have hlk : ¬ (k : Int) < (p : Nat) := by omega
            clear hkp
            go_wp2_with fail
            go_ret
            rw [HT.out] at ho
            exact ⟨_, rfl, by rw [← hW]; exact ho, hx2⟩

/-- A whole number is handed back. -/
def Bg (w : World) (z : Int) (e : Ending) (w' : World) : Prop := ∃ v, e = .returned (.agg #[.bool (decide (z < 0)), v]) ∧ Own w' w.heap.size 1 v (ints (digs z.natAbs)) ∧ Ext w w'
set_option maxRecDepth 100000 in
theorem whole_calls (w : World) (neg : Bool) (ao : Option Addr) (cap : Nat) (l : List Int) (hI : IntsIn w ao l) (hD : Digits l) (hl : l.length ≤ 100000) :
    Calls Tryd.prog 68 #[.bool neg, .slice ao l.length cap] w (Bg w (if neg = true then -(worth l) else worth l)) := by
  obtain ⟨z, hz⟩ : ∃ z, z = (if neg = true then -(worth l) else worth l) := ⟨_, rfl⟩
  rw [← hz]
  have hwn := (worth_nonneg hD).1
  have HZ : Hid (digs (worth l).toNat = digs z.natAbs) := Lib.hid (by
    congr 1
    rw [hz]; split <;> omega)
  have HW := Lib.hid (show (worth l).toNat = 0 ↔ worth l = 0 by omega)
  have HZZ := Lib.hid hz
  clear hz
  go_enter Tryd.func68, Tryd.ntmps68
  go_wp2_with fail
  obtain ⟨R, hR⟩ : ∃ R, R = w.heap.size := ⟨_, rfl⟩
  have hs1 := Spot.new w 32 (.bool false) (.slice none 0 0)
  have hx1 : Ext w (w.alloc (.cells #[.bool false, .slice none 0 0] 32)) := (by repeat (first | exact Ext.refl _ | assumption | refine Ext.alloc ?_ _ | refine Ext.drewN ?_ _ | refine Ext.drew ?_))
  generalize (w.alloc (.cells #[.bool false, .slice none 0 0] 32)) = w1 at *
  rw [← hR] at hs1 ⊢
  have hRw : w.heap.size ≤ R := by omega
  clear hR
  have hRl := hs1.lt
  refine (trim_calls _ ao cap l (hI.ext hx1) hD hl).mono ?_
  rintro e w2 ⟨v, rfl, ho, hx2⟩
  have hx12 := hx1.trans hx2
  obtain ⟨vo, vc, rfl, -, -⟩ := ho.intsShape
  obtain ⟨N, hN, hN0⟩ : ∃ N, (digs (worth l).toNat).length = N ∧ (N = 0 ↔ (worth l).toNat = 0) := ⟨_, rfl, by rw [digs_length]; exact many_eq_zero⟩
  rw [hN] at ho ⊢
  clear hN
  cases neg with
  | false =>
    have HBB : Hid (false = decide (z < 0)) := Lib.hid (by
          rw [HZZ.out]; simp; omega)
    have hsb := hs1.ext hx2
    obtain ⟨c0, hc0⟩ := Option.isSome_iff_exists.1 hsb.some0
    obtain ⟨c1, hc1⟩ := Option.isSome_iff_exists.1 hsb.some1
    have hf0 := hsb.free0
    have hf1 := hsb.free1
    go_wp2_with fail
    obtain ⟨q0, q1⟩ := hsb.put (.bool false) (.slice vo N vc)
    have ho2 := (ho.keep (grownBy_setCell _ ⟨R, 0, none⟩ (.bool false)) (by right; intro e; have := (ho.lt R e).1; omega)).keep (grownBy_setCell _ ⟨R, 1, none⟩ (.slice vo N vc)) (by right; intro e; have := (ho.lt R e).1; omega)
    refine bodyPost_ret (v := .agg #[.bool false, .slice vo N vc]) (by simp [results, Tryd.results68, go_sem, q0, q1]) rfl ?_
    refine ⟨.slice vo N vc, by rw [HBB.out], ?_, (hx12.setOwn _ _ hRw).setOwn _ _ hRw⟩
    rw [← HZ.out]
    exact ho2.rebase hx1.size
  | true =>
    by_cases h0 : 0 < N
    · have hm : worth l ≠ 0 := fun h => by have := HW.out.2 h; omega
      have HBB : Hid (true = decide (z < 0)) := Lib.hid (by
              rw [HZZ.out]; simp; omega)
      have hsb := hs1.ext hx2
      obtain ⟨c0, hc0⟩ := Option.isSome_iff_exists.1 hsb.some0
      obtain ⟨c1, hc1⟩ := Option.isSome_iff_exists.1 hsb.some1
      have hf0 := hsb.free0
      have hf1 := hsb.free1
      go_wp2_with fail
      obtain ⟨q0, q1⟩ := hsb.put (.bool true) (.slice vo N vc)
      have ho2 := (ho.keep (grownBy_setCell _ ⟨R, 0, none⟩ (.bool true)) (by right; intro e; have := (ho.lt R e).1; omega)).keep (grownBy_setCell _ ⟨R, 1, none⟩ (.slice vo N vc)) (by right; intro e; have := (ho.lt R e).1; omega)
      refine bodyPost_ret (v := .agg #[.bool true, .slice vo N vc]) (by simp [results, Tryd.results68, go_sem, q0, q1]) rfl ?_
      refine ⟨.slice vo N vc, by rw [HBB.out], ?_, (hx12.setOwn _ _ hRw).setOwn _ _ hRw⟩
      rw [← HZ.out]
      exact ho2.rebase hx1.size
    · have hm : worth l = 0 := HW.out.1 (by omega)
      have HBB : Hid (false = decide (z < 0)) := Lib.hid (by
              rw [HZZ.out]; simp; omega)
      have hsb := hs1.ext hx2
      obtain ⟨c0, hc0⟩ := Option.isSome_iff_exists.1 hsb.some0
      obtain ⟨c1, hc1⟩ := Option.isSome_iff_exists.1 hsb.some1
      have hf0 := hsb.free0
      have hf1 := hsb.free1
      go_wp2_with fail
      obtain ⟨q0, q1⟩ := hsb.put (.bool false) (.slice vo N vc)
      have ho2 := (ho.keep (grownBy_setCell _ ⟨R, 0, none⟩ (.bool false)) (by right; intro e; have := (ho.lt R e).1; omega)).keep (grownBy_setCell _ ⟨R, 1, none⟩ (.slice vo N vc)) (by right; intro e; have := (ho.lt R e).1; omega)
      refine bodyPost_ret (v := .agg #[.bool false, .slice vo N vc]) (by simp [results, Tryd.results68, go_sem, q0, q1]) rfl ?_
      refine ⟨.slice vo N vc, by rw [HBB.out], ?_, (hx12.setOwn _ _ hRw).setOwn _ _ hRw⟩
      rw [← HZ.out]
      exact ho2.rebase hx1.size

theorem tdiv_facts (p : Int) : (p.tdiv 10000).natAbs = p.natAbs / 10000 ∧ (0 ≤ p → 0 ≤ p.tdiv 10000) ∧ (p ≤ 0 → p.tdiv 10000 ≤ 0) := by
  refine ⟨Int.natAbs_tdiv _ _, fun h => Int.tdiv_nonneg h (by omega), fun h => ?_⟩
  obtain ⟨q, rfl⟩ : ∃ q, p = -q := ⟨-p, by omega⟩
  rw [Int.neg_tdiv]
  have := Int.tdiv_nonneg (a := q) (b := 10000) (by omega) (by omega)
  omega
theorem tmod_facts (p : Int) : (p.tmod 10000).natAbs = p.natAbs % 10000 := Int.natAbs_tmod _ _
set_option maxRecDepth 100000 in
set_option maxHeartbeats 1000000 in
theorem of_calls (w : World) (n : Int) (hn : -9223372036854775808 < n ∧ n ≤ 9223372036854775807) : Calls Tryd.prog 31 #[.int .i64 n] w (Bg w n) := by
  obtain ⟨i0, hi, hz0, hz1, hz2⟩ := info_parts info_int
  obtain ⟨nb, hnb⟩ : ∃ nb, decide (n < 0) = nb := ⟨_, rfl⟩
  go_enter Tryd.func31, Tryd.ntmps31
  go_wp2_with fail
  obtain ⟨R, hR⟩ : ∃ R, R = w.heap.size := ⟨_, rfl⟩
  have hs1 := Spot.new w 32 (.bool false) (.slice none 0 0)
  have hx1 : Ext w (w.alloc (.cells #[.bool false, .slice none 0 0] 32)) := (by repeat (first | exact Ext.refl _ | assumption | refine Ext.alloc ?_ _ | refine Ext.drewN ?_ _ | refine Ext.drew ?_))
  generalize (w.alloc (.cells #[.bool false, .slice none 0 0] 32)) = w1 at *
  rw [← hR] at hs1 ⊢
  have hRw : w.heap.size ≤ R := by omega
  clear hR
  have hRl := hs1.lt
  obtain ⟨W, hW⟩ : ∃ W, W = w1.heap.size := ⟨_, rfl⟩
  have HNB := Lib.hid hnb
  clear hnb
  go_loopw [0, 3] (fun pv ov wr => ∃ (p : Int) (k : Nat), k ≤ 5 ∧ pv = .int .i64 p ∧ (-9223372036854775808 < p ∧ p ≤ 9223372036854775807) ∧ ((0 ≤ n → 0 ≤ p) ∧ (n < 0 → p ≤ 0)) ∧ Hid (p.natAbs = n.natAbs / 10000 ^ k) ∧ Ext w1 wr ∧ Own wr W 1 ov (ints (low k n.natAbs))) (fun pv _ _ => (intOf pv).natAbs)
  case atStart => exact ⟨n, 0, by omega, rfl, hn, ⟨fun h => h, fun h => by omega⟩, Lib.hid (by simp), Ext.refl _, Own.nil _ _ _⟩
  case round =>
    obtain ⟨p, k, hk, rfl, hp, hsg, HA, hx, ho⟩ := hrel
    have hWr : W ≤ wr.heap.size := by rw [hW]; exact hx.size
    by_cases h0 : p = 0
    · subst h0
      obtain ⟨so, sc, rfl, hSI, -⟩ := ho.intsShape
      have hwl : worth (low k n.natAbs) = n.natAbs := by
        rw [worth_low, Nat.mod_eq_of_lt]
        have h1 := HA.out
        simp only [Int.natAbs_zero] at h1
        exact (Nat.div_eq_zero_iff_lt (Nat.pow_pos (by omega))).1 h1.symm
      have hwh := whole_calls wr nb so sc (low k n.natAbs) hSI (digits_low _ _) (by rw [low_length]; omega)
      have hzn : (if nb = true then -(worth (low k n.natAbs)) else worth (low k n.natAbs)) = n := by
        rw [hwl, ← HNB.out]
        by_cases h : n < 0
        · simp [h]; omega
        · simp [h]; omega
      rw [hzn] at hwh
      clear hzn hwl hSI ho
      go_wp2_with fail
      refine hwh.mono ?_
      rintro e w3 ⟨v, rfl, ho, hx3⟩
      obtain ⟨vo, vc, rfl, -, -⟩ := ho.intsShape
      have hx13 := hx.trans hx3
      have hsb := hs1.ext hx13
      obtain ⟨c0, hc0⟩ := Option.isSome_iff_exists.1 hsb.some0
      obtain ⟨c1, hc1⟩ := Option.isSome_iff_exists.1 hsb.some1
      have hf0 := hsb.free0
      have hf1 := hsb.free1
      clear hwh
      obtain ⟨nb2, hnb2⟩ : ∃ nb2, decide (n < 0) = nb2 := ⟨_, rfl⟩
      obtain ⟨N, hN⟩ : ∃ N, (digs n.natAbs).length = N := ⟨_, rfl⟩
      rw [hN] at ho
      go_wp2_with fail
      obtain ⟨q0, q1⟩ := hsb.put (.bool nb2) (.slice vo N vc)
      have hs1' := hx1.size
      have hs2' := hx.size
      have ho2 := (ho.keep (grownBy_setCell _ ⟨R, 0, none⟩ (.bool nb2)) (by right; intro e; have := (ho.lt R e).1; omega)).keep (grownBy_setCell _ ⟨R, 1, none⟩ (.slice vo N vc)) (by right; intro e; have := (ho.lt R e).1; omega)
      refine bodyPost_ret (v := .agg #[.bool nb2, .slice vo N vc]) (by simp [results, Tryd.results31, go_sem, q0, q1]) rfl ?_
      exact ⟨.slice vo N vc, by rw [hnb2], ho2.rebase (by omega), ((hx1.trans hx13).setOwn _ _ hRw).setOwn _ _ hRw⟩
    · obtain ⟨t1, t2, t3⟩ := tdiv_facts p
      have t4 := tmod_facts p
      have hk4 : k ≤ 4 := by
        rcases Nat.lt_or_ge k 5 with h | h
        · omega
        · obtain rfl : k = 5 := by omega
          have h1 := HA.out
          rw [Nat.div_eq_of_lt (by omega)] at h1
          omega
      obtain ⟨p', hp'⟩ : ∃ p', p.tdiv 10000 = p' := ⟨_, rfl⟩
      obtain ⟨r, hr⟩ : ∃ r, p.tmod 10000 = r := ⟨_, rfl⟩
      rw [hp'] at t1 t2 t3
      rw [hr] at t4
      have HP : Hid (p'.natAbs = n.natAbs / 10000 ^ (k + 1)) := Lib.hid (by rw [t1, HA.out, Nat.pow_succ, Nat.div_div_eq_div_mul])
      have hdg : dig n.natAbs k = p.natAbs % 10000 := by rw [dig, HA.out]
      by_cases hr0 : r < 0
      · have HD : Hid ((dig n.natAbs k : Int) = -r) := Lib.hid (by rw [hdg, ← t4]; omega)
        clear hdg
        have hkl : (low k n.natAbs).length = k := low_length _ _
        have hlow := ho.lt
        go_wp2_with (at_builtin; refine wpList_append_Own _ rfl _ _ 30 rfl 3 i0 (.int .i64 0) 1 8 Tryd.underlying30 hi hz0 hz1 hz2 rfl (by omega) W _ _ rfl (Own.ext ho ((Ext.refl _).alloc _)) (by first | omega | (simp; omega)) _ 1 1 [.int .i64 ((-r) : Int)] rfl rfl (one_cell _ _ _ _ rfl) (by simp [Value.oneCell']) (by rw [ints_length, hkl]; unfold maxLen; simp only [List.length_cons, List.length_nil]; omega) (by rw [ints_length, hkl]; simp only [List.length_cons, List.length_nil]; omega) ?_; intro v5 w5 ho5 hg5 hb5)
        have e2 : low k n.natAbs ++ [(-r)] = low (k + 1) n.natAbs := by rw [low_snoc, HD.out]
        rw [ints_snoc, e2] at ho5
        refine ⟨⟨p', k + 1, by omega, rfl, by omega, ⟨by omega, by omega⟩, HP, (hx.alloc _).onto hg5 (fun q hq => by have := (hlow q hq).1; omega), ho5⟩, by simp only [intOf]; omega⟩
      · have HD : Hid ((dig n.natAbs k : Int) = r) := Lib.hid (by rw [hdg, ← t4]; omega)
        clear hdg
        have hkl : (low k n.natAbs).length = k := low_length _ _
        have hlow := ho.lt
        go_wp2_with (at_builtin; refine wpList_append_Own _ rfl _ _ 30 rfl 3 i0 (.int .i64 0) 1 8 Tryd.underlying30 hi hz0 hz1 hz2 rfl (by omega) W _ _ rfl (Own.ext ho ((Ext.refl _).alloc _)) (by first | omega | (simp; omega)) _ 1 1 [.int .i64 (r : Int)] rfl rfl (one_cell _ _ _ _ rfl) (by simp [Value.oneCell']) (by rw [ints_length, hkl]; unfold maxLen; simp only [List.length_cons, List.length_nil]; omega) (by rw [ints_length, hkl]; simp only [List.length_cons, List.length_nil]; omega) ?_; intro v5 w5 ho5 hg5 hb5)
        have e2 : low k n.natAbs ++ [r] = low (k + 1) n.natAbs := by rw [low_snoc, HD.out]
        rw [ints_snoc, e2] at ho5
        refine ⟨⟨p', k + 1, by omega, rfl, by omega, ⟨by omega, by omega⟩, HP, (hx.alloc _).onto hg5 (fun q hq => by have := (hlow q hq).1; omega), ho5⟩, by simp only [intOf]; omega⟩

set_option maxRecDepth 100000 in
set_option maxHeartbeats 1000000 in
theorem cmpD_calls (w : World) (ao bo : Option Addr) (cap cap2 : Nat) (m n : Nat) (hI : IntsIn w ao (digs m)) (hJ : IntsIn w bo (digs n)) (hl : (digs m).length ≤ 100000) (hl2 : (digs n).length ≤ 100000) :
    Calls Tryd.prog 67 #[.slice ao (digs m).length cap, .slice bo (digs n).length cap2] w fun e w' => e = .returned (.int .i64 (cmpZ m n)) ∧ Ext w w' := by
  have hM := digs_length m
  have hN := digs_length n
  obtain ⟨A, hA⟩ : ∃ A, (digs m).length = A := ⟨_, rfl⟩
  obtain ⟨B, hB⟩ : ∃ B, (digs n).length = B := ⟨_, rfl⟩
  have hI' : ∀ k, k < A → ∃ b off, ao = some ⟨b, off, none⟩ ∧ b < w.heap.size ∧ w.cell? ⟨b, off + k, none⟩ = some (.int .i64 (dig m k)) := fun k hk => by
    obtain ⟨b, off, h1, h2, h3⟩ := hI k (by omega)
    exact ⟨b, off, h1, h2, by rw [h3, ith_getD, digs_at]⟩
  have hJ' : ∀ k, k < B → ∃ b off, bo = some ⟨b, off, none⟩ ∧ b < w.heap.size ∧ w.cell? ⟨b, off + k, none⟩ = some (.int .i64 (dig n k)) := fun k hk => by
    obtain ⟨b, off, h1, h2, h3⟩ := hJ k (by omega)
    exact ⟨b, off, h1, h2, by rw [h3, ith_getD, digs_at]⟩
  rw [hA, hB]
  have HLT : Hid (A < B → m < n) := Lib.hid (fun h => lt_of_many (by omega))
  have HGT : Hid (B < A → n < m) := Lib.hid (fun h => lt_of_many (by omega))
  have HTOP : Hid (A = B → m / 10000 ^ A = n / 10000 ^ A) := Lib.hid (fun h => by
    rw [Nat.div_eq_of_lt (by rw [← hA, hM]; exact lt_many m), Nat.div_eq_of_lt (by rw [h, ← hB, hN]; exact lt_many n)])
  have hA9 : A ≤ 100000 := by omega
  have hB9 : B ≤ 100000 := by omega
  clear hI hJ hM hN hA hB hl hl2
  go_enter Tryd.func67, Tryd.ntmps67
  by_cases h1 : A < B
  · go_wp2_with fail
    go_ret
    have := HLT.out h1
    exact ⟨ret_int (by unfold cmpZ; rw [if_pos (by omega)]), Ext.refl _⟩
  · by_cases h2 : B < A
    · go_wp2_with fail
      go_ret
      have := HGT.out h2
      exact ⟨ret_int (by unfold cmpZ; rw [if_neg (by omega), if_pos (by omega)]), Ext.refl _⟩
    · obtain rfl : A = B := by omega
      go_wp2_with fail
      go_loopw [5] (fun iv wr => ∃ p : Nat, p ≤ A ∧ iv = .int .i64 ((p : Int) - 1) ∧ Ext w wr ∧ Hid (m / 10000 ^ p = n / 10000 ^ p)) (fun iv _ => (intOf iv + 1).toNat)
      case atStart => exact ⟨A, by omega, rfl, Ext.refl _, Lib.hid (by first | exact HTOP.out rfl | exact HTOP.out trivial)⟩
      case round =>
        obtain ⟨p, hp, rfl, hx, HE⟩ := hrel
        rcases Nat.eq_zero_or_pos p with h0 | h0
        · subst h0
          go_wp2_with fail
          go_ret
          have := HE.out
          simp only [Nat.pow_zero, Nat.div_one] at this
          exact ⟨ret_int (by unfold cmpZ; rw [if_neg (by omega), if_neg (by omega)]), hx⟩
        · obtain ⟨q, hq⟩ : ∃ q, p = q + 1 := ⟨p - 1, by omega⟩
          have e1 : (p : Int) - 1 = (q : Int) := by omega
          have HE2 : Hid (m / 10000 ^ (q + 1) = n / 10000 ^ (q + 1)) := Lib.hid (by rw [← hq]; exact HE.out)
          have HQ := Lib.hid hq
          have hqA : q < A := by omega
          obtain ⟨b, off, rfl, hb, hc⟩ := hI' q hqA
          obtain ⟨b2, off2, rfl, hb2, hc2⟩ := hJ' q hqA
          have d1 := (hx.cell (p := ⟨b, off + q, none⟩) hb).trans hc
          have d2 := (hx.cell (p := ⟨b2, off2 + q, none⟩) hb2).trans hc2
          have k1 := Nat.lt_of_lt_of_le hb hx.size
          have k2 := Nat.lt_of_lt_of_le hb2 hx.size
          clear hq h1 h2
          rw [e1]
          obtain ⟨x, hxx⟩ : ∃ x : Nat, x = dig m q := ⟨_, rfl⟩
          obtain ⟨y, hyy⟩ : ∃ y : Nat, y = dig n q := ⟨_, rfl⟩
          rw [← hxx] at d1
          rw [← hyy] at d2
          have HX := Lib.hid hxx
          have HY := Lib.hid hyy
          clear hxx hyy hc hc2
          by_cases h3 : x < y
          · go_wp2_with fail
            go_region
            go_wp2_with fail
            go_ret
            have := high_lt HE2.out (show dig m q < dig n q by rw [← HX.out, ← HY.out]; exact h3)
            exact ⟨ret_int (by unfold cmpZ; rw [if_pos (by omega)]), (by repeat (first | exact Ext.refl _ | assumption | refine Ext.alloc ?_ _ | refine Ext.drewN ?_ _ | refine Ext.drew ?_))⟩
          · by_cases h4 : y < x
            · go_wp2_with fail
              go_region
              go_wp2_with fail
              go_region
              go_wp2_with fail
              go_ret
              have := high_lt HE2.out.symm (show dig n q < dig m q by rw [← HX.out, ← HY.out]; exact h4)
              exact ⟨ret_int (by unfold cmpZ; rw [if_neg (by omega), if_pos (by omega)]), (by repeat (first | exact Ext.refl _ | assumption | refine Ext.alloc ?_ _ | refine Ext.drewN ?_ _ | refine Ext.drew ?_))⟩
            · go_wp2_with fail
              go_region
              go_wp2_with fail
              go_region
              go_wp2_with fail
              have hxy : dig m q = dig n q := by rw [← HX.out, ← HY.out]; omega
              exact ⟨⟨q, by omega, by simp, (by repeat (first | exact Ext.refl _ | assumption | refine Ext.alloc ?_ _ | refine Ext.drewN ?_ _ | refine Ext.drew ?_)), Lib.hid (high_eq HE2.out hxy)⟩, by simp only [intOf]; omega⟩
end Go.Proofs.YtefmioppamdceaaDoor
