/- Words of big: divide (by at most two words): the walk. -/
import Derived.Test.YtefmioppamdceaaDoorMWI
namespace Go.Proofs.YtefmioppamdceaaDoor
open Go.RowKit Go.Shelf

theorem WNum.nil (w : World) : WNum w none 0 0 0 := ⟨W.many_zero, Nat.le_refl _, fun k hk => by rw [W.digs_zero] at hk; simp at hk⟩
set_option maxRecDepth 100000 in
set_option maxHeartbeats 4000000 in
theorem wdivide_calls (w : World) (ao bo : Option Addr) (c d A B : Nat) (m n : Nat) (hI : WNum w ao A c m) (hJ : WNum w bo B d n) (hA : A ≤ 10000) (hB : B ≤ 2) (hn : 0 < n) :
    Calls Tryd.prog 121 #[.slice ao A c, .slice bo B d] w (DivRes w m n) := by
  have hB1 : 1 ≤ B := by
    rcases Nat.eq_zero_or_pos B with h | h
    · have := hJ.many; rw [h, W.many_eq_zero] at this; omega
    · exact h
  have hn2 := small_lt hJ.many hB
  go_enter Tryd.func121, Tryd.ntmps121
  go_wp2_with fail
  refine (wcmp_calls w ao bo c d A B m n hI hJ (by omega) (by omega)).mono ?_
  rintro e w2 ⟨rfl, hx2⟩
  rcases cmpZ_cases m n with ⟨h1, h2⟩ | h12
  · rw [h2]
    have HL : Hid (m < n) := Lib.hid (by omega)
    clear h1 h2
    go_wp2_with fail
    go_ret2
    exact ⟨none, 0, 0, ao, A, c, rfl, by rw [Nat.div_eq_of_lt HL.out]; exact WNum.nil _, by rw [Nat.mod_eq_of_lt HL.out]; exact hI.ext hx2, hx2⟩
  · have hge : n ≤ m := by rcases h12 with ⟨h1, -⟩ | ⟨h1, -⟩ <;> omega
    have HGE := Lib.hid hge
    obtain ⟨cz, hcz⟩ : ∃ cz, cz = cmpZ m n := ⟨_, rfl⟩
    have hcz0 : 0 ≤ cz := by rcases h12 with ⟨-, h2⟩ | ⟨-, h2⟩ <;> omega
    rw [← hcz]
    clear h12 hcz hge
    go_wp2_with fail
    refine (small_calls _ ao A c m (hI.ext hx2)).mono ?_
    rintro e w3 ⟨rfl, hx3⟩
    have hx23 := hx2.trans hx3
    by_cases hA2 : A ≤ 2
    · rw [show smallRes A m = .tuple #[.int .u64 m, .bool true] by unfold smallRes; rw [if_pos hA2, decide_eq_true hA2]]
      have hm2 := small_lt hI.many hA2
      go_wp2_with fail
      refine (small_calls _ bo B d n (hJ.ext hx23)).mono ?_
      rintro e w4 ⟨rfl, hx4⟩
      rw [show smallRes B n = .tuple #[.int .u64 n, .bool true] by unfold smallRes; rw [if_pos hB, decide_eq_true hB]]
      have hx24 := hx23.trans hx4
      have hq := Nat.lt_of_le_of_lt (Nat.div_le_self m n) hm2
      have hr := Nat.lt_of_le_of_lt (Nat.mod_le m n) hm2
      have k1 := fun W => wof_calls W (m / n) hq
      have k2 := fun W => wof_calls W (m % n) hr
      simp only [Int.natCast_ediv, Int.natCast_emod] at k1 k2
      have k3 := k2
      rw [← Int.tmod_eq_emod_of_nonneg (b := (n : Int)) (show (0 : Int) ≤ (m : Int) by omega)] at k2
      have hnz : ((n : Int) == 0) = false := by simp; omega
      have hnz2 : ¬ (n : Int) = 0 := by omega
      have hwq : IntKind.u64.wrap ((m : Int) / (n : Int)) = (m : Int) / (n : Int) := by rw [show (m : Int) / (n : Int) = ((m / n : Nat) : Int) by simp]; exact wrapN _ hq
      have hwr : IntKind.u64.wrap ((m : Int) % (n : Int)) = (m : Int) % (n : Int) := by rw [show (m : Int) % (n : Int) = ((m % n : Nat) : Int) by simp]; exact wrapN _ hr
      clear hm2 hq hr
      go_wp2_with fail
      go_region_with ((first
        | (go_at_call 94; (with_reducible refine Calls.mono (k1 _) ?_); rintro e v1 ⟨qo, qA, qc, rfl, hN1, hx11⟩; have hxv1 : Ext w4 v1 := Ext.trans (by repeat (with_reducible first | exact Ext.refl _ | assumption | refine Ext.alloc ?_ _ | refine Ext.drew ?_)) hx11)
        | (go_at_call 94; (with_reducible refine Calls.mono (k2 _) ?_); rintro e v2 ⟨ro, rA, rc, rfl, hN2, hx12⟩; have hxv2 : Ext w4 v2 := Ext.trans (by repeat (with_reducible first | exact Ext.refl _ | assumption | refine Ext.alloc ?_ _ | refine Ext.drew ?_)) hx12)
        | (go_at_call 94; (with_reducible refine Calls.mono (k3 _) ?_); rintro e v2 ⟨ro, rA, rc, rfl, hN2, hx12⟩; have hxv2 : Ext w4 v2 := Ext.trans (by repeat (with_reducible first | exact Ext.refl _ | assumption | refine Ext.alloc ?_ _ | refine Ext.drew ?_)) hx12)))
      all_goals
        have hf1 := hx24.trans hxv1
        have hf2 := hx24.trans hxv2
        go_wp2_with fail
        go_ret2
        first
          | exact ⟨qo, qA, qc, ro, rA, rc, rfl, hN1.ext hx12, hN2, hf2⟩
          | exact ⟨qo, qA, qc, ro, rA, rc, rfl, hN1, hN2.ext hx11, hf1⟩
    · rw [show smallRes A m = .tuple #[.int .u64 0, .bool false] by unfold smallRes; rw [if_neg hA2, decide_eq_false hA2]]
      by_cases hB2 : B = 2
      · subst hB2
        have hlc := wlong_calls w3 ao bo c d A m n (hI.ext hx23) (hJ.ext hx23) (by omega) hA
        go_wp2_with fail
        refine hlc.mono ?_
        rintro e w4 ⟨qo, qA, qc, ro, rA, rc, rfl, hN, hN2, hx4⟩
        have hx24 := hx23.trans hx4
        clear hlc
        go_wp2_with fail
        go_ret2
        exact ⟨qo, qA, qc, ro, rA, rc, rfl, hN, hN2, hx24⟩
      · obtain rfl : B = 1 := by omega
        obtain ⟨b0, rfl, hb0, hc0⟩ := hJ.at_ 0 (by omega)
        have hn1 : n = W.dig n 0 := one_dig (by rw [hJ.many]; omega)
        have hnP : n < 4294967296 := by rw [hn1]; exact W.dig_lt _ _
        rw [← hn1] at hc0
        have hnz : ((n : Int) == 0) = false := by simp; omega
        have hnz2 : ¬ (n : Int) = 0 := by omega
        have hmk := make_words A (by omega)
        clear hn1
        go_wp2_with fail
        have hx5 : Ext w3 (w3.alloc (Obj.cells (Array.replicate A (.int .u32 0)) 149)) := (by repeat (first | exact Ext.refl _ | assumption | refine Ext.alloc ?_ _ | refine Ext.drewN ?_ _ | refine Ext.drew ?_))
        have HC5 := Lib.hid (CellsU.made w3 A 149)
        obtain ⟨w5, hw5⟩ : ∃ w5, w5 = (w3.alloc (Obj.cells (Array.replicate A (.int .u32 0)) 149)) := ⟨_, rfl⟩
        obtain ⟨Q, hQe⟩ : ∃ Q, Q = w3.heap.size := ⟨_, rfl⟩
        have hQ : Q < w5.heap.size := by rw [hw5, hQe]; simp
        rw [← hw5, ← hQe] at HC5
        rw [← hw5] at hx5 ⊢
        rw [← hQe]
        have hQw : w.heap.size ≤ Q := by have := hx23.size; omega
        clear hQe hw5 hmk
        have hx05 := hx23.trans hx5
        clear hx5 hx23 hx3 hx2
        go_loopw [11, 12] (fun rv iv wr => ∃ p z : Nat, p ≤ A ∧ iv = .int .i64 ((p : Int) - 1) ∧ rv = .int .u64 z ∧ z < n ∧ Hid (z = m / 4294967296 ^ p % n) ∧ w5.grownBy wr (some Q) ∧ Hid (CellsU wr Q A (fun i => if i < p then 0 else (W.dig (m / n) i : Int)))) (fun _ iv _ => (intOf iv + 1).toNat)
        case atStart => exact ⟨A, 0, by omega, rfl, rfl, hn, Lib.hid (by rw [Nat.div_eq_of_lt (by rw [← hI.many]; exact W.lt_many m), Nat.zero_mod]), (Ext.refl _).grown _, Lib.hid (fun i hi => by
          have h1 := HC5.out i hi
          simp only [] at h1 ⊢
          rw [if_pos hi]; exact h1)⟩
        case round =>
          obtain ⟨p, z, hp, rfl, rfl, hz, HZ, hgr, HU⟩ := hrel
          have hQr : Q < wr.heap.size := Nat.lt_of_lt_of_le hQ hgr.size
          have hxr : Ext w wr := hx05.onto hgr (fun q hq => by simp only [Option.some.injEq] at hq; omega)
          rcases Nat.eq_zero_or_pos p with h0 | h0
          · subst h0
            have hze : z = m % n := by have := HZ.out; simpa using this
            have hqlt : m / n < 4294967296 ^ A := by
              have h1 := W.lt_many m
              rw [hI.many] at h1
              have := Nat.div_le_self m n
              omega
            have t1 := wtrim_calls wr (some ⟨Q, 0, none⟩) A (W.low A (m / n)) (HU.out.wIn hQr _ (by rw [W.low_length]; omega) (fun k hk => by rw [W.low_length] at hk; rw [ith_getD, W.low_at _ _ _ hk, if_neg (by omega)])) (W.digits_low _ _) (by rw [W.low_length]; omega) (by rw [W.low_length]; omega)
            rw [W.low_length, W.worth_low, Nat.mod_eq_of_lt hqlt, Int.toNat_natCast] at t1
            have t2 := fun W2 => wof_calls W2 z (by omega)
            have HZE := Lib.hid hze
            clear hqlt hze HU HZ
            go_wp2_with fail
            refine t1.mono ?_
            rintro e w9 ⟨qo, qA, qc, rfl, hN, hx9⟩
            clear t1
            go_wp2_with fail
            refine (t2 w9).mono ?_
            rintro e w10 ⟨ro, rA, rc, rfl, hN2, hx10⟩
            have hxf : Ext w w10 := (hxr.trans hx9).trans hx10
            clear t2
            go_wp2_with fail
            go_ret2
            exact ⟨qo, qA, qc, ro, rA, rc, rfl, hN.ext hx10, by rw [← HZE.out]; exact hN2, hxf⟩
          · obtain ⟨jj, hjj⟩ : ∃ jj, p = jj + 1 := ⟨p - 1, by omega⟩
            subst hjj
            have e1 : ((jj + 1 : Nat) : Int) - 1 = (jj : Int) := by omega
            rw [e1]
            obtain ⟨b1, e2, hb1, hc1⟩ := (hI.ext hxr).at_ jj (by omega)
            subst e2
            have hb0Q : b0 ≠ Q := by omega
            have hb0Q2 : Q ≠ b0 := by omega
            replace hc0 := (hxr.cell (p := ⟨b0, 0, none⟩) hb0).trans hc0
            replace hb0 := Nat.lt_of_lt_of_le hb0 hxr.size
            obtain ⟨x, hx⟩ : ∃ x, x = W.dig m jj := ⟨_, rfl⟩
            have hx9 : x < 4294967296 := by rw [hx]; exact W.dig_lt _ _
            rw [← hx] at hc1
            have st := W.div_step m n jj hn
            rw [← HZ.out, ← hx] at st
            obtain ⟨R, hR⟩ : ∃ R, R = 4294967296 * z + x := ⟨_, rfl⟩
            rw [← hR] at st
            have hor : bits .or .u64 ((z : Int) * 4294967296) (x : Int) = (R : Int) := by
              rw [or_halves z x (by omega) hx9, hR, Nat.mul_comm]
            have hRq : R / n < 4294967296 := st.2.2
            obtain ⟨o1, o2⟩ := HU.out jj (by omega)
            simp only [] at o1
            rw [if_pos (by omega)] at o1
            have HZ2 : Hid (R % n = m / 4294967296 ^ jj % n) := Lib.hid st.1.symm
            have hzn : R % n < n := Nat.mod_lt _ hn
            have E : Hid ((R : Int) / (n : Int) % 4294967296 = ((R / n : Nat) : Int)) := Lib.hid (by rw [show (R : Int) / (n : Int) = ((R / n : Nat) : Int) by simp]; omega)
            have HU2 : Hid (CellsU (wr.setCell ⟨Q, jj, none⟩ (.int .u32 ((R / n : Nat) : Int))) Q A (fun i => if i < jj then 0 else (W.dig (m / n) i : Int))) := Lib.hid (HU.out.put (by omega) _ (fun i hi => by
              by_cases e : i = jj
              · subst e; rw [if_neg (by omega), if_pos rfl, st.2.1]
              · rw [if_neg e]
                by_cases e2 : i < jj
                · rw [if_pos e2, if_pos (by omega)]
                · rw [if_neg e2, if_neg (by omega)]))
            have hg2 := grownBy_trans hgr (grownBy_setCell wr ⟨Q, jj, none⟩ (.int .u32 ((R / n : Nat) : Int)))
            clear st hx hR
            have k0 : (0 : Int) ≤ (jj : Int) := by omega
            have k1 : (jj : Int) < (A : Int) := by omega
            have hwq : IntKind.u64.wrap ((R : Int) / (n : Int)) = (R : Int) / (n : Int) := by rw [show (R : Int) / (n : Int) = ((R / n : Nat) : Int) by simp]; exact wrapN _ (by omega)
            have hwr : IntKind.u64.wrap ((R : Int) % (n : Int)) = (R : Int) % (n : Int) := by rw [show (R : Int) % (n : Int) = ((R % n : Nat) : Int) by simp]; exact wrapN _ (by omega)
            go_wp2_with fail
            rw [E.out]
            exact ⟨⟨jj, R % n, by omega, rfl, by simp, hzn, HZ2, hg2, HU2⟩, by simp only [intOf]; omega⟩
end Go.Proofs.YtefmioppamdceaaDoor

/- big.Int: numbers behind pointers; common, set, NewInt, Sign. -/
namespace Go.Proofs.YtefmioppamdceaaDoor
open Go.RowKit Go.Shelf

/-- A place for an Int. -/
structure IntSpot (w : World) (a : Nat) : Prop where
  c0 : ∃ b, w.cell? ⟨a, 0, none⟩ = some (.bool b)
  c1 : ∃ v, w.cell? ⟨a, 1, none⟩ = some v
  f0 : w.frozen? ⟨a, 0, none⟩ = false
  f1 : w.frozen? ⟨a, 1, none⟩ = false
  lt : a < w.heap.size
theorem IntSpot.ext {w w' : World} {a : Nat} (h : IntSpot w a) (hx : Ext w w') : IntSpot w' a := by
  obtain ⟨⟨b, h0⟩, ⟨v, h1⟩, h2, h3, h4⟩ := h
  exact ⟨⟨b, (hx.cell (p := ⟨a, 0, none⟩) h4).trans h0⟩, ⟨v, (hx.cell (p := ⟨a, 1, none⟩) h4).trans h1⟩, (hx.frozen (p := ⟨a, 0, none⟩) h4).trans h2, (hx.frozen (p := ⟨a, 1, none⟩) h4).trans h3, Nat.lt_of_lt_of_le h4 hx.size⟩
/-- Digits do not lie in an Int. -/
theorem WNum.far {w w' : World} {ao : Option Addr} {A c n a : Nat} {b : Bool} (h : WNum w ao A c n) (h0 : w.cell? ⟨a, 0, none⟩ = some (.bool b)) (hg : w.grownBy w' (some a)) : WNum w' ao A c n := by
  refine ⟨h.many, h.cap, h.ints.grown hg (fun p hp hl => ?_)⟩
  intro e
  simp only [Option.some.injEq] at e
  obtain ⟨x, l, hxl⟩ : ∃ x l, W.digs n = x :: l := by
    cases hd : W.digs n with
    | nil => exact absurd hd hl
    | cons x l => exact ⟨x, l, rfl⟩
  obtain ⟨g, h1, h2, h3⟩ := h.ints 0 (by rw [hxl]; simp)
  rw [hp, Option.some.injEq] at h1
  subst h1
  simp only [] at e
  subst e
  rw [h0] at h3
  simp at h3
/-- A number behind a pointer. -/
structure BigAt (w : World) (a : Nat) (z : Int) : Prop where
  spot : IntSpot w a
  sign : w.cell? ⟨a, 0, none⟩ = some (.bool (decide (z < 0)))
  abs : ∃ ao A c, w.cell? ⟨a, 1, none⟩ = some (.slice ao A c) ∧ WNum w ao A c z.natAbs
theorem BigAt.ext {w w' : World} {a : Nat} {z : Int} (h : BigAt w a z) (hx : Ext w w') : BigAt w' a z := by
  obtain ⟨hs, h0, ao, A, c, h1, hN⟩ := h
  exact ⟨hs.ext hx, (hx.cell (p := ⟨a, 0, none⟩) hs.lt).trans h0, ao, A, c, (hx.cell (p := ⟨a, 1, none⟩) hs.lt).trans h1, hN.ext hx⟩
/-- Another number is written. -/
theorem BigAt.far {w w' : World} {a b : Nat} {z : Int} (h : BigAt w a z) (hb : IntSpot w b) (hab : a ≠ b) (hg : w.grownBy w' (some b)) : BigAt w' a z := by
  obtain ⟨⟨-, -, h2, h3, h4⟩, h0, ao, A, c, h1, hN⟩ := h
  obtain ⟨⟨v, hv⟩, -, -, -, -⟩ := hb
  have hne : ∀ o, some (⟨a, o, none⟩ : Addr).block ≠ some b := fun o => by simp only [ne_eq, Option.some.injEq]; exact hab
  have k0 := (grownBy_cell hg (p := ⟨a, 0, none⟩) h4 (hne 0)).trans h0
  have k1 := (grownBy_cell hg (p := ⟨a, 1, none⟩) h4 (hne 1)).trans h1
  exact ⟨⟨⟨_, k0⟩, ⟨_, k1⟩, (grownBy_frozen hg (p := ⟨a, 0, none⟩) h4 (hne 0)).trans h2, (grownBy_frozen hg (p := ⟨a, 1, none⟩) h4 (hne 1)).trans h3, Nat.lt_of_lt_of_le h4 hg.size⟩, k0, ao, A, c, k1, hN.far hv hg⟩
/-- A method sets its receiver. -/
def MutRes (w : World) (a : Nat) (z : Int) (e : Ending) (w' : World) : Prop := e = .returned (.pointer (some ⟨a, 0, none⟩)) ∧ w.grownBy w' (some a) ∧ BigAt w' a z
theorem BigAt.put {w : World} {a : Nat} {ao : Option Addr} {A c n : Nat} (hs : IntSpot w a) (hN : WNum w ao A c n) (s : Bool) (z : Int) (hz : z.natAbs = n) (hsz : s = decide (z < 0)) :
    w.grownBy ((w.setCell ⟨a, 0, none⟩ (.bool s)).setCell ⟨a, 1, none⟩ (.slice ao A c)) (some a) ∧ BigAt ((w.setCell ⟨a, 0, none⟩ (.bool s)).setCell ⟨a, 1, none⟩ (.slice ao A c)) a z := by
  obtain ⟨⟨b, h0⟩, ⟨v, h1⟩, h2, h3, h4⟩ := hs
  have hg2 : w.grownBy ((w.setCell ⟨a, 0, none⟩ (.bool s)).setCell ⟨a, 1, none⟩ (.slice ao A c)) (some a) := grownBy_trans (grownBy_setCell w ⟨a, 0, none⟩ (.bool s)) (grownBy_setCell _ ⟨a, 1, none⟩ _)
  have e1 : (w.setCell ⟨a, 0, none⟩ (.bool s)).cell? ⟨a, 1, none⟩ = some v := by rw [World.cell?_setCell_other _ _ _ _ (by simp)]; exact h1
  have k0 : ((w.setCell ⟨a, 0, none⟩ (.bool s)).setCell ⟨a, 1, none⟩ (.slice ao A c)).cell? ⟨a, 0, none⟩ = some (.bool s) := by
    rw [World.cell?_setCell_other _ _ _ _ (by simp), World.cell?_setCell_same w _ _ h0]
  have k1 : ((w.setCell ⟨a, 0, none⟩ (.bool s)).setCell ⟨a, 1, none⟩ (.slice ao A c)).cell? ⟨a, 1, none⟩ = some (.slice ao A c) := World.cell?_setCell_same _ _ _ e1
  refine ⟨hg2, ⟨⟨_, k0⟩, ⟨_, k1⟩, by rw [World.frozen?_setCell, World.frozen?_setCell]; exact h2, by rw [World.frozen?_setCell, World.frozen?_setCell]; exact h3, by simpa [World.setCell] using h4⟩, by rw [← hsz]; exact k0, ao, A, c, k1, ?_⟩
  rw [hz]
  exact hN.far h0 hg2
set_option maxRecDepth 100000 in
set_option maxHeartbeats 1000000 in
theorem iset_calls (w : World) (a : Nat) (below : Bool) (ao : Option Addr) (A c n : Nat) (hs : IntSpot w a) (hN : WNum w ao A c n) :
    Calls Tryd.prog 92 #[.pointer (some ⟨a, 0, none⟩), .bool below, .slice ao A c] w (MutRes w a (if below = true then -(n : Int) else (n : Int))) := by
  obtain ⟨⟨b, h0⟩, ⟨v, h1⟩, h2, h3, h4⟩ := id hs
  obtain ⟨z, hz⟩ : ∃ z : Int, z = (if below = true then -(n : Int) else (n : Int)) := ⟨_, rfl⟩
  obtain ⟨s, hsd⟩ : ∃ s : Bool, s = (below && decide (0 < A)) := ⟨_, rfl⟩
  have hn0 : A = 0 ↔ n = 0 := by rw [← hN.many]; exact W.many_eq_zero
  have HP := Lib.hid (BigAt.put hs hN s z (by rw [hz]; split <;> omega) (by
    rw [hsd, hz]
    cases below
    · simp
    · by_cases hA : A = 0
      · have := hn0.1 hA; subst this; subst hA; simp
      · have : n ≠ 0 := fun h => hA (hn0.2 h)
        simp; omega))
  rw [← hz]
  have HSD := Lib.hid hsd
  clear hz hsd hn0
  go_enter Tryd.func92, Tryd.ntmps92
  cases below with
  | false =>
    have hs0 : s = false := by rw [HSD.out]; rfl
    subst hs0
    go_wp2_with fail
    go_ret
    exact ⟨rfl, HP.out.1, HP.out.2⟩
  | true =>
    by_cases hA : 0 < A
    · have hs0 : s = true := by rw [HSD.out]; simp [hA]
      subst hs0
      have hA2 : decide ((A : Int) > 0) = true := by simp; omega
      go_wp2_with fail
      go_ret
      exact ⟨rfl, HP.out.1, HP.out.2⟩
    · have hs0 : s = false := by rw [HSD.out]; simp [hA]
      subst hs0
      have hA2 : decide ((A : Int) > 0) = false := by simp; omega
      go_wp2_with fail
      go_ret
      exact ⟨rfl, HP.out.1, HP.out.2⟩
set_option maxRecDepth 100000 in
theorem isign_calls (w : World) (a : Nat) (z : Int) (h : BigAt w a z) :
    Calls Tryd.prog 86 #[.pointer (some ⟨a, 0, none⟩)] w fun e w' => e = .returned (.int .i64 (Int.sign z)) ∧ Ext w w' := by
  obtain ⟨⟨-, -, -, -, h4⟩, h0, ao, A, c, h1, hN⟩ := h
  have hA : A = 0 ↔ z = 0 := by rw [← hN.many, W.many_eq_zero]; omega
  go_enter Tryd.func86, Tryd.ntmps86
  rcases Int.lt_trichotomy z 0 with hz | hz | hz
  · have hd : decide (z < 0) = true := by simp [hz]
    rw [hd] at h0
    have hA0 : ((A : Int) == 0) = false := by simp; omega
    have HS : Hid (Int.sign z = -1) := Lib.hid (Int.sign_eq_neg_one_of_neg hz)
    clear hd hz hA
    go_wp2_with fail
    go_ret
    exact ⟨ret_int HS.out.symm, (by repeat (first | exact Ext.refl _ | assumption | refine Ext.alloc ?_ _ | refine Ext.drewN ?_ _ | refine Ext.drew ?_))⟩
  · have hA0 : A = 0 := hA.2 hz
    subst hz
    subst hA0
    go_wp2_with fail
    go_ret
    exact ⟨rfl, (by repeat (first | exact Ext.refl _ | assumption | refine Ext.alloc ?_ _ | refine Ext.drewN ?_ _ | refine Ext.drew ?_))⟩
  · have hd : decide (z < 0) = false := by simp; omega
    rw [hd] at h0
    have hA0 : ((A : Int) == 0) = false := by simp; omega
    have HS : Hid (Int.sign z = 1) := Lib.hid (Int.sign_eq_one_of_pos hz)
    clear hd hz hA
    go_wp2_with fail
    go_ret
    exact ⟨ret_int HS.out.symm, (by repeat (first | exact Ext.refl _ | assumption | refine Ext.alloc ?_ _ | refine Ext.drewN ?_ _ | refine Ext.drew ?_))⟩
/-- A new number is handed back. -/
def NewRes (w : World) (z : Int) (e : Ending) (w' : World) : Prop := ∃ a, e = .returned (.pointer (some ⟨a, 0, none⟩)) ∧ w.heap.size ≤ a ∧ BigAt w' a z ∧ Ext w w'
set_option maxRecDepth 100000 in
set_option maxHeartbeats 1000000 in
theorem newInt_calls (w : World) (z : Int) (hz : -9223372036854775808 < z ∧ z < 9223372036854775808) :
    Calls Tryd.prog 58 #[.int .i64 z] w (NewRes w z) := by
  have k1 := fun W => wof_calls W z.natAbs (by omega)
  have hnew : ∀ (W : World) (b : Bool) (ao : Option Addr) (A c : Nat), b = decide (z < 0) → WNum W ao A c z.natAbs → BigAt (W.alloc (Obj.cells #[.bool b, .slice ao A c] 94)) W.heap.size z := fun W b ao A c hb hN =>
    ⟨⟨⟨b, by simp [go_sem]⟩, ⟨_, by simp [go_sem]; rfl⟩, by simp [go_sem], by simp [go_sem], by simp⟩, by rw [← hb]; simp [go_sem], ao, A, c, by simp [go_sem], hN.ext ((Ext.refl _).alloc _)⟩
  go_enter Tryd.func58, Tryd.ntmps58
  by_cases h : z < 0
  · have hw : IntKind.u64.wrap (-IntKind.u64.wrap z) = ((z.natAbs : Nat) : Int) := by rw [IntKind.wrap_u64, IntKind.wrap_u64]; omega
    have hd : true = decide (z < 0) := by simp [h]
    have HD := Lib.hid hd
    clear hd
    go_wp2_with fail
    refine (k1 _).mono ?_
    rintro e w2 ⟨ao, A, c, rfl, hN, hx2⟩
    have hB := hnew w2 true ao A c HD.out hN
    have hs2 := hx2.size
    go_wp2_with fail
    go_ret
    exact ⟨w2.heap.size, rfl, hs2, hB, hx2.alloc _⟩
  · have hw : IntKind.u64.wrap z = ((z.natAbs : Nat) : Int) := by rw [IntKind.wrap_u64]; omega
    have hd : false = decide (z < 0) := by simp; omega
    have HD := Lib.hid hd
    clear hd
    go_wp2_with fail
    refine (k1 _).mono ?_
    rintro e w2 ⟨ao, A, c, rfl, hN, hx2⟩
    have hB := hnew w2 false ao A c HD.out hN
    have hs2 := hx2.size
    go_wp2_with fail
    go_ret
    exact ⟨w2.heap.size, rfl, hs2, hB, hx2.alloc _⟩
end Go.Proofs.YtefmioppamdceaaDoor

/- big.Int: Mul, Neg, Add, Sub. -/
namespace Go.Proofs.YtefmioppamdceaaDoor
open Go.RowKit Go.Shelf

theorem MutRes.before {w w2 w' : World} {a : Nat} {z : Int} {e : Ending} (hx : Ext w w2) (h : MutRes w2 a z e w') : MutRes w a z e w' := ⟨h.1, grownBy_trans (hx.grown (some a)) h.2.1, h.2.2⟩
theorem i4c {w w' : World} {b c : Nat} {u v x y : Value} (hb : b < w.heap.size) (h0 : w.cell? ⟨b, 0, none⟩ = some u) (h1 : w.cell? ⟨b, 1, none⟩ = some v) (hc : c < w.heap.size) (h2 : w.cell? ⟨c, 0, none⟩ = some x) (h3 : w.cell? ⟨c, 1, none⟩ = some y) (hx : Ext w w') :
    (w'.cell? ⟨b, 0, none⟩ = some u) ∧ (w'.cell? ⟨b, 1, none⟩ = some v) ∧ (w'.cell? ⟨c, 0, none⟩ = some x) ∧ (w'.cell? ⟨c, 1, none⟩ = some y) :=
  ⟨(hx.cell (p := ⟨b, 0, none⟩) hb).trans h0, (hx.cell (p := ⟨b, 1, none⟩) hb).trans h1, (hx.cell (p := ⟨c, 0, none⟩) hc).trans h2, (hx.cell (p := ⟨c, 1, none⟩) hc).trans h3⟩
theorem i4f {w v w' : World} {a b c : Nat} {u1 u2 x y : Value} (hb : b < w.heap.size) (h0 : w.cell? ⟨b, 0, none⟩ = some u1) (h1 : w.cell? ⟨b, 1, none⟩ = some u2) (hc : c < w.heap.size) (h2 : w.cell? ⟨c, 0, none⟩ = some x) (h3 : w.cell? ⟨c, 1, none⟩ = some y) (hab : a ≠ b) (hac : a ≠ c) (hx : Ext w v) (hg : v.grownBy w' (some a)) :
    (w'.cell? ⟨b, 0, none⟩ = some u1) ∧ (w'.cell? ⟨b, 1, none⟩ = some u2) ∧ (w'.cell? ⟨c, 0, none⟩ = some x) ∧ (w'.cell? ⟨c, 1, none⟩ = some y) := by
  obtain ⟨k0, k1, k2, k3⟩ := i4c hb h0 h1 hc h2 h3 hx
  have n1 : ∀ o, some (⟨b, o, none⟩ : Addr).block ≠ some a := fun o => by simp only [ne_eq, Option.some.injEq]; exact hab.symm
  have n2 : ∀ o, some (⟨c, o, none⟩ : Addr).block ≠ some a := fun o => by simp only [ne_eq, Option.some.injEq]; exact hac.symm
  have lb := Nat.lt_of_lt_of_le hb hx.size
  have lc := Nat.lt_of_lt_of_le hc hx.size
  exact ⟨(grownBy_cell hg (p := ⟨b, 0, none⟩) lb (n1 0)).trans k0, (grownBy_cell hg (p := ⟨b, 1, none⟩) lb (n1 1)).trans k1, (grownBy_cell hg (p := ⟨c, 0, none⟩) lc (n2 0)).trans k2, (grownBy_cell hg (p := ⟨c, 1, none⟩) lc (n2 1)).trans k3⟩
theorem many2 {n : Nat} (h : n < 18446744073709551616) : W.many n ≤ 2 := W.many_le (by omega)
set_option maxRecDepth 100000 in
set_option maxHeartbeats 1000000 in
theorem imul_calls (w : World) (a b c : Nat) (x y : Int) (ha : IntSpot w a) (hx : BigAt w b x) (hy : BigAt w c y) (hX : x.natAbs < 18446744073709551616) (hY : y.natAbs < 18446744073709551616) (hab : a ≠ b) (hac : a ≠ c) :
    Calls Tryd.prog 57 #[.pointer (some ⟨a, 0, none⟩), .pointer (some ⟨b, 0, none⟩), .pointer (some ⟨c, 0, none⟩)] w (MutRes w a (x * y)) := by
  obtain ⟨⟨-, -, -, -, hbl⟩, x0, xo, xA, xc, x1, hxN⟩ := id hx
  obtain ⟨⟨-, -, -, -, hcl⟩, y0, yo, yA, yc, y1, hyN⟩ := id hy
  have hxA : xA ≤ 2 := by rw [← hxN.many]; exact many2 hX
  have hyA : yA ≤ 2 := by rw [← hyN.many]; exact many2 hY
  obtain ⟨s, hs⟩ : ∃ s, s = decide (x < 0) := ⟨_, rfl⟩
  obtain ⟨t, ht⟩ : ∃ t, t = decide (y < 0) := ⟨_, rfl⟩
  rw [← hs] at x0
  rw [← ht] at y0
  have HZ : Hid ((if (!(s == t)) = true then -((x.natAbs * y.natAbs : Nat) : Int) else ((x.natAbs * y.natAbs : Nat) : Int)) = x * y) := Lib.hid (by
    rw [hs, ht, Int.natCast_mul]
    by_cases h1 : x < 0 <;> by_cases h2 : y < 0
    · rw [decide_eq_true h1, decide_eq_true h2, show (x.natAbs : Int) = -x by omega, show (y.natAbs : Int) = -y by omega, if_neg (by decide)]; exact Int.neg_mul_neg x y
    · rw [decide_eq_true h1, decide_eq_false h2, show (x.natAbs : Int) = -x by omega, show (y.natAbs : Int) = y by omega, if_pos (by decide), Int.neg_mul, Int.neg_neg]
    · rw [decide_eq_false h1, decide_eq_true h2, show (x.natAbs : Int) = x by omega, show (y.natAbs : Int) = -y by omega, if_pos (by decide), Int.mul_neg, Int.neg_neg]
    · rw [decide_eq_false h1, decide_eq_false h2, show (x.natAbs : Int) = x by omega, show (y.natAbs : Int) = y by omega, if_neg (by decide)])
  have htc := fun W h h' => wtimes_calls W xo yo xc yc xA yA x.natAbs y.natAbs h h' hxA hyA
  have hsc := fun W ro rA rc h hN => (iset_calls W a (!(s == t)) ro rA rc (x.natAbs * y.natAbs) h hN)
  rw [HZ.out] at hsc
  clear hs ht HZ
  go_enter Tryd.func57, Tryd.ntmps57
  go_wp2_with fail
  go_region_held3 (fun w' => (w'.cell? ⟨b, 0, none⟩ = some (.bool s)) ∧ (w'.cell? ⟨b, 1, none⟩ = some (.slice xo xA xc)) ∧ (w'.cell? ⟨c, 0, none⟩ = some (.bool t)) ∧ (w'.cell? ⟨c, 1, none⟩ = some (.slice yo yA yc)))
    (first | with_reducible exact hfar | exact i4c hbl x0 x1 hcl y0 y1 (by repeat (with_reducible first | exact Ext.refl _ | assumption | refine Ext.alloc ?_ _ | refine Ext.drew ?_)))
    ((first
      | (go_at_call 92; (with_reducible refine Calls.mono (hsc _ _ _ _ ?_ ?_) ?_); (exact ha.ext (by repeat (with_reducible first | exact Ext.refl _ | assumption | refine Ext.alloc ?_ _ | refine Ext.drew ?_))); (exact hN); rintro e v2 ⟨rfl, hg, hB⟩; have hfar := i4f hbl x0 x1 hcl y0 y1 hab hac hxv1 hg)
      | (go_at_call 93; (with_reducible refine Calls.mono (htc _ ?_ ?_) ?_); (exact hxN.ext (by repeat (with_reducible first | exact Ext.refl _ | assumption | refine Ext.alloc ?_ _ | refine Ext.drew ?_))); (exact hyN.ext (by repeat (with_reducible first | exact Ext.refl _ | assumption | refine Ext.alloc ?_ _ | refine Ext.drew ?_))); rintro e v1 ⟨ro, rA, rc, rfl, hN, hx11⟩; have hxv1 : Ext w v1 := Ext.trans (by repeat (with_reducible first | exact Ext.refl _ | assumption | refine Ext.alloc ?_ _ | refine Ext.drew ?_)) hx11)))
  all_goals
    have hg2 := grownBy_trans (hxv1.grown (some a)) hg
    go_wp2_with fail
    go_ret
    exact ⟨rfl, hg2, hB⟩
set_option maxRecDepth 100000 in
theorem ineg_calls (w : World) (a b : Nat) (x : Int) (ha : IntSpot w a) (hx : BigAt w b x) :
    Calls Tryd.prog 91 #[.pointer (some ⟨a, 0, none⟩), .pointer (some ⟨b, 0, none⟩)] w (MutRes w a (-x)) := by
  obtain ⟨⟨-, -, -, -, hbl⟩, x0, xo, xA, xc, x1, hxN⟩ := id hx
  have hsc := fun W h hN => iset_calls W a (!decide (x < 0)) xo xA xc x.natAbs h hN
  have HZ : Hid ((if (!decide (x < 0)) = true then -(x.natAbs : Int) else (x.natAbs : Int)) = -x) := Lib.hid (by
    by_cases h1 : x < 0
    · rw [decide_eq_true h1, if_neg (by decide)]; omega
    · rw [decide_eq_false h1, if_pos (by decide)]; omega)
  rw [HZ.out] at hsc
  obtain ⟨s, hs⟩ : ∃ s, s = decide (x < 0) := ⟨_, rfl⟩
  rw [← hs] at x0
  simp only [← hs] at hsc
  clear hs HZ
  go_enter Tryd.func91, Tryd.ntmps91
  go_wp2_with fail
  go_region_with ((go_at_call 92; (with_reducible refine Calls.mono (hsc _ ?_ ?_) ?_); (exact ha.ext (by repeat (with_reducible first | exact Ext.refl _ | assumption | refine Ext.alloc ?_ _ | refine Ext.drew ?_))); (exact hxN.ext (by repeat (with_reducible first | exact Ext.refl _ | assumption | refine Ext.alloc ?_ _ | refine Ext.drew ?_))); rintro e v2 ⟨rfl, hg, hB⟩))
  all_goals
    have hg2 : w.grownBy v2 (some a) := grownBy_trans (Ext.grown (show Ext w _ from (by repeat (with_reducible first | exact Ext.refl _ | assumption | refine Ext.alloc ?_ _ | refine Ext.drew ?_))) (some a)) hg
    go_wp2_with fail
    go_ret
    exact ⟨rfl, hg2, hB⟩
end Go.Proofs.YtefmioppamdceaaDoor
