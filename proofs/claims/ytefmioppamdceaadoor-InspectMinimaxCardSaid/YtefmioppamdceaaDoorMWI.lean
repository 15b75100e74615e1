/- Words of big: long division by two words: the walk. -/
import Derived.Test.YtefmioppamdceaaDoorMWF
import Derived.Deep.DeepCutAuto
import Derived.Deep.QuietTactic
namespace Go.Proofs.YtefmioppamdceaaDoor
open Go.RowKit Go.Shelf
/-- The numbers of a division, shifted. -/
theorem norm_div {m n A t s : Nat} (ht : t = 2 ^ s) (hs : s ≤ 31) (hm : m < 4294967296 ^ A) (h1 : 2147483648 ≤ W.dig n 1 * t) (h2 : W.dig n 1 * t < 4294967296) (hn : n = W.dig n 1 * 4294967296 + W.dig n 0) :
    n * t = W.dig (n * t) 1 * 4294967296 + W.dig (n * t) 0 ∧ 2147483648 ≤ W.dig (n * t) 1 ∧ n * t < 4294967296 ^ 2 ∧ 0 < n ∧ m * t / (n * t) = m / n ∧ ∀ i, A - 1 ≤ i → W.dig (m * t / 4294967296 ^ (A - 1) % (n * t)) (i - (A - 1)) = W.dig (m * t) i := by
  have ht0 : 0 < t := by rw [ht]; exact Nat.pow_pos (by omega)
  have ht1 : t ≤ 2147483648 := by rw [ht]; exact Nat.pow_le_pow_right (n := 2) (by omega) hs
  have hdv : t ∣ 4294967296 := by rw [ht]; exact Nat.pow_dvd_pow 2 (n := 32) (by omega)
  obtain ⟨g, hg⟩ := hdv
  obtain ⟨x1, hx1⟩ : ∃ x1, x1 = W.dig n 1 := ⟨_, rfl⟩
  obtain ⟨x0, hx0⟩ : ∃ x0, x0 = W.dig n 0 := ⟨_, rfl⟩
  have hx09 : x0 < 4294967296 := by rw [hx0]; exact W.dig_lt _ _
  rw [← hx1] at h1 h2 hn
  rw [← hx0] at hn
  have h3 : x1 * t + t ≤ 4294967296 := by
    rw [Nat.mul_comm] at h2 ⊢
    have h4 : x1 < g := Nat.lt_of_mul_lt_mul_left (a := t) (by omega)
    have h5 : t * (x1 + 1) ≤ t * g := Nat.mul_le_mul_left _ h4
    rw [Nat.mul_add, Nat.mul_one] at h5
    omega
  have e1 : n * t = x1 * t * 4294967296 + x0 * t := by rw [hn]; grind
  have h4 : x0 * t < 4294967296 * t := Nat.mul_lt_mul_of_pos_right hx09 ht0
  have h5 : n * t < 4294967296 ^ 2 := by rw [e1]; omega
  have h6 : W.many (n * t) ≤ 2 := W.many_le h5
  have h7 := two_digs h6
  have h8 : 2147483648 ≤ W.dig (n * t) 1 := by
    unfold W.dig
    rw [Nat.pow_one, e1]
    omega
  refine ⟨h7, h8, h5, ?_, Nat.mul_div_mul_right m n ht0, fun i hi => ?_⟩
  · rcases Nat.eq_zero_or_pos n with h | h
    · rw [h, Nat.zero_mul] at e1; omega
    · exact h
  · have hlt : m * t / 4294967296 ^ (A - 1) < n * t := by
      rw [Nat.div_lt_iff_lt_mul (Nat.pow_pos (by omega))]
      have a1 : m * t < 4294967296 ^ A * t := Nat.mul_lt_mul_of_pos_right hm ht0
      have a2 : 4294967296 ^ A ≤ 4294967296 * 4294967296 ^ (A - 1) := by
        rw [Nat.mul_comm, ← Nat.pow_succ]; exact Nat.pow_le_pow_right (by omega) (by omega)
      have a3 : 4294967296 ^ A * t ≤ 4294967296 * 4294967296 ^ (A - 1) * t := Nat.mul_le_mul_right _ a2
      have a4 : 4294967296 * t ≤ n * t := by
        have : 4294967296 * t ≤ 2147483648 * 4294967296 := by omega
        omega
      have a5 : 4294967296 * t * 4294967296 ^ (A - 1) ≤ n * t * 4294967296 ^ (A - 1) := Nat.mul_le_mul_right _ a4
      have a6 : 4294967296 * 4294967296 ^ (A - 1) * t = 4294967296 * t * 4294967296 ^ (A - 1) := Nat.mul_right_comm _ _ _
      omega
    rw [Nat.mod_eq_of_lt hlt]
    unfold W.dig
    rw [Nat.div_div_eq_div_mul, ← Nat.pow_add, show A - 1 + (i - (A - 1)) = i by omega]
theorem dig_push (Z x : Nat) (hx : x < 4294967296) : W.dig (Z * 4294967296 + x) 0 = x ∧ ∀ i, W.dig (Z * 4294967296 + x) (i + 1) = W.dig Z i := by
  constructor
  · unfold W.dig; rw [Nat.pow_zero, Nat.div_one]; omega
  · intro i
    unfold W.dig
    rw [Nat.pow_succ, Nat.mul_comm (4294967296 ^ i), ← Nat.div_div_eq_div_mul]
    rw [show (Z * 4294967296 + x) / 4294967296 = Z by omega]
theorem CellsU.grown {w w' : World} {Q N : Nat} {f : Nat → Int} {row : Option Nat} (h : CellsU w Q N f) (hQ : Q < w.heap.size) (hg : w.grownBy w' row) (hne : some Q ≠ row) : CellsU w' Q N f := fun j hj =>
  ⟨(grownBy_cell hg (p := ⟨Q, j, none⟩) hQ hne).trans (h j hj).1, (grownBy_frozen hg (p := ⟨Q, j, none⟩) hQ hne).trans (h j hj).2⟩
theorem back_dig {Y t r k : Nat} (hY : Y = r * t) (ht : 0 < t) (hlt : Y < 4294967296 ^ 2) (hk : k < 2) : (W.dig Y (k + 1) * 4294967296 + W.dig Y k) / t % 4294967296 = W.dig r k := by
  have hr : r = Y / t := by rw [hY, Nat.mul_div_cancel _ ht]
  have h2 := two_digs (W.many_le hlt)
  match k, hk with
  | 0, _ =>
    rw [← h2, ← hr]
    unfold W.dig
    simp
  | 1, _ =>
    have h3 : W.dig Y 2 = 0 := W.dig_out (W.many_le hlt)
    rw [h3, Nat.zero_mul, Nat.zero_add, hr]
    unfold W.dig
    rw [Nat.pow_one, Nat.div_div_eq_div_mul, Nat.mul_comm t, ← Nat.div_div_eq_div_mul, Nat.mod_eq_of_lt (show Y / 4294967296 < 4294967296 by omega)]
  | k + 2, hk => exact absurd hk (by omega)
/-- A quotient and what is left. -/
def DivRes (w : World) (m n : Nat) (e : Ending) (w' : World) : Prop := ∃ qo qA qc ro rA rc, e = .returned (.tuple #[.slice qo qA qc, .slice ro rA rc]) ∧ WNum w' qo qA qc (m / n) ∧ WNum w' ro rA rc (m % n) ∧ Ext w w'
set_option maxRecDepth 100000 in
set_option maxHeartbeats 16000000 in
theorem wlong_calls (w : World) (ao bo : Option Addr) (c d A : Nat) (m n : Nat) (hI : WNum w ao A c m) (hJ : WNum w bo 2 d n) (hA2 : 2 ≤ A) (hA : A ≤ 10000) :
    Calls Tryd.prog 124 #[.slice ao A c, .slice bo 2 d] w (DivRes w m n) := by
  obtain ⟨b0, e0, hb0, hc0⟩ := hJ.at_ 1 (by omega)
  subst e0
  have hd1 := W.dig_lt n 1
  have hn2 := two_digs (n := n) (by rw [hJ.many]; omega)
  have hn0 : W.dig n 1 ≠ 0 := fun h => by
    have h1 := (W.lt_pow_iff 1 n).1 (by rw [hJ.many]; omega)
    have := W.dig_lt n 0
    rw [h] at hn2; omega
  obtain ⟨x1, hx1⟩ : ∃ x1, x1 = W.dig n 1 := ⟨_, rfl⟩
  obtain ⟨s, hs⟩ : ∃ s, s = 32 - Lib.bitLen x1 := ⟨_, rfl⟩
  have hl32 : Lib.bitLen x1 ≤ 32 := Lib.bitLen_le x1 32 (by omega) (by rw [hx1]; exact hd1)
  rw [← hx1] at hc0 hd1 hn0
  obtain ⟨hs1, hs2, hs3⟩ := norm_word hn0 hd1 hs
  have hlz := lz32_calls (x1 : Int) w (by omega) (by omega)
  rw [show (32 : Int) - ((Lib.bitLen (x1 : Int).toNat : Nat) : Int) = (s : Int) by rw [Int.toNat_natCast]; omega] at hlz
  have HX1 := Lib.hid hx1
  have HN2 := Lib.hid hn2
  have HS2 := Lib.hid hs2
  have HS3 := Lib.hid hs3
  clear hs hl32 hx1 hn2 hs2 hs3
  have hsh1 := fun W h => wshift_calls W ao c A m s h hA hs1
  have hsh2 := fun W h => wshift_calls W (some ⟨b0, 0, none⟩) d 2 n s h (by omega) hs1
  obtain ⟨t, ht⟩ : ∃ t : Nat, t = 2 ^ s := ⟨_, rfl⟩
  simp only [← ht] at hsh1 hsh2
  have HT := Lib.hid ht
  clear ht
  go_enter Tryd.func124, Tryd.ntmps124
  go_wp2_with fail
  refine hlz.mono ?_
  rintro e w1 ⟨rfl, hw⟩
  obtain rfl : w = w1 := hw.symm
  clear hlz
  go_wp2_with fail
  go_cut [7, 8] (fun s7 s8 wx => ∃ Q1 Q2, s7 = .slice (some ⟨Q1, 0, none⟩) (A + 1) (A + 1) ∧ s8 = .slice (some ⟨Q2, 0, none⟩) 2 3 ∧ w.heap.size ≤ Q1 ∧ w.heap.size ≤ Q2 ∧ Q1 < wx.heap.size ∧ Q2 < wx.heap.size ∧ Q1 ≠ Q2 ∧ Hid (CellsU wx Q1 (A + 1) (fun j => (W.dig (m * t) j : Int))) ∧ Hid (CellsU wx Q2 3 (fun j => (W.dig (n * t) j : Int))) ∧ Ext w wx)
  case first =>
    go_region_with ((first
        | (go_at_call 126; (with_reducible refine Calls.mono (hsh1 _ ?_) ?_); (exact hI.ext (by repeat (with_reducible first | exact Ext.refl _ | assumption | refine Ext.alloc ?_ _ | refine Ext.drew ?_))); rintro e v1 ⟨Q1, rfl, hQ1w, hQ1, HC1, hx11⟩; have hxv1 : Ext w v1 := Ext.trans (by repeat (with_reducible first | exact Ext.refl _ | assumption | refine Ext.alloc ?_ _ | refine Ext.drew ?_)) hx11)
        | (go_at_call 126; (with_reducible refine Calls.mono (hsh2 _ ?_) ?_); (exact hJ.ext (by repeat (with_reducible first | exact Ext.refl _ | assumption | refine Ext.alloc ?_ _ | refine Ext.drew ?_))); rintro e v2 ⟨Q2, rfl, hQ2w, hQ2, HC2, hx12⟩; have hxv2 : Ext w v2 := Ext.trans (by repeat (with_reducible first | exact Ext.refl _ | assumption | refine Ext.alloc ?_ _ | refine Ext.drew ?_)) hx12)))
    all_goals
      have e1 := hxv1.size
      have e2 := hxv2.size
      have e3 := hx11.size
      have e4 := hx12.size
      simp only [World.size_drew] at hQ1w hQ2w e3 e4
      go_wp2_with fail
      go_meet
      first
        | exact ⟨Q1, Q2, rfl, rfl, by omega, by omega, by omega, by omega, by omega, Lib.hid (HC1.out.ext hQ1 hx12), HC2, hxv2⟩
        | exact ⟨Q1, Q2, rfl, rfl, by omega, by omega, by omega, by omega, by omega, HC1, Lib.hid (HC2.out.ext hQ2 hx11), hxv1⟩
  case rest =>
    obtain ⟨Q1, Q2, rfl, rfl, hQ1w, hQ2w, hQ1, hQ2, hne, HC1, HC2, hx3⟩ := hcut
    clear hsh1 hsh2 hc0
    have hmk : ∀ W, (Instr.makeSlice 92 (.int .i64 ((A : Int) - 2 + 1)) (.int .i64 ((A : Int) - 2 + 1))).run Tryd.prog W = .ok (.slice (some ⟨W.heap.size, 0, none⟩) (A - 1) (A - 1)) (W.alloc (.cells (Array.replicate (A - 1) (.int .u32 0)) 149)) := fun W => by
      have := make_words (A - 1) (by omega) W
      rwa [show ((A - 1 : Nat) : Int) = (A : Int) - 2 + 1 by omega] at this
    go_wp2_with fail
    have hx4 : Ext wc (wc.alloc (Obj.cells (Array.replicate (A - 1) (.int .u32 0)) 149)) := (by repeat (first | exact Ext.refl _ | assumption | refine Ext.alloc ?_ _ | refine Ext.drewN ?_ _ | refine Ext.drew ?_))
    have HC4 := Lib.hid (CellsU.made wc (A - 1) 149)
    obtain ⟨w4, hw4⟩ : ∃ w4, w4 = (wc.alloc (Obj.cells (Array.replicate (A - 1) (.int .u32 0)) 149)) := ⟨_, rfl⟩
    obtain ⟨Q3, hQ3e⟩ : ∃ Q3, Q3 = wc.heap.size := ⟨_, rfl⟩
    have hQ3 : Q3 < w4.heap.size := by rw [hw4, hQ3e]; simp
    rw [← hw4, ← hQ3e] at HC4
    rw [← hw4] at hx4 ⊢
    rw [← hQ3e]
    have hne13 : Q1 ≠ Q3 := by omega
    have hne23 : Q2 ≠ Q3 := by omega
    have hQ3w : w.heap.size ≤ Q3 := by have := hx3.size; omega
    clear hQ3e hw4 hmk
    replace HC1 := Lib.hid (HC1.out.ext hQ1 hx4)
    replace HC2 := Lib.hid (HC2.out.ext hQ2 hx4)
    replace hQ1 : Q1 < w4.heap.size := Nat.lt_of_lt_of_le hQ1 hx4.size
    replace hQ2 : Q2 < w4.heap.size := Nat.lt_of_lt_of_le hQ2 hx4.size
    replace hx3 := hx3.trans hx4
    clear hx4
    -- the numbers
    have ht0 : 0 < t := by rw [HT.out]; exact Nat.pow_pos (by omega)
    obtain ⟨M, hM⟩ : ∃ M, M = m * t := ⟨_, rfl⟩
    obtain ⟨D, hD⟩ : ∃ D, D = n * t := ⟨_, rfl⟩
    have hDD := norm_div (m := m) (n := n) (A := A) (t := t) (s := s) HT.out hs1 (by rw [← hI.many]; exact W.lt_many m) (by rw [← HX1.out, HT.out]; exact HS2.out) (by rw [← HX1.out, HT.out]; exact HS3.out) HN2.out
    rw [← hM, ← hD] at hDD
    obtain ⟨n1, n2, n3, n4, n5, n6⟩ := hDD
    rw [← hM] at HC1
    rw [← hD] at HC2
    have HQ := Lib.hid n5
    have HTOP := Lib.hid n6
    have HDE := Lib.hid n1
    obtain ⟨d1, hd1e⟩ : ∃ d1, d1 = W.dig D 1 := ⟨_, rfl⟩
    obtain ⟨d0, hd0e⟩ : ∃ d0, d0 = W.dig D 0 := ⟨_, rfl⟩
    have hd19 : d1 < 4294967296 := by rw [hd1e]; exact W.dig_lt _ _
    have hd09 : d0 < 4294967296 := by rw [hd0e]; exact W.dig_lt _ _
    have hd1n : 2147483648 ≤ d1 := by rw [hd1e]; exact n2
    have HD1 := Lib.hid hd1e
    have HD0 := Lib.hid hd0e
    have hDP : D < 4294967296 ^ 2 := n3
    have HDP := Lib.hid hDP
    clear n1 n2 n3 n4 n5 n6 hDP hd1e hd0e HX1 HN2 HS2 HS3
    go_loopw [11] (fun jv wr => ∃ p, p ≤ A - 1 ∧ jv = .int .i64 ((p : Int) - 1) ∧ Ext w wr ∧ w4.heap.size ≤ wr.heap.size ∧ Hid (CellsU wr Q2 3 (fun i => (W.dig D i : Int))) ∧ Hid (CellsU wr Q1 (A + 1) (fun i => if i < p then (W.dig M i : Int) else (W.dig (M / 4294967296 ^ p % D) (i - p) : Int))) ∧ Hid (CellsU wr Q3 (A - 1) (fun i => if i < p then 0 else (W.dig (m / n) i : Int)))) (fun jv _ => (intOf jv + 1).toNat)
    case atStart => exact ⟨A - 1, Nat.le_refl _, by show Value.int _ _ = Value.int _ _; congr 1; omega, hx3, Nat.le_refl _, HC2, Lib.hid (fun i hi => by
      have h1 := HC1.out i hi
      simp only [] at h1 ⊢
      by_cases e : i < A - 1
      · rw [if_pos e]; exact h1
      · rw [if_neg e, HTOP.out i (by omega)]; exact h1), Lib.hid (fun i hi => by
      have h1 := HC4.out i hi
      simp only [] at h1 ⊢
      rw [if_pos hi]; exact h1)⟩
    case round =>
      obtain ⟨p, hp, rfl, hxr, hsz, HR2, HR1, HR3⟩ := hrel
      rcases Nat.eq_zero_or_pos p with h0 | h0
      · subst h0
        obtain ⟨Y, hY⟩ : ∃ Y, Y = M % D := ⟨_, rfl⟩
        have hYr : Y = m % n * t := by rw [hY, hM, hD, Nat.mul_mod_mul_right]
        have hD0 : 0 < D := by have := HDE.out; rw [← HD1.out] at this; omega
        have hYD : Y < 4294967296 ^ 2 := Nat.lt_trans (by rw [hY]; exact Nat.mod_lt _ hD0) HDP.out
        have HB := Lib.hid (fun k hk => back_dig (k := k) hYr ht0 hYD hk)
        have HYC : Hid (CellsU wr Q1 (A + 1) (fun i => (W.dig Y i : Int))) := Lib.hid (fun i hi => by
          have h1 := HR1.out i hi
          simp only [Nat.pow_zero, Nat.div_one, Nat.sub_zero, ← hY] at h1
          rw [if_neg (by omega)] at h1
          exact h1)
        have HOC : Hid (CellsU wr Q3 (A - 1) (fun i => (W.dig (m / n) i : Int))) := Lib.hid (fun i hi => by
          have h1 := HR3.out i hi
          simp only [] at h1
          rw [if_neg (by omega)] at h1
          exact h1)
        have hQ1r : Q1 < wr.heap.size := Nat.lt_of_lt_of_le hQ1 hsz
        have hQ3r : Q3 < wr.heap.size := Nat.lt_of_lt_of_le hQ3 hsz
        have hmk2 : ∀ W, (Instr.makeSlice 92 (.int .i64 2) (.int .i64 2)).run Tryd.prog W = .ok (.slice (some ⟨W.heap.size, 0, none⟩) 2 2) (W.alloc (.cells (Array.replicate 2 (.int .u32 0)) 149)) := fun W => by
          have := make_words 2 (by omega) W
          simpa using this
        have hmn : n ≤ m ∨ m < n := by omega
        have hqlt : m / n < 4294967296 ^ (A - 1) := by
          have h1 := W.lt_many m
          rw [hI.many] at h1
          have h2 : 4294967296 ^ (2 - 1) ≤ n := (W.lt_pow_iff 1 n).1 (by rw [hJ.many]; omega)
          rw [Nat.div_lt_iff_lt_mul (by omega)]
          have h3 : 4294967296 ^ (A - 1) * 4294967296 ^ (2 - 1) ≤ 4294967296 ^ (A - 1) * n := Nat.mul_le_mul_left _ h2
          rw [← Nat.pow_add, show A - 1 + (2 - 1) = A by omega] at h3
          omega
        have hrlt : m % n < 4294967296 ^ 2 := by
          have h1 := W.lt_many n
          rw [hJ.many] at h1
          have h2 : 0 < n := by
            have h2 : 4294967296 ^ (2 - 1) ≤ n := (W.lt_pow_iff 1 n).1 (by rw [hJ.many]; omega)
            omega
          have := Nat.mod_lt m h2
          omega
        have HQL := Lib.hid hqlt
        have HRL := Lib.hid hrlt
        clear hmn hqlt hrlt hYD hYr hY hM hD HR1 HR3 HR2 HTOP HQ HDE
        go_wp2_with fail
        have hx8 : Ext wr (wr.alloc (Obj.cells (Array.replicate 2 (.int .u32 0)) 149)) := (by repeat (first | exact Ext.refl _ | assumption | refine Ext.alloc ?_ _ | refine Ext.drewN ?_ _ | refine Ext.drew ?_))
        have HC8 := Lib.hid (CellsU.made wr 2 149)
        obtain ⟨w8, hw8⟩ : ∃ w8, w8 = (wr.alloc (Obj.cells (Array.replicate 2 (.int .u32 0)) 149)) := ⟨_, rfl⟩
        obtain ⟨Q4, hQ4e⟩ : ∃ Q4, Q4 = wr.heap.size := ⟨_, rfl⟩
        have hQ4 : Q4 < w8.heap.size := by rw [hw8, hQ4e]; simp
        rw [← hw8, ← hQ4e] at HC8
        rw [← hw8] at hx8 ⊢
        rw [← hQ4e]
        have hQ4r : wr.heap.size ≤ Q4 := by omega
        clear hQ4e hw8 hmk2
        go_loopw [150] (fun iv wz => ∃ k : Nat, k ≤ 2 ∧ iv = .int .i64 k ∧ Ext wr wz ∧ w8.grownBy wz (some Q4) ∧ Hid (CellsU wz Q4 2 (fun i => if i < k then (W.dig (m % n) i : Int) else 0))) (fun iv _ => 2 - (intOf iv).toNat)
        case atStart => exact ⟨0, by omega, rfl, hx8, (Ext.refl _).grown _, Lib.hid (fun i hi => by have := HC8.out i hi; simpa using this)⟩
        case round =>
          rename World => wz
          obtain ⟨k, hk, rfl, hxz, hgz, HZC⟩ := hrel
          have hQ4z : Q4 < wz.heap.size := Nat.lt_of_lt_of_le hQ4 hgz.size
          by_cases hk2 : k < 2
          · obtain ⟨a1, a2⟩ := HYC.out k (by omega)
            obtain ⟨b1, b2⟩ := HYC.out (k + 1) (by omega)
            obtain ⟨o1, o2⟩ := HZC.out k (by omega)
            simp only [] at a1 b1 o1
            rw [if_neg (by omega)] at o1
            replace a1 := (hxz.cell (p := ⟨Q1, k, none⟩) hQ1r).trans a1
            replace b1 := (hxz.cell (p := ⟨Q1, k + 1, none⟩) hQ1r).trans b1
            have hb := HB.out k hk2
            obtain ⟨u, hu⟩ : ∃ u, u = W.dig Y k := ⟨_, rfl⟩
            obtain ⟨v, hv⟩ : ∃ v, v = W.dig Y (k + 1) := ⟨_, rfl⟩
            have hu9 : u < 4294967296 := by rw [hu]; exact W.dig_lt _ _
            have hv9 : v < 4294967296 := by rw [hv]; exact W.dig_lt _ _
            rw [← hu] at a1
            rw [← hv] at b1
            rw [← hu, ← hv] at hb
            obtain ⟨vu, hvu⟩ : ∃ vu, vu = v * 4294967296 + u := ⟨_, rfl⟩
            have hor : bits .or .u64 ((v : Int) * 4294967296) (u : Int) = (vu : Int) := by rw [or_halves v u hv9 hu9, ← hvu]
            rw [← hvu] at hb
            have HVU := Lib.hid hvu
            have HBB := Lib.hid hb
            clear hu hv hvu hb
            have k0 : (0 : Int) ≤ (k : Int) := by omega
            have k1 : (k : Int) < 2 := by omega
            have k2 : (k : Int) + 1 < (A : Int) + 1 := by omega
            have s0 : (0 : Int) ≤ (s : Int) := by omega
            have s1 : (s : Int) ≤ 64 := by omega
            have E : Hid ((vu : Int) / 2 ^ s % 4294967296 = ((W.dig (m % n) k : Nat) : Int)) := Lib.hid (by
              rw [show (2 : Int) ^ s = ((t : Nat) : Int) by rw [HT.out]; simp, ← HBB.out]; simp)
            go_wp2_with fail
            go_region
            go_wp2_with fail
            rw [E.out]
            have hs9 := (grownBy_setCell wz ⟨Q4, k, none⟩ (.int .u32 ((W.dig (m % n) k : Nat) : Int))).size
            refine ⟨⟨k + 1, by omega, by simp, (hxz.setOwn _ _ hQ4r).drew, grownBy_ext (grownBy_trans hgz (grownBy_setCell _ _ _)) ((Ext.refl _).drew), Lib.hid (CellsU.ext (HZC.out.put hk2 _ (fun i hi => ?_)) (Nat.lt_of_lt_of_le hQ4z hs9) ((Ext.refl _).drew))⟩, by simp only [intOf]; omega⟩
            by_cases e : i = k
            · subst e; rw [if_pos (by omega), if_pos rfl]
            · rw [if_neg e]
              by_cases e2 : i < k
              · rw [if_pos (by omega), if_pos e2]
              · rw [if_neg (by omega), if_neg e2]
          · obtain rfl : k = 2 := by omega
            have t1 := wtrim_calls wz (some ⟨Q3, 0, none⟩) (A - 1) (W.low (A - 1) (m / n)) ((HOC.out.ext hQ3r hxz).wIn (Nat.lt_of_lt_of_le hQ3r hxz.size) _ (by rw [W.low_length]; omega) (fun k hk => by rw [W.low_length] at hk; rw [ith_getD, W.low_at _ _ _ hk])) (W.digits_low _ _) (by rw [W.low_length]; omega) (by rw [W.low_length]; omega)
            rw [W.low_length, W.worth_low, Nat.mod_eq_of_lt HQL.out, Int.toNat_natCast] at t1
            have t2 := fun W2 (hx : Ext wz W2) => wtrim_calls W2 (some ⟨Q4, 0, none⟩) 2 (W.low 2 (m % n)) ((HZC.out.ext hQ4z hx).wIn (Nat.lt_of_lt_of_le hQ4z hx.size) _ (by rw [W.low_length]; omega) (fun k hk => by rw [W.low_length] at hk; rw [ith_getD, W.low_at _ _ _ hk, if_pos hk])) (W.digits_low _ _) (by rw [W.low_length]; omega) (by rw [W.low_length]; omega)
            simp only [W.low_length, W.worth_low, Nat.mod_eq_of_lt HRL.out, Int.toNat_natCast] at t2
            go_wp2_with fail
            refine t1.mono ?_
            rintro e w9 ⟨qo, qA, qc, rfl, hN, hx9⟩
            clear t1
            go_wp2_with fail
            refine (t2 w9 hx9).mono ?_
            rintro e w10 ⟨ro, rA, rc, rfl, hN2, hx10⟩
            have hxf : Ext w w10 := ((hxr.trans hxz).trans hx9).trans hx10
            clear t2
            go_wp2_with fail
            go_ret2
            exact ⟨qo, qA, qc, ro, rA, rc, rfl, hN.ext hx10, hN2, hxf⟩
      · obtain ⟨jj, hjj⟩ : ∃ jj, p = jj + 1 := ⟨p - 1, by omega⟩
        subst hjj
        have e1 : ((jj + 1 : Nat) : Int) - 1 = (jj : Int) := by omega
        rw [e1]
        have hQ1r : Q1 < wr.heap.size := Nat.lt_of_lt_of_le hQ1 hsz
        have hQ2r : Q2 < wr.heap.size := Nat.lt_of_lt_of_le hQ2 hsz
        have hQ3r : Q3 < wr.heap.size := Nat.lt_of_lt_of_le hQ3 hsz
        obtain ⟨Z, hZ⟩ : ∃ Z, Z = M / 4294967296 ^ (jj + 1) % D := ⟨_, rfl⟩
        have hZD : Z < D := by rw [hZ]; exact Nat.mod_lt _ (by have := HDE.out; rw [← HD1.out] at this; omega)
        obtain ⟨x, hx⟩ : ∃ x, x = W.dig M jj := ⟨_, rfl⟩
        have hx9 : x < 4294967296 := by rw [hx]; exact W.dig_lt _ _
        have st := W.div_step M D jj (by omega)
        rw [← hZ, ← hx] at st
        have HST := Lib.hid st
        have hz2 := two_digs (n := Z) (W.many_le (Nat.lt_trans hZD HDP.out))
        obtain ⟨z1, hz1⟩ : ∃ z1, z1 = W.dig Z 1 := ⟨_, rfl⟩
        obtain ⟨z0, hz0⟩ : ∃ z0, z0 = W.dig Z 0 := ⟨_, rfl⟩
        have hz19 : z1 < 4294967296 := by rw [hz1]; exact W.dig_lt _ _
        have hz09 : z0 < 4294967296 := by rw [hz0]; exact W.dig_lt _ _
        rw [← hz1, ← hz0] at hz2
        obtain ⟨a1, a2⟩ := HR1.out jj (by omega)
        obtain ⟨b1, b2⟩ := HR1.out (jj + 1) (by omega)
        obtain ⟨f1, f2⟩ := HR1.out (jj + 2) (by omega)
        obtain ⟨g1, g2⟩ := HR2.out 0 (by omega)
        obtain ⟨h1, h2⟩ := HR2.out 1 (by omega)
        obtain ⟨o1, o2⟩ := HR3.out jj (by omega)
        simp only [] at a1 b1 f1 g1 h1 o1
        rw [if_pos (by omega), ← hx] at a1
        rw [if_neg (by omega), ← hZ, Nat.sub_self, ← hz0] at b1
        rw [if_neg (by omega), ← hZ, show jj + 2 - (jj + 1) = 1 by omega, ← hz1] at f1
        rw [← HD0.out] at g1
        rw [← HD1.out] at h1
        rw [if_pos (by omega)] at o1
        have HX := Lib.hid hx
        have HZE := Lib.hid hZ
        have HZ2 := Lib.hid hz2
        have HZ1 := Lib.hid hz1
        have HZ0 := Lib.hid hz0
        clear st hx hZ hz1 hz0
        have hOR : bits .or .u64 ((z1 : Int) * 4294967296) (z0 : Int) = (Z : Int) := by rw [or_halves z1 z0 hz19 hz09, ← HZ2.out]
        have k0 : (0 : Int) ≤ (jj : Int) := by omega
        have k1 : (jj : Int) + 2 < (A : Int) + 1 := by omega
        have k2 : ((jj : Int) + 2 - 1) = (jj : Int) + 1 := by omega
        have k3 : ((jj : Int) + 2 - 2) = (jj : Int) := by omega
        have k4 : ((jj : Int) + 1).toNat = jj + 1 := by omega
        have k5 : ((jj : Int) + 2).toNat = jj + 2 := by omega
        go_wp2_with fail
        go_quiet (fail)
        go_wp2_with fail
        go_quiet (fail)
        go_wp2_with fail
        have HDE2 : Hid (D = d1 * 4294967296 + d0) := Lib.hid (by have := HDE.out; rw [← HD1.out, ← HD0.out] at this; exact this)
        have HLT : Hid (Z * 4294967296 + x < (d1 * 4294967296 + d0) * 4294967296) := Lib.hid (by have := HDE2.out; omega)
        clear hOR
        go_loopw [13, 14] (fun qv rv wz => ∃ q r : Nat, qv = .int .u64 q ∧ rv = .int .u64 r ∧ Hid (Guess d1 d0 Z x q r) ∧ Ext wr wz) (fun qv _ _ => (intOf qv).toNat)
        case atStart => exact ⟨Z / d1, Z % d1, by rw [HZ2.out]; simp, by rw [HZ2.out]; simp, Lib.hid (Guess.start hd09 hx9 hd1n hd19 HLT.out), (by repeat (first | exact Ext.refl _ | assumption | refine Ext.alloc ?_ _ | refine Ext.drewN ?_ _ | refine Ext.drew ?_))⟩
        case round =>
          rename World => wz
          obtain ⟨q, r, rfl, rfl, HG, hxz⟩ := hrel
          have hql := HG.out.le
          have hrl := HG.out.top
          replace a1 := (hxz.cell (p := ⟨Q1, jj, none⟩) hQ1r).trans a1
          replace b1 := (hxz.cell (p := ⟨Q1, jj + 1, none⟩) hQ1r).trans b1
          replace f1 := (hxz.cell (p := ⟨Q1, jj + 2, none⟩) hQ1r).trans f1
          replace g1 := (hxz.cell (p := ⟨Q2, 0, none⟩) hQ2r).trans g1
          replace h1 := (hxz.cell (p := ⟨Q2, 1, none⟩) hQ2r).trans h1
          replace o1 := (hxz.cell (p := ⟨Q3, jj, none⟩) hQ3r).trans o1
          replace o2 := (hxz.frozen (p := ⟨Q3, jj, none⟩) hQ3r).trans o2
          by_cases hr : r < 4294967296
          · by_cases hq : 4294967296 ≤ q
            · have hgs := HG.out.step hd19 HLT.out (by omega) hr (.inl hq)
              have HG2 := Lib.hid hgs.2
              have hqs : ((q - 1 : Nat) : Int) = (q : Int) - 1 := by have := hgs.1; omega
              have hq1 : (4294967296 : Int) ≤ (q : Int) := by omega
              have hr1 : decide ((r : Int) < 4294967296) = true := by simp; omega
              have hr2 : decide ((4294967296 : Int) ≤ (q : Int)) = true := by simp; omega
              clear hgs hq hr
              go_wp2_with fail
              go_quiet (fail)
              go_wp2_with fail
              exact ⟨⟨q - 1, r + d1, by rw [show ((q - 1 : Nat) : Int) = (q : Int) - 1 from hqs], by simp, HG2, (by repeat (first | exact Ext.refl _ | assumption | refine Ext.alloc ?_ _ | refine Ext.drewN ?_ _ | refine Ext.drew ?_))⟩, by simp only [intOf]; omega⟩
            · obtain ⟨qd, hqd⟩ : ∃ qd, qd = q * d0 := ⟨_, rfl⟩
              have hqd9 : qd ≤ 4294967295 * 4294967295 := by rw [hqd]; exact Nat.mul_le_mul (by omega) (by omega)
              have hwq : IntKind.u64.wrap ((q : Int) * (d0 : Int)) = (qd : Int) := by rw [mulN, IntKind.wrap_u64, ← hqd]; omega
              have HQD := Lib.hid hqd
              clear hqd
              have hq1 : (q : Int) < 4294967296 := by omega
              have hr1 : decide ((r : Int) < 4294967296) = true := by simp; omega
              have hr2 : decide ((4294967296 : Int) ≤ (q : Int)) = false := by simp; omega
              obtain ⟨rx, hrx⟩ : ∃ rx, rx = r * 4294967296 + x := ⟨_, rfl⟩
              have hor : bits .or .u64 (IntKind.u64.wrap ((r : Int) * 4294967296)) (x : Int) = (rx : Int) := by
                rw [show IntKind.u64.wrap ((r : Int) * 4294967296) = (r : Int) * 4294967296 by rw [IntKind.wrap_u64]; omega, or_halves r x hr hx9, ← hrx]
              have HRX := Lib.hid hrx
              clear hrx
              by_cases hc : rx < qd
              · have hc1 : (rx : Int) < (qd : Int) := by omega
                have hgs := HG.out.step hd19 HLT.out (by omega) hr (.inr (by rw [← HQD.out, ← HRX.out]; exact hc))
                have HG2 := Lib.hid hgs.2
                have hqs : ((q - 1 : Nat) : Int) = (q : Int) - 1 := by have := hgs.1; omega
                have hq2 : (1 : Int) ≤ (q : Int) := by have := hgs.1; omega
                clear hgs hq hr hc
                go_wp2_with fail
                go_quiet (fail)
                go_wp2_with fail
                exact ⟨⟨q - 1, r + d1, by rw [show ((q - 1 : Nat) : Int) = (q : Int) - 1 from hqs], by simp, HG2, (by repeat (first | exact Ext.refl _ | assumption | refine Ext.alloc ?_ _ | refine Ext.drewN ?_ _ | refine Ext.drew ?_))⟩, by simp only [intOf]; omega⟩
              · have HDN : Hid (q = (Z * 4294967296 + x) / (d1 * 4294967296 + d0)) := Lib.hid (HG.out.done hd09 (by omega) (by rw [← HQD.out, ← HRX.out]; omega))
                have hc1 : ¬ (rx : Int) < (qd : Int) := by omega
                clear hq hr hc
                go_wp2_with fail
                go_quiet (fail)
                clear hqd9 hwq hr1 hr2 hq1
                go_wp2_with fail
                have hq9 : q < 4294967296 := by
                  have h1 := HST.out.2.2
                  rw [HDN.out, ← HDE2.out, Nat.mul_comm Z]
                  exact h1
                obtain ⟨R, hRe⟩ : ∃ R, R = Z * 4294967296 + x := ⟨_, rfl⟩
                have hRD : R < D * 4294967296 := by rw [hRe, HDE2.out]; exact HLT.out
                have hqR : q = R / D := by rw [HDN.out, ← HDE2.out, ← hRe]
                obtain ⟨w5, hw5⟩ : ∃ w5, w5 = wz.drewN nq := ⟨_, rfl⟩
                have hx5 : Ext wr w5 := by rw [hw5]; exact hxz.drewN nq
                rw [← hw5]
                replace o1 : w5.cell? ⟨Q3, jj, none⟩ = some (.int .u32 0) := by rw [hw5]; simpa using o1
                replace o2 : w5.frozen? ⟨Q3, jj, none⟩ = false := by rw [hw5]; simpa using o2
                have hRl : R < 4294967296 ^ 3 := by
                  have h1 := HDP.out
                  have h2 : D * 4294967296 ≤ 4294967296 ^ 2 * 4294967296 := Nat.mul_le_mul_right _ (by omega)
                  omega
                have htk := wtake_calls w5 Q1 (A + 1) jj 3 (A + 1 - jj) Q2 2 3 (fun i => if i < jj + 1 then (W.dig M i : Int) else (W.dig (M / 4294967296 ^ (jj + 1) % D) (i - (jj + 1)) : Int)) R D q
                  (Lib.hid (HR1.out.ext hQ1r hx5)) (Nat.lt_of_lt_of_le hQ1r hx5.size) (by omega) (by omega) (fun i hi => by
                    rw [← HZE.out, hRe]
                    have hp := dig_push Z x hx9
                    match i, hi with
                    | 0, _ => rw [if_pos (by omega), Nat.add_zero, ← HX.out, hp.1]
                    | 1, _ => rw [if_neg (by omega), hp.2 0, Nat.sub_self]
                    | 2, _ => rw [if_neg (by omega), hp.2 1, show jj + 2 - (jj + 1) = 1 by omega]
                    | i + 3, hi => exact absurd hi (by omega)) hRl (fun k hk => (HR2.out.ext hQ2r hx5 k (by omega)).1) (Nat.lt_of_lt_of_le hQ2r hx5.size) hne.symm HDP.out (by rw [hqR]; exact Nat.mul_div_le _ _) hq9
                have hZ' : R - D * q = M / 4294967296 ^ jj % D := by
                  rw [HST.out.1, hqR, Nat.mul_comm 4294967296 Z, ← hRe]
                  have := Nat.div_add_mod R D
                  omega
                have hqd' : q = W.dig (m / n) jj := by
                  have h1 := HST.out.2.1
                  rw [HQ.out] at h1
                  rw [h1, hqR, Nat.mul_comm 4294967296 Z, ← hRe]
                have HZ' := Lib.hid hZ'
                have HQD' := Lib.hid hqd'
                have hs5 := hx5.size
                clear hZ' hqd' hRl hRD hqR hRe hw5 HDN a1 b1 f1 g1 h1 a2 b2 f2 g2 h2
                rw [show jj + 2 + 1 - jj = 3 by omega]
                refine htk.mono ?_
                rintro e w6 ⟨rfl, hg6, HC6⟩
                have hs6 := hg6.size
                replace o1 := (grownBy_cell hg6 (p := ⟨Q3, jj, none⟩) (Nat.lt_of_lt_of_le hQ3r hs5) (by simp only [ne_eq, Option.some.injEq]; exact hne13.symm)).trans o1
                replace o2 := (grownBy_frozen hg6 (p := ⟨Q3, jj, none⟩) (Nat.lt_of_lt_of_le hQ3r hs5) (by simp only [ne_eq, Option.some.injEq]; exact hne13.symm)).trans o2
                have hmodq : (q : Int) % 4294967296 = (q : Int) := by omega
                have hg7 := grownBy_setCell w6 ⟨Q3, jj, none⟩ (.int .u32 (q : Int))
                have hx7 : Ext w (w6.setCell ⟨Q3, jj, none⟩ (.int .u32 (q : Int))) := ((hxr.trans hx5).onto hg6 (fun q hq => by simp only [Option.some.injEq] at hq; omega)).setOwn _ _ hQ3w
                have hs7 := hg7.size
                have HR2' : Hid (CellsU (w6.setCell ⟨Q3, jj, none⟩ (.int .u32 (q : Int))) Q2 3 (fun i => (W.dig D i : Int))) := Lib.hid (((HR2.out.ext hQ2r hx5).grown (Nat.lt_of_lt_of_le hQ2r hs5) hg6 (by simp only [ne_eq, Option.some.injEq]; exact hne.symm)).grown (by omega) hg7 (by simp only [ne_eq, Option.some.injEq]; exact hne23))
                have HR1' : Hid (CellsU (w6.setCell ⟨Q3, jj, none⟩ (.int .u32 (q : Int))) Q1 (A + 1) (fun i => if i < jj then (W.dig M i : Int) else (W.dig (M / 4294967296 ^ jj % D) (i - jj) : Int))) := Lib.hid (fun i hi => by
                  have h1 := HC6.out.grown (by omega) hg7 (by simp only [ne_eq, Option.some.injEq]; exact hne13) i hi
                  refine ⟨?_, h1.2⟩
                  rw [h1.1]
                  simp only []
                  congr 2
                  unfold partF
                  rw [HZ'.out]
                  by_cases e1 : i < jj
                  · rw [if_neg (by omega)]
                    dsimp only
                    rw [if_pos (by omega), if_pos e1]
                  · by_cases e2 : i < jj + 3
                    · rw [if_pos (by omega), if_neg e1]
                    · rw [if_neg (by omega)]
                      dsimp only
                      rw [if_neg (by omega), if_neg e1, ← HZE.out]
                      have z1 : W.dig Z (i - (jj + 1)) = 0 := W.dig_out (Nat.le_trans (W.many_le (Nat.lt_trans hZD HDP.out)) (by omega))
                      have z2 : W.dig (M / 4294967296 ^ jj % D) (i - jj) = 0 := W.dig_out (Nat.le_trans (W.many_le (Nat.lt_trans (Nat.mod_lt _ (by omega)) HDP.out)) (by omega))
                      rw [z1, z2])
                have HR3' : Hid (CellsU (w6.setCell ⟨Q3, jj, none⟩ (.int .u32 (q : Int))) Q3 (A - 1) (fun i => if i < jj then 0 else (W.dig (m / n) i : Int))) := Lib.hid (((HR3.out.ext hQ3r hx5).grown (Nat.lt_of_lt_of_le hQ3r hs5) hg6 (by simp only [ne_eq, Option.some.injEq]; exact hne13.symm)).put (by omega) _ (fun i hi => by
                  by_cases e : i = jj
                  · subst e; rw [if_neg (by omega), if_pos rfl, HQD'.out]
                  · rw [if_neg e]
                    by_cases e2 : i < jj
                    · rw [if_pos e2, if_pos (by omega)]
                    · rw [if_neg e2, if_neg (by omega)]))
                clear htk
                go_wp2_with fail
                exact ⟨⟨jj, by omega, rfl, hx7, by omega, HR2', HR1', HR3'⟩, by simp only [intOf]; omega⟩
          · have HDN : Hid (q = (Z * 4294967296 + x) / (d1 * 4294967296 + d0)) := Lib.hid (HG.out.done hd09 (by omega) (by omega))
            have hr1 : decide ((r : Int) < 4294967296) = false := by simp; omega
            clear hr
            go_wp2_with fail
            go_quiet (fail)
            clear hr1
            go_wp2_with fail
            have hq9 : q < 4294967296 := by
              have h1 := HST.out.2.2
              rw [HDN.out, ← HDE2.out, Nat.mul_comm Z]
              exact h1
            obtain ⟨R, hRe⟩ : ∃ R, R = Z * 4294967296 + x := ⟨_, rfl⟩
            have hRD : R < D * 4294967296 := by rw [hRe, HDE2.out]; exact HLT.out
            have hqR : q = R / D := by rw [HDN.out, ← HDE2.out, ← hRe]
            obtain ⟨w5, hw5⟩ : ∃ w5, w5 = wz.drewN nq := ⟨_, rfl⟩
            have hx5 : Ext wr w5 := by rw [hw5]; exact hxz.drewN nq
            rw [← hw5]
            replace o1 : w5.cell? ⟨Q3, jj, none⟩ = some (.int .u32 0) := by rw [hw5]; simpa using o1
            replace o2 : w5.frozen? ⟨Q3, jj, none⟩ = false := by rw [hw5]; simpa using o2
            have hRl : R < 4294967296 ^ 3 := by
              have h1 := HDP.out
              have h2 : D * 4294967296 ≤ 4294967296 ^ 2 * 4294967296 := Nat.mul_le_mul_right _ (by omega)
              omega
            have htk := wtake_calls w5 Q1 (A + 1) jj 3 (A + 1 - jj) Q2 2 3 (fun i => if i < jj + 1 then (W.dig M i : Int) else (W.dig (M / 4294967296 ^ (jj + 1) % D) (i - (jj + 1)) : Int)) R D q
              (Lib.hid (HR1.out.ext hQ1r hx5)) (Nat.lt_of_lt_of_le hQ1r hx5.size) (by omega) (by omega) (fun i hi => by
                rw [← HZE.out, hRe]
                have hp := dig_push Z x hx9
                match i, hi with
                | 0, _ => rw [if_pos (by omega), Nat.add_zero, ← HX.out, hp.1]
                | 1, _ => rw [if_neg (by omega), hp.2 0, Nat.sub_self]
                | 2, _ => rw [if_neg (by omega), hp.2 1, show jj + 2 - (jj + 1) = 1 by omega]
                | i + 3, hi => exact absurd hi (by omega)) hRl (fun k hk => (HR2.out.ext hQ2r hx5 k (by omega)).1) (Nat.lt_of_lt_of_le hQ2r hx5.size) hne.symm HDP.out (by rw [hqR]; exact Nat.mul_div_le _ _) hq9
            have hZ' : R - D * q = M / 4294967296 ^ jj % D := by
              rw [HST.out.1, hqR, Nat.mul_comm 4294967296 Z, ← hRe]
              have := Nat.div_add_mod R D
              omega
            have hqd' : q = W.dig (m / n) jj := by
              have h1 := HST.out.2.1
              rw [HQ.out] at h1
              rw [h1, hqR, Nat.mul_comm 4294967296 Z, ← hRe]
            have HZ' := Lib.hid hZ'
            have HQD' := Lib.hid hqd'
            have hs5 := hx5.size
            clear hZ' hqd' hRl hRD hqR hRe hw5 HDN a1 b1 f1 g1 h1 a2 b2 f2 g2 h2
            rw [show jj + 2 + 1 - jj = 3 by omega]
            refine htk.mono ?_
            rintro e w6 ⟨rfl, hg6, HC6⟩
            have hs6 := hg6.size
            replace o1 := (grownBy_cell hg6 (p := ⟨Q3, jj, none⟩) (Nat.lt_of_lt_of_le hQ3r hs5) (by simp only [ne_eq, Option.some.injEq]; exact hne13.symm)).trans o1
            replace o2 := (grownBy_frozen hg6 (p := ⟨Q3, jj, none⟩) (Nat.lt_of_lt_of_le hQ3r hs5) (by simp only [ne_eq, Option.some.injEq]; exact hne13.symm)).trans o2
            have hmodq : (q : Int) % 4294967296 = (q : Int) := by omega
            have hg7 := grownBy_setCell w6 ⟨Q3, jj, none⟩ (.int .u32 (q : Int))
            have hx7 : Ext w (w6.setCell ⟨Q3, jj, none⟩ (.int .u32 (q : Int))) := ((hxr.trans hx5).onto hg6 (fun q hq => by simp only [Option.some.injEq] at hq; omega)).setOwn _ _ hQ3w
            have hs7 := hg7.size
            have HR2' : Hid (CellsU (w6.setCell ⟨Q3, jj, none⟩ (.int .u32 (q : Int))) Q2 3 (fun i => (W.dig D i : Int))) := Lib.hid (((HR2.out.ext hQ2r hx5).grown (Nat.lt_of_lt_of_le hQ2r hs5) hg6 (by simp only [ne_eq, Option.some.injEq]; exact hne.symm)).grown (by omega) hg7 (by simp only [ne_eq, Option.some.injEq]; exact hne23))
            have HR1' : Hid (CellsU (w6.setCell ⟨Q3, jj, none⟩ (.int .u32 (q : Int))) Q1 (A + 1) (fun i => if i < jj then (W.dig M i : Int) else (W.dig (M / 4294967296 ^ jj % D) (i - jj) : Int))) := Lib.hid (fun i hi => by
              have h1 := HC6.out.grown (by omega) hg7 (by simp only [ne_eq, Option.some.injEq]; exact hne13) i hi
              refine ⟨?_, h1.2⟩
              rw [h1.1]
              simp only []
              congr 2
              unfold partF
              rw [HZ'.out]
              by_cases e1 : i < jj
              · rw [if_neg (by omega)]
                dsimp only
                rw [if_pos (by omega), if_pos e1]
              · by_cases e2 : i < jj + 3
                · rw [if_pos (by omega), if_neg e1]
                · rw [if_neg (by omega)]
                  dsimp only
                  rw [if_neg (by omega), if_neg e1, ← HZE.out]
                  have z1 : W.dig Z (i - (jj + 1)) = 0 := W.dig_out (Nat.le_trans (W.many_le (Nat.lt_trans hZD HDP.out)) (by omega))
                  have z2 : W.dig (M / 4294967296 ^ jj % D) (i - jj) = 0 := W.dig_out (Nat.le_trans (W.many_le (Nat.lt_trans (Nat.mod_lt _ (by omega)) HDP.out)) (by omega))
                  rw [z1, z2])
            have HR3' : Hid (CellsU (w6.setCell ⟨Q3, jj, none⟩ (.int .u32 (q : Int))) Q3 (A - 1) (fun i => if i < jj then 0 else (W.dig (m / n) i : Int))) := Lib.hid (((HR3.out.ext hQ3r hx5).grown (Nat.lt_of_lt_of_le hQ3r hs5) hg6 (by simp only [ne_eq, Option.some.injEq]; exact hne13.symm)).put (by omega) _ (fun i hi => by
              by_cases e : i = jj
              · subst e; rw [if_neg (by omega), if_pos rfl, HQD'.out]
              · rw [if_neg e]
                by_cases e2 : i < jj
                · rw [if_pos e2, if_pos (by omega)]
                · rw [if_neg e2, if_neg (by omega)]))
            clear htk
            go_wp2_with fail
            exact ⟨⟨jj, by omega, rfl, hx7, by omega, HR2', HR1', HR3'⟩, by simp only [intOf]; omega⟩
end Go.Proofs.YtefmioppamdceaaDoor
