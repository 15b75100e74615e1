/- Words of big: times (of small numbers), of. -/
import Derived.Test.YtefmioppamdceaaDoorMWC
import Derived.Lib.Mul64
namespace Go.Proofs.YtefmioppamdceaaDoor
open Go.RowKit Go.Shelf

theorem mask32 (a : Nat) (ha : a < 18446744073709551616) : bits .and .u64 (a : Int) 4294967295 = ((a % 4294967296 : Nat) : Int) := by
  have h := bits_and_u64_nat a 4294967295 ha (by omega)
  have e : a &&& 4294967295 = a % 4294967296 := Nat.and_two_pow_sub_one_eq_mod a 32
  rw [e] at h
  exact h
theorem div32 (a : Nat) : (a : Int) / 4294967296 = ((a / 4294967296 : Nat) : Int) := by omega
theorem mulN (a b : Nat) : (a : Int) * (b : Int) = ((a * b : Nat) : Int) := (Int.natCast_mul a b).symm
theorem addN (a b : Nat) : (a : Int) + (b : Int) = ((a + b : Nat) : Int) := (Int.natCast_add a b).symm
theorem wrapN (a : Nat) (ha : a < 18446744073709551616) : IntKind.u64.wrap (a : Int) = (a : Int) := by rw [IntKind.wrap_u64]; omega
theorem wrapM (a : Nat) : IntKind.u64.wrap (a : Int) = ((a % 18446744073709551616 : Nat) : Int) := by rw [IntKind.wrap_u64]; omega
set_option maxHeartbeats 1000000 in
theorem mul64_calls (x y : Nat) (hx : x < 18446744073709551616) (hy : y < 18446744073709551616) (w : World) :
    Calls Tryd.prog 113 #[.int .u64 x, .int .u64 y] w fun e w' => e = .returned (.tuple #[.int .u64 ((x * y / 18446744073709551616 : Nat) : Int), .int .u64 ((x * y % 18446744073709551616 : Nat) : Int)]) ∧ Ext w w' := by
  obtain ⟨bd, bt, bw, hhi⟩ := Lib.mul64_hi x y hx hy
  have ba := Lib.half_mul_le (a := x / 4294967296) (b := y / 4294967296) (by omega) (by omega)
  have bb := Lib.half_mul_le (a := x / 4294967296) (b := y % 4294967296) (by omega) (by omega)
  have bc := Lib.half_mul_le (a := x % 4294967296) (b := y / 4294967296) (by omega) (by omega)
  have ba' : x / 4294967296 * (y / 4294967296) < 18446744073709551616 := by omega
  have bb' : x / 4294967296 * (y % 4294967296) < 18446744073709551616 := by omega
  have bc' : x % 4294967296 * (y / 4294967296) < 18446744073709551616 := by omega
  have bh1 : x / 4294967296 * (y / 4294967296) + (x / 4294967296 * (y % 4294967296) + x % 4294967296 * (y % 4294967296) / 4294967296) / 4294967296 < 18446744073709551616 := by omega
  have bh : x / 4294967296 * (y / 4294967296) + (x / 4294967296 * (y % 4294967296) + x % 4294967296 * (y % 4294967296) / 4294967296) / 4294967296 + ((x / 4294967296 * (y % 4294967296) + x % 4294967296 * (y % 4294967296) / 4294967296) % 4294967296 + x % 4294967296 * (y / 4294967296)) / 4294967296 < 18446744073709551616 := by omega
  go_enter Tryd.func113, Tryd.ntmps113
  go_wp2_with fail
  simp only [mask32 x hx, mask32 y hy, div32, mulN, addN, wrapN _ bd, wrapN _ bb', wrapN _ bt, mask32 _ bt, wrapN _ bc', wrapN _ bw, wrapN _ ba', wrapN _ bh1, wrapN _ bh, wrapM (x * y)]
  rw [hhi]
  go_ret2
  exact ⟨rfl, Ext.refl _⟩
theorem four_cells (w : World) (a b c d : Int) (t : TypeId) : WIn (w.alloc (Obj.cells #[.int .u32 a, .int .u32 b, .int .u32 c, .int .u32 d] t)) (some ⟨w.heap.size, 0, none⟩) [a, b, c, d] := by
  intro k hk
  match k, hk with
  | 0, _ => exact ⟨_, rfl, by simp, by simp [go_sem, ith]⟩
  | 1, _ => exact ⟨_, rfl, by simp, by simp [go_sem, ith]⟩
  | 2, _ => exact ⟨_, rfl, by simp, by simp [go_sem, ith]⟩
  | 3, _ => exact ⟨_, rfl, by simp, by simp [go_sem, ith]⟩
  | k + 4, hk => exact absurd hk (by simp)
theorem small_lt {n A : Nat} (h : W.many n = A) (hA : A ≤ 2) : n < 18446744073709551616 := by
  have h1 := W.lt_many n
  rw [h] at h1
  have : 4294967296 ^ A ≤ 4294967296 ^ 2 := Nat.pow_le_pow_right (by omega) hA
  omega
set_option maxRecDepth 100000 in
set_option maxHeartbeats 1000000 in
theorem wtimes_calls (w : World) (ao bo : Option Addr) (c d A B : Nat) (m n : Nat) (hI : WNum w ao A c m) (hJ : WNum w bo B d n) (hA : A ≤ 2) (hB : B ≤ 2) :
    Calls Tryd.prog 93 #[.slice ao A c, .slice bo B d] w (WRes w (m * n)) := by
  have hm := small_lt hI.many hA
  have hn := small_lt hJ.many hB
  go_enter Tryd.func93, Tryd.ntmps93
  go_wp2_with fail
  refine (small_calls _ ao A c m hI).mono ?_
  rintro e w2 ⟨rfl, hx2⟩
  rw [show smallRes A m = .tuple #[.int .u64 m, .bool true] by unfold smallRes; rw [if_pos hA, decide_eq_true hA]]
  go_wp2_with fail
  refine (small_calls _ bo B d n (hJ.ext hx2)).mono ?_
  rintro e w3 ⟨rfl, hx3⟩
  rw [show smallRes B n = .tuple #[.int .u64 n, .bool true] by unfold smallRes; rw [if_pos hB, decide_eq_true hB]]
  have hx23 := hx2.trans hx3
  go_wp2_with fail
  refine (mul64_calls m n hm hn _).mono ?_
  rintro e w4 ⟨rfl, hx4⟩
  have hx24 := hx23.trans hx4
  have hhi : m * n / 18446744073709551616 < 18446744073709551616 := by
    have : m * n < 18446744073709551616 * 18446744073709551616 := Nat.mul_lt_mul'' hm hn
    omega
  obtain ⟨p, hp⟩ : ∃ p, p = m * n := ⟨_, rfl⟩
  rw [← hp] at hhi ⊢
  have HP := Lib.hid hp
  clear hp
  go_wp2_with fail
  have hx5 : Ext w4 (w4.alloc (Obj.cells #[.int .u32 ((p : Int) % 4294967296), .int .u32 ((p : Int) % 18446744073709551616 / 4294967296), .int .u32 ((p : Int) / 18446744073709551616 % 4294967296), .int .u32 ((p : Int) / 18446744073709551616 / 4294967296)] 149)) := (Ext.refl _).alloc _
  have hC := four_cells w4 ((p : Int) % 4294967296) ((p : Int) % 18446744073709551616 / 4294967296) ((p : Int) / 18446744073709551616 % 4294967296) ((p : Int) / 18446744073709551616 / 4294967296) 149
  have htc := wtrim_calls _ _ 4 _ hC (by intro x hx; simp at hx; omega) (by simp) (by simp)
  rw [show (W.worth [(p : Int) % 4294967296, (p : Int) % 18446744073709551616 / 4294967296, (p : Int) / 18446744073709551616 % 4294967296, (p : Int) / 18446744073709551616 / 4294967296]).toNat = p by simp [W.worth]; omega] at htc
  refine htc.mono ?_
  rintro e w6 ⟨ro, rA, rc, rfl, hN, hx6⟩
  have hx26 := (hx24.trans hx5).trans hx6
  go_wp2_with fail
  go_ret
  exact ⟨ro, rA, rc, rfl, by rw [← HP.out]; exact hN, hx26⟩
end Go.Proofs.YtefmioppamdceaaDoor

/- Words of big: shift; the digits of a number times a power of two. -/
namespace Go.Proofs.YtefmioppamdceaaDoor
open Go.RowKit Go.Shelf

/-- What the digits below i hand on. -/
def upPart (m t i : Nat) : Nat := m % 4294967296 ^ i * t / 4294967296 ^ i
theorem upPart_zero (m t : Nat) : upPart m t 0 = 0 := by simp [upPart, Nat.mod_one]
theorem upPart_lt (m t i : Nat) (ht : 0 < t) : upPart m t i < t := by
  have hp : 0 < 4294967296 ^ i := Nat.pow_pos (by omega)
  unfold upPart
  rw [Nat.div_lt_iff_lt_mul hp, Nat.mul_comm t]
  exact Nat.mul_lt_mul_of_pos_right (Nat.mod_lt _ hp) ht
theorem shift_step (m t i : Nat) : W.dig (m * t) i = (W.dig m i * t + upPart m t i) % 4294967296 ∧ upPart m t (i + 1) = (W.dig m i * t + upPart m t i) / 4294967296 := by
  have hp : 0 < 4294967296 ^ i := Nat.pow_pos (by omega)
  have e1 : m % 4294967296 ^ (i + 1) * t / 4294967296 ^ i = W.dig m i * t + upPart m t i := by
    unfold upPart
    rw [W.mod_succ, Nat.add_mul, Nat.mul_assoc, Nat.add_mul_div_left _ _ hp, Nat.add_comm]
  constructor
  · rw [← e1, W.dig_of_mod, Nat.mul_mod]
    have : m % 4294967296 ^ (i + 1) * t % 4294967296 ^ (i + 1) / 4294967296 ^ i = W.dig (m % 4294967296 ^ (i + 1) * t) i := (W.dig_of_mod _ _).symm
    rw [← Nat.mul_mod, show m * t % 4294967296 ^ (i + 1) = m % 4294967296 ^ (i + 1) * t % 4294967296 ^ (i + 1) from (Nat.mod_mul_mod _ _ _).symm, this, W.dig]
  · rw [← e1]
    unfold upPart
    rw [Nat.pow_succ, Nat.div_div_eq_div_mul]
/-- The sum of what has no bit in common. -/
theorem or_parts (x y s : Nat) (hx : x % 2 ^ s = 0) (hy : y < 2 ^ s) (h1 : x < 4294967296) (h2 : y < 4294967296) : bits .or .u32 (y : Int) (x : Int) = ((x + y : Nat) : Int) := by
  rw [u32_or_nat _ _ h2 h1]
  congr 1
  obtain ⟨z, hz⟩ : ∃ z, x = z * 2 ^ s := ⟨x / 2 ^ s, by have := Nat.div_add_mod x (2 ^ s); rw [hx, Nat.add_zero] at this; rw [Nat.mul_comm]; exact this.symm⟩
  subst hz
  have := Nat.shiftLeft_add_eq_or_of_lt (b := y) (i := s) hy z
  rw [Nat.shiftLeft_eq] at this
  rw [Nat.or_comm]
  exact this.symm
/-- What shift leaves. -/
def ShiftRes (w : World) (A n : Nat) (e : Ending) (w' : World) : Prop := ∃ Q, e = .returned (.slice (some ⟨Q, 0, none⟩) (A + 1) (A + 1)) ∧ w.heap.size ≤ Q ∧ Q < w'.heap.size ∧ Hid (CellsU w' Q (A + 1) (fun j => (W.dig n j : Int))) ∧ Ext w w'
set_option maxRecDepth 100000 in
set_option maxHeartbeats 1000000 in
theorem wshift_calls (w : World) (ao : Option Addr) (c A : Nat) (m s : Nat) (hI : WNum w ao A c m) (hA : A ≤ 10000) (hs : s ≤ 31) :
    Calls Tryd.prog 126 #[.slice ao A c, .int .i64 s] w (ShiftRes w A (m * 2 ^ s)) := by
  have hmk : ∀ W, (Instr.makeSlice 92 (.int .i64 ((A : Int) + 1)) (.int .i64 ((A : Int) + 1))).run Tryd.prog W = .ok (.slice (some ⟨W.heap.size, 0, none⟩) (A + 1) (A + 1)) (W.alloc (.cells (Array.replicate (A + 1) (.int .u32 0)) 149)) := fun W => by
    have := make_words (A + 1) (by omega) W
    rwa [show ((A + 1 : Nat) : Int) = (A : Int) + 1 by simp] at this
  go_enter Tryd.func126, Tryd.ntmps126
  go_wp2_with fail
  have hx1 : Ext w (w.alloc (Obj.cells (Array.replicate (A + 1) (.int .u32 0)) 149)) := (by repeat (first | exact Ext.refl _ | assumption | refine Ext.alloc ?_ _ | refine Ext.drewN ?_ _ | refine Ext.drew ?_))
  have HC1 := Lib.hid (CellsU.made w (A + 1) 149)
  obtain ⟨w1, hw1⟩ : ∃ w1, w1 = (w.alloc (Obj.cells (Array.replicate (A + 1) (.int .u32 0)) 149)) := ⟨_, rfl⟩
  obtain ⟨Q, hQ⟩ : ∃ Q, Q = w.heap.size := ⟨_, rfl⟩
  have hQ1 : Q < w1.heap.size := by rw [hw1, hQ]; simp
  rw [← hw1, ← hQ] at HC1
  rw [← hw1] at hx1 ⊢
  rw [← hQ]
  have hQw : w.heap.size ≤ Q := by omega
  clear hQ hw1 hmk
  obtain ⟨t, ht⟩ : ∃ t : Nat, t = 2 ^ s := ⟨_, rfl⟩
  have ht0 : 0 < t := by rw [ht]; exact Nat.pow_pos (by omega)
  have ht1 : t ≤ 2147483648 := by rw [ht]; exact Nat.pow_le_pow_right (n := 2) (by omega) hs
  have HT := Lib.hid ht
  clear ht
  go_loopw [15] (fun iv wr => ∃ k : Nat, k ≤ A ∧ iv = .int .i64 k ∧ w1.grownBy wr (some Q) ∧ Hid (CellsU wr Q (A + 1) (fun j => if j < k then (W.dig (m * t) j : Int) else if j = k then (upPart m t k : Int) else 0))) (fun iv _ => A - (intOf iv).toNat)
  case atStart => exact ⟨0, by omega, rfl, (Ext.refl _).grown _, Lib.hid (fun j hj => by
    have := HC1.out j hj
    simp only [] at this ⊢
    rw [if_neg (by omega), upPart_zero]
    split
    · exact this
    · exact this)⟩
  case round =>
    obtain ⟨k, hk, rfl, hg, HU⟩ := hrel
    have hQr : Q < wr.heap.size := Nat.lt_of_lt_of_le hQ1 hg.size
    have hxr : Ext w wr := hx1.onto hg (fun q hq => by simp only [Option.some.injEq] at hq; omega)
    by_cases hkA : k < A
    · obtain ⟨x, hxx⟩ : ∃ x, x = W.dig m k := ⟨_, rfl⟩
      obtain ⟨y, hyy⟩ : ∃ y, y = upPart m t k := ⟨_, rfl⟩
      have hx9 : x < 4294967296 := by rw [hxx]; exact W.dig_lt _ _
      have hy9 : y < t := by rw [hyy]; exact upPart_lt m t k ht0
      have st := shift_step m t k
      rw [← hxx, ← hyy] at st
      obtain ⟨b, rfl, hb, hc⟩ := (hI.ext hxr).at_ k hkA
      rw [← hxx] at hc
      obtain ⟨u1, u2⟩ := HU.out k (by omega)
      obtain ⟨v1, v2⟩ := HU.out (k + 1) (by omega)
      simp only [] at u1 v1
      rw [if_neg (by omega), if_pos trivial, ← hyy] at u1
      rw [if_neg (by omega), if_neg (by omega)] at v1
      have hxt : x * t < 9223372036854775808 := by
        have : x * t ≤ 4294967295 * 2147483648 := Nat.mul_le_mul (by omega) ht1
        omega
      have hw1 : IntKind.u64.wrap ((x : Int) * 2 ^ s) = ((x * t : Nat) : Int) := by
        rw [show (x : Int) * 2 ^ s = ((x * t : Nat) : Int) by rw [HT.out]; simp, IntKind.wrap_u64]; omega
      have k0 : (0 : Int) ≤ (k : Int) := by omega
      have k1 : (k : Int) < (A : Int) + 1 := by omega
      have s0 : (0 : Int) ≤ (s : Int) := by omega
      have s1 : (s : Int) ≤ 64 := by omega
      have hdv : t ∣ 4294967296 := by
        rw [HT.out]; exact Nat.pow_dvd_pow 2 (n := 32) (by omega)
      have hmd : x * t % 4294967296 % t = 0 := by
        rw [Nat.mod_mod_of_dvd _ hdv]; exact Nat.mul_mod_left _ _
      have hmd2 : x * t % 4294967296 + t ≤ 4294967296 := by
        obtain ⟨g, hg2⟩ := hdv
        obtain ⟨f, hf⟩ := Nat.dvd_of_mod_eq_zero hmd
        have h1 : x * t % 4294967296 < 4294967296 := Nat.mod_lt _ (by omega)
        rw [hf] at h1 ⊢
        have h2 : t * f < t * g := by omega
        have h3 : f < g := Nat.lt_of_mul_lt_mul_left h2
        have h4 : t * (f + 1) ≤ t * g := Nat.mul_le_mul_left _ h3
        rw [Nat.mul_add, Nat.mul_one] at h4
        omega
      have hE1 : (x * t + y) % 4294967296 = x * t % 4294967296 + y := by omega
      have hE2 : (x * t + y) / 4294967296 = x * t / 4294967296 := by omega
      have E1 : Hid (bits .or .u32 (y : Int) ((x : Int) * (t : Int) % 4294967296) = ((W.dig (m * t) k : Nat) : Int)) := Lib.hid (by
        rw [show (x : Int) * (t : Int) % 4294967296 = ((x * t % 4294967296 : Nat) : Int) by simp, or_parts _ _ s (by rw [← HT.out]; exact hmd) (by rw [← HT.out]; exact hy9) (Nat.mod_lt _ (by omega)) (by omega), st.1, hE1])
      have E2 : Hid ((x : Int) * (t : Int) / 4294967296 = ((upPart m t (k + 1) : Nat) : Int)) := Lib.hid (by
        rw [show (x : Int) * (t : Int) / 4294967296 = ((x * t / 4294967296 : Nat) : Int) by simp, st.2, hE2])
      have HU2 : Hid (CellsU ((wr.setCell ⟨Q, k, none⟩ (.int .u32 ((W.dig (m * t) k : Nat) : Int))).setCell ⟨Q, k + 1, none⟩ (.int .u32 ((upPart m t (k + 1) : Nat) : Int))) Q (A + 1) (fun j => if j < k + 1 then (W.dig (m * t) j : Int) else if j = k + 1 then (upPart m t (k + 1) : Int) else 0)) := Lib.hid (by
        refine (HU.out.put (g := fun j => if j < k + 1 then (W.dig (m * t) j : Int) else 0) (i := k) (by omega) _ (fun j hj => ?_)).put (by omega) _ (fun j hj => ?_)
        · by_cases e : j = k
          · subst e; rw [if_pos (by omega), if_pos rfl]
          · rw [if_neg e]
            by_cases e2 : j < k
            · rw [if_pos (by omega), if_pos e2]
            · rw [if_neg (by omega), if_neg e2, if_neg e]
        · by_cases e : j = k + 1
          · subst e; rw [if_neg (by omega), if_pos rfl, if_pos rfl]
          · rw [if_neg e, if_neg e])
      have hg2 := grownBy_trans (grownBy_trans hg (grownBy_setCell wr ⟨Q, k, none⟩ (.int .u32 ((W.dig (m * t) k : Nat) : Int)))) (grownBy_setCell _ ⟨Q, k + 1, none⟩ (.int .u32 ((upPart m t (k + 1) : Nat) : Int)))
      clear st hE1 hE2 hmd hmd2 hdv hxx hyy
      go_wp2_with fail
      rw [E1.out, E2.out]
      exact ⟨⟨k + 1, by omega, by simp, hg2, HU2⟩, by simp only [intOf]; omega⟩
    · obtain rfl : A = k := by omega
      have hlt : m < 4294967296 ^ A := by rw [← hI.many]; exact W.lt_many m
      have HF : Hid (CellsU wr Q (A + 1) (fun j => (W.dig (m * 2 ^ s) j : Int))) := Lib.hid (fun j hj => by
        have h1 := HU.out j hj
        simp only [] at h1
        rw [← HT.out]
        by_cases e : j < A
        · rw [if_pos e] at h1; exact h1
        · obtain rfl : j = A := by omega
          rw [if_neg e, if_pos rfl] at h1
          have h2 := shift_step m t j
          have h3 : W.dig (m * t) j = upPart m t j := by
            have h4 : W.dig m j = 0 := W.dig_out (by rw [hI.many]; omega)
            have h5 := upPart_lt m t j ht0
            rw [h2.1, h4]; omega
          simp only []
          rw [h3]; exact h1)
      clear HU
      go_wp2_with fail
      go_ret
      exact ⟨Q, rfl, hQw, hQr, HF, hxr⟩
end Go.Proofs.YtefmioppamdceaaDoor
