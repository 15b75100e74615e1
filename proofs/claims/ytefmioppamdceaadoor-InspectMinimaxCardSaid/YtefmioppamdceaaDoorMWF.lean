/- Words of big: take, where it is not too much. -/
import Derived.Test.YtefmioppamdceaaDoorMWD
import Derived.Lib.Strings
import Derived.Lib.Slices
import Derived.Lib.Small
import Derived.Lib.Walk
import Derived.Lib.BitFns
namespace Go.Proofs.YtefmioppamdceaaDoor
open Go.RowKit Go.Shelf

/-- The cells of a row after the first k of a part are the digits of another number. -/
def partF (f : Nat → Int) (Z j k : Nat) : Nat → Int := fun i => if j ≤ i ∧ i < j + k then (W.dig Z (i - j) : Int) else f i
theorem partF_zero (f : Nat → Int) (Z j i : Nat) : partF f Z j 0 i = f i := by unfold partF; rw [if_neg (by omega)]
theorem partF_at (f : Nat → Int) (Z j k : Nat) : partF f Z j k (j + k) = f (j + k) := by unfold partF; rw [if_neg (by omega)]
theorem partF_succ (f : Nat → Int) (Z j k i : Nat) : partF f Z j (k + 1) i = if i = j + k then (W.dig Z k : Int) else partF f Z j k i := by
  unfold partF
  by_cases e : i = j + k
  · subst e; rw [if_pos (by omega), if_pos rfl, Nat.add_sub_cancel_left]
  · rw [if_neg e]
    by_cases e2 : j ≤ i ∧ i < j + k
    · rw [if_pos (by omega), if_pos e2]
    · rw [if_neg (by omega), if_neg e2]
/-- What take leaves. -/
def TakeRes (w : World) (Q N : Nat) (f : Nat → Int) (Z j L : Nat) (e : Ending) (w' : World) : Prop := e = .returned (.bool false) ∧ w.grownBy w' (some Q) ∧ Hid (CellsU w' Q N (partF f Z j L))
set_option maxRecDepth 100000 in
set_option maxHeartbeats 2000000 in
theorem wtake_calls (w : World) (Q N j L cp Q2 B cd : Nat) (f : Nat → Int) (R D q : Nat) (hC : Hid (CellsU w Q N f)) (hQ : Q < w.heap.size) (hjN : j + L ≤ N) (hN : N ≤ 100000) (hf : ∀ i, i < L → f (j + i) = (W.dig R i : Int)) (hR : R < 4294967296 ^ L)
    (hD : ∀ k, k < B → w.cell? ⟨Q2, k, none⟩ = some (.int .u32 (W.dig D k))) (hQ2 : Q2 < w.heap.size) (hne : Q2 ≠ Q) (hB : D < 4294967296 ^ B) (hle : D * q ≤ R) (hq : q < 4294967296) :
    Calls Tryd.prog 127 #[.slice (some ⟨Q, j, none⟩) L cp, .slice (some ⟨Q2, 0, none⟩) B cd, .int .u64 q] w (TakeRes w Q N f (R - D * q) j L) := by
  have HF := Lib.hid hf
  have HD := Lib.hid hD
  have HLE := Lib.hid hle
  have HRL := Lib.hid hR
  have HBL := Lib.hid hB
  clear hf hD hle hR hB
  obtain ⟨Z, hZ⟩ : ∃ Z, Z = R - D * q := ⟨_, rfl⟩
  have HZ := Lib.hid hZ
  rw [← hZ]
  clear hZ
  go_enter Tryd.func127, Tryd.ntmps127
  go_wp2_with fail
  go_loopw [7, 8, 13] (fun bv cv iv wr => ∃ k g cr : Nat, k ≤ L ∧ iv = .int .i64 k ∧ bv = .int .u64 g ∧ cv = .int .u64 cr ∧ g ≤ 1 ∧ cr < 4294967296 ∧ Hid (g = if R % 4294967296 ^ k < D * q % 4294967296 ^ k then 1 else 0) ∧ Hid (cr = upPart D q k) ∧ w.grownBy wr (some Q) ∧ Hid (CellsU wr Q N (partF f Z j k))) (fun _ _ iv _ => L - (intOf iv).toNat)
  case atStart => exact ⟨0, 0, 0, by omega, rfl, rfl, rfl, by omega, by omega, Lib.hid (by simp [Nat.mod_one]), Lib.hid (upPart_zero _ _).symm, (Ext.refl _).grown _, Lib.hid (fun i hi => by rw [partF_zero]; exact hC.out i hi)⟩
  case round =>
    obtain ⟨k, g, cr, hk, rfl, rfl, rfl, hg1, hcr, HG, HCR, hgr, HU⟩ := hrel
    have hQr : Q < wr.heap.size := Nat.lt_of_lt_of_le hQ hgr.size
    have hQ2r : Q2 < wr.heap.size := Nat.lt_of_lt_of_le hQ2 hgr.size
    by_cases hkL : k < L
    · obtain ⟨x, hxx⟩ : ∃ x, x = W.dig R k := ⟨_, rfl⟩
      obtain ⟨y, hyy⟩ : ∃ y, y = W.dig D k := ⟨_, rfl⟩
      have hx9 : x < 4294967296 := by rw [hxx]; exact W.dig_lt _ _
      have hy9 : y < 4294967296 := by rw [hyy]; exact W.dig_lt _ _
      have hy0 : B ≤ k → y = 0 := fun h => by rw [hyy]; exact W.dig_out (Nat.le_trans (W.many_le HBL.out) h)
      obtain ⟨u1, u2⟩ := HU.out (j + k) (by omega)
      rw [partF_at, HF.out k hkL, ← hxx] at u1
      have st := shift_step D q k
      rw [← hyy, ← HCR.out] at st
      have sb := W.sub_step R (D * q) k HLE.out
      obtain ⟨sm0, hsm⟩ : ∃ sm0, sm0 = y * q + cr := ⟨_, rfl⟩
      rw [← hsm] at st
      have hyq : y * q ≤ 4294967295 * 4294967295 := Nat.mul_le_mul (by omega) (by omega)
      obtain ⟨lo, hlo⟩ : ∃ lo, lo = sm0 % 4294967296 := ⟨_, rfl⟩
      have hlo9 : lo < 4294967296 := by omega
      rw [st.1, ← hlo, ← hxx] at sb
      have hgc : ((if R % 4294967296 ^ k < D * q % 4294967296 ^ k then 1 else 0 : Int)) = (g : Int) := by rw [HG.out]; split <;> rfl
      rw [hgc] at sb
      obtain ⟨g2, hg2, HG2, HE⟩ : ∃ g2 : Nat, (g2 = 0 ∧ 0 ≤ (x : Int) - g - lo ∨ g2 = 1 ∧ (x : Int) - g - lo < 0) ∧ Hid (g2 = if R % 4294967296 ^ (k + 1) < D * q % 4294967296 ^ (k + 1) then 1 else 0) ∧ Hid ((W.dig Z k : Int) = ((x : Int) - g - lo) % 4294967296) := by
        rw [HZ.out]
        by_cases hneg : (x : Int) - g - lo < 0
        · have h1 := sb.2.2 hneg
          have h2 := sb.1
          rw [if_pos h1] at h2
          exact ⟨1, .inr ⟨rfl, hneg⟩, Lib.hid (by rw [if_pos h1]), Lib.hid (by omega)⟩
        · have h1 : ¬ R % 4294967296 ^ (k + 1) < D * q % 4294967296 ^ (k + 1) := fun h => hneg (sb.2.1 h)
          have h2 := sb.1
          rw [if_neg h1] at h2
          exact ⟨0, .inl ⟨rfl, by omega⟩, Lib.hid (by rw [if_neg h1]), Lib.hid (by omega)⟩
      have HCR2 : Hid (sm0 / 4294967296 = upPart D q (k + 1)) := Lib.hid st.2.symm
      have hcr2 : sm0 / 4294967296 < 4294967296 := by omega
      have HU2 : Hid (CellsU (wr.setCell ⟨Q, j + k, none⟩ (.int .u32 ((W.dig Z k : Nat) : Int))) Q N (partF f Z j (k + 1))) := Lib.hid (HU.out.put (by omega) _ (fun i hi => partF_succ f Z j k i))
      have hgr2 := grownBy_trans hgr (grownBy_setCell wr ⟨Q, j + k, none⟩ (.int .u32 ((W.dig Z k : Nat) : Int)))
      have E1 : Hid (IntKind.u64.wrap (IntKind.u64.wrap ((x : Int) - (sm0 : Int) % 4294967296) - g) % 4294967296 = ((W.dig Z k : Nat) : Int)) := Lib.hid (by rw [HE.out, IntKind.wrap_u64, IntKind.wrap_u64]; omega)
      have E2 : Hid (IntKind.u64.wrap (IntKind.u64.wrap ((x : Int) - (sm0 : Int) % 4294967296) - g) / 9223372036854775808 = (g2 : Int)) := Lib.hid (by rw [IntKind.wrap_u64, IntKind.wrap_u64]; omega)
      have hm : bits .and .u64 (sm0 : Int) 4294967295 = (sm0 : Int) % 4294967296 := by rw [mask32 sm0 (by omega)]; simp
      have HY := Lib.hid hyy
      clear st sb hgc hxx hyy
      have k0 : (0 : Int) ≤ (k : Int) := by omega
      have k1 : (k : Int) < (L : Int) := by omega
      by_cases hkB : k < B
      · have hc2 := (grownBy_cell hgr (p := ⟨Q2, k, none⟩) hQ2 (by simp only [ne_eq, Option.some.injEq]; exact hne)).trans (HD.out k hkB)
        rw [← HY.out] at hc2
        have hw0 : IntKind.u64.wrap ((q : Int) * (y : Int)) = (q : Int) * (y : Int) := by
          rw [mulN, IntKind.wrap_u64, Nat.mul_comm]; omega
        have hw1 : IntKind.u64.wrap ((cr : Int) + (q : Int) * (y : Int)) = (sm0 : Int) := by
          rw [mulN, addN, IntKind.wrap_u64, hsm, Nat.mul_comm, Nat.add_comm]; omega
        have HSM := Lib.hid hsm
        clear hsm hlo
        go_wp2_with fail
        rw [E1.out, E2.out]
        exact ⟨⟨k + 1, g2, sm0 / 4294967296, by omega, by simp, rfl, by simp, by omega, hcr2, HG2, HCR2, hgr2, HU2⟩, by simp only [intOf]; omega⟩
      · have hy00 : y = 0 := hy0 (by omega)
        subst hy00
        rw [Nat.zero_mul, Nat.zero_add] at hsm
        subst hsm
        clear hlo
        go_wp2_with fail
        rw [E1.out, E2.out]
        exact ⟨⟨k + 1, g2, sm0 / 4294967296, by omega, by simp, rfl, by simp, by omega, hcr2, HG2, HCR2, hgr2, HU2⟩, by simp only [intOf]; omega⟩
    · obtain rfl : L = k := by omega
      have HF2 : Hid (g = 0) := Lib.hid (by
        have h1 := HG.out
        rw [Nat.mod_eq_of_lt HRL.out, Nat.mod_eq_of_lt (Nat.lt_of_le_of_lt HLE.out HRL.out), if_neg (by have := HLE.out; omega)] at h1
        exact h1)
      have hg0 := HF2.out
      subst hg0
      clear HG HF2
      go_wp2_with fail
      go_ret
      exact ⟨rfl, hgr, HU⟩
end Go.Proofs.YtefmioppamdceaaDoor

/- The library's Len32, LeadingZeros32: the walks; how far a word is shifted. -/
namespace Go.Proofs.YtefmioppamdceaaDoor
open Go.RowKit Go.Shelf

set_option maxHeartbeats 4000000 in
set_option maxRecDepth 100000 in
theorem len32_calls (x : Int) (w : World) (h0 : 0 ≤ x) (h1 : x ≤ 4294967295) :
    Calls Tryd.prog 129 #[.int .u32 x] w fun e w' => e = .returned (.int .i64 (Lib.bitLen x.toNat)) ∧ w' = w := by
  go_enter Tryd.func129, Tryd.ntmps129
  by_cases hx1 : 65536 ≤ x
  · by_cases hx2 : 256 ≤ x / 65536
    · have hidx := fun (w : World) => Lib.run_index_len8tab (P := Tryd.prog) (w := w) 9 .u8 (x / 65536 / 256) Tryd.underlying9 (by omega) (by omega)
      have HE : Hid (Lib.len8 (x / 65536 / 256) + 24 = (Lib.bitLen x.toNat : Int)) := Lib.hid (by
        rw [Lib.len8_of (x / 65536 / 256) (by omega) (by omega)]
        have e : (x / 65536 / 256).toNat = x.toNat / 16777216 := by omega
        rw [e]
        first
          | (have s := Lib.bitLen_shift24 x.toNat (by omega) (by omega); omega)
          | (have s := Lib.bitLen_shift16 x.toNat (by omega) (by omega); omega)
          | (have s := Lib.bitLen_shift8 x.toNat (by omega) (by omega); omega)
          | omega)
      have HB : Hid (0 ≤ Lib.len8 (x / 65536 / 256) ∧ Lib.len8 (x / 65536 / 256) ≤ 8) := Lib.hid (by
        rw [Lib.len8_of (x / 65536 / 256) (by omega) (by omega)]
        have := Lib.bitLen_le8' (x / 65536 / 256) (by omega) (by omega)
        omega)
      go_wp2_with fail
      go_ret
      refine ⟨ret_int ?_, rfl⟩
      have := HE.out
      have := HB.out
      simp only [wrap64]
      omega
    · have hidx := fun (w : World) => Lib.run_index_len8tab (P := Tryd.prog) (w := w) 9 .u8 (x / 65536) Tryd.underlying9 (by omega) (by omega)
      have HE : Hid (Lib.len8 (x / 65536) + 16 = (Lib.bitLen x.toNat : Int)) := Lib.hid (by
        rw [Lib.len8_of (x / 65536) (by omega) (by omega)]
        have e : (x / 65536).toNat = x.toNat / 65536 := by omega
        rw [e]
        first
          | (have s := Lib.bitLen_shift24 x.toNat (by omega) (by omega); omega)
          | (have s := Lib.bitLen_shift16 x.toNat (by omega) (by omega); omega)
          | (have s := Lib.bitLen_shift8 x.toNat (by omega) (by omega); omega)
          | omega)
      have HB : Hid (0 ≤ Lib.len8 (x / 65536) ∧ Lib.len8 (x / 65536) ≤ 8) := Lib.hid (by
        rw [Lib.len8_of (x / 65536) (by omega) (by omega)]
        have := Lib.bitLen_le8' (x / 65536) (by omega) (by omega)
        omega)
      go_wp2_with fail
      go_ret
      refine ⟨ret_int ?_, rfl⟩
      have := HE.out
      have := HB.out
      simp only [wrap64]
      omega
  · by_cases hx2 : 256 ≤ x
    · have hidx := fun (w : World) => Lib.run_index_len8tab (P := Tryd.prog) (w := w) 9 .u8 (x / 256) Tryd.underlying9 (by omega) (by omega)
      have HE : Hid (Lib.len8 (x / 256) + 8 = (Lib.bitLen x.toNat : Int)) := Lib.hid (by
        rw [Lib.len8_of (x / 256) (by omega) (by omega)]
        have e : (x / 256).toNat = x.toNat / 256 := by omega
        rw [e]
        first
          | (have s := Lib.bitLen_shift24 x.toNat (by omega) (by omega); omega)
          | (have s := Lib.bitLen_shift16 x.toNat (by omega) (by omega); omega)
          | (have s := Lib.bitLen_shift8 x.toNat (by omega) (by omega); omega)
          | omega)
      have HB : Hid (0 ≤ Lib.len8 (x / 256) ∧ Lib.len8 (x / 256) ≤ 8) := Lib.hid (by
        rw [Lib.len8_of (x / 256) (by omega) (by omega)]
        have := Lib.bitLen_le8' (x / 256) (by omega) (by omega)
        omega)
      go_wp2_with fail
      go_ret
      refine ⟨ret_int ?_, rfl⟩
      have := HE.out
      have := HB.out
      simp only [wrap64]
      omega
    · have hidx := fun (w : World) => Lib.run_index_len8tab (P := Tryd.prog) (w := w) 9 .u8 (x) Tryd.underlying9 (by omega) (by omega)
      have HE : Hid (Lib.len8 (x) + 0 = (Lib.bitLen x.toNat : Int)) := Lib.hid (by
        rw [Lib.len8_of (x) (by omega) (by omega)]
        have e : (x).toNat = x.toNat := by omega
        rw [e]
        first
          | (have s := Lib.bitLen_shift24 x.toNat (by omega) (by omega); omega)
          | (have s := Lib.bitLen_shift16 x.toNat (by omega) (by omega); omega)
          | (have s := Lib.bitLen_shift8 x.toNat (by omega) (by omega); omega)
          | omega)
      have HB : Hid (0 ≤ Lib.len8 (x) ∧ Lib.len8 (x) ≤ 8) := Lib.hid (by
        rw [Lib.len8_of (x) (by omega) (by omega)]
        have := Lib.bitLen_le8' (x) (by omega) (by omega)
        omega)
      go_wp2_with fail
      go_ret
      refine ⟨ret_int ?_, rfl⟩
      have := HE.out
      have := HB.out
      simp only [wrap64]
      omega
theorem lz32_calls (x : Int) (w : World) (h0 : 0 ≤ x) (h1 : x ≤ 4294967295) :
    Calls Tryd.prog 125 #[.int .u32 x] w fun e w' => e = .returned (.int .i64 (32 - (Lib.bitLen x.toNat : Int))) ∧ w' = w := by
  have l : Lib.bitLen x.toNat ≤ 32 := Lib.bitLen_le x.toNat 32 (by omega) (by omega)
  have e8 : (32 - (Lib.bitLen x.toNat : Int) + 9223372036854775808) % 18446744073709551616 - 9223372036854775808 = 32 - (Lib.bitLen x.toNat : Int) := by omega
  go_enter Tryd.func125, Tryd.ntmps125
  go_wp2_with (go_at_call 129; refine (len32_calls x _ h0 h1).mono ?_; rintro e w' ⟨rfl, rfl⟩)
  go_ret
  refine ⟨?_, rfl⟩
  rw [← e8]
  rfl
end Go.Proofs.YtefmioppamdceaaDoor

/- Words of big: division by two words, digit by digit; the plain part: a guess is put right. -/
namespace Go.Proofs.YtefmioppamdceaaDoor

theorem bitLen_pos {x : Nat} (h : x ≠ 0) (hx : x < 4294967296) : 1 ≤ Lib.bitLen x := by rw [Lib.bitLen_half x h (by omega)]; omega
theorem lt_bitLen {x : Nat} (hx : x < 4294967296) : x < 2 ^ Lib.bitLen x := by
  rcases Nat.lt_or_ge x (2 ^ Lib.bitLen x) with h | h
  · exact h
  · have h1 := Lib.bitLen_shift (Lib.bitLen x) x h (by omega)
    have h2 : x / 2 ^ Lib.bitLen x ≠ 0 := by
      have : 0 < x / 2 ^ Lib.bitLen x := Nat.div_pos h (Nat.pow_pos (by omega))
      omega
    have h3 := bitLen_pos h2 (Nat.lt_of_le_of_lt (Nat.div_le_self _ _) hx)
    omega
theorem bitLen_le_self {x : Nat} (h : x ≠ 0) (hx : x < 4294967296) : 2 ^ (Lib.bitLen x - 1) ≤ x := by
  rcases Nat.lt_or_ge x (2 ^ (Lib.bitLen x - 1)) with h1 | h1
  · have h2 := Lib.bitLen_le x 32 (by omega) hx
    have h3 := Lib.bitLen_le x (Lib.bitLen x - 1) (by omega) h1
    have := bitLen_pos h hx
    omega
  · exact h1
/-- A word that is shifted until its top bit is 1. -/
theorem norm_word {x s : Nat} (h : x ≠ 0) (hx : x < 4294967296) (hs : s = 32 - Lib.bitLen x) : s ≤ 31 ∧ 2147483648 ≤ x * 2 ^ s ∧ x * 2 ^ s < 4294967296 := by
  have h1 := bitLen_pos h hx
  have h2 := Lib.bitLen_le x 32 (by omega) hx
  have h3 := lt_bitLen hx
  have h4 := bitLen_le_self h hx
  refine ⟨by omega, ?_, ?_⟩
  · have : 2 ^ (Lib.bitLen x - 1) * 2 ^ s ≤ x * 2 ^ s := Nat.mul_le_mul_right _ h4
    rw [← Nat.pow_add, show Lib.bitLen x - 1 + s = 31 by omega] at this
    exact this
  · have : x * 2 ^ s < 2 ^ Lib.bitLen x * 2 ^ s := Nat.mul_lt_mul_of_pos_right h3 (Nat.pow_pos (by omega))
    rw [← Nat.pow_add, show Lib.bitLen x + s = 32 by omega] at this
    exact this
theorem mul_split (q a b P : Nat) : q * (a * P + b) = q * a * P + q * b := by rw [Nat.mul_add, Nat.mul_assoc]
theorem guess_lt {q d1 d0 top x0 r P : Nat} (h : q * d1 + r = top) (hc : r * P + x0 < q * d0) : top * P + x0 < q * (d1 * P + d0) := by
  rw [mul_split, ← h, Nat.add_mul]; omega
theorem guess_le {q d1 d0 top x0 r P : Nat} (h : q * d1 + r = top) (hc : q * d0 ≤ r * P + x0) : q * (d1 * P + d0) ≤ top * P + x0 := by
  rw [mul_split, ← h, Nat.add_mul]; omega
/-- What is guessed, and what is left of it. -/
structure Guess (d1 d0 top x0 q r : Nat) : Prop where
  sum : q * d1 + r = top
  ge : (top * 4294967296 + x0) / (d1 * 4294967296 + d0) ≤ q
  le : q ≤ 4294967297
  top : r ≤ 8589934591
theorem Guess.start {d1 d0 top x0 : Nat} (h0 : d0 < 4294967296) (hx : x0 < 4294967296) (h1 : 2147483648 ≤ d1) (h2 : d1 < 4294967296) (hlt : top * 4294967296 + x0 < (d1 * 4294967296 + d0) * 4294967296) : Guess d1 d0 top x0 (top / d1) (top % d1) := by
  have h3 : top < d1 * 4294967296 + d0 := by omega
  refine ⟨by rw [Nat.mul_comm]; exact Nat.div_add_mod _ _, ?_, ?_, ?_⟩
  · have h4 : (top * 4294967296 + x0) / (d1 * 4294967296 + d0) ≤ (top * 4294967296 + x0) / (4294967296 * d1) := Nat.div_le_div_left (by omega) (by omega)
    rw [← Nat.div_div_eq_div_mul, show (top * 4294967296 + x0) / 4294967296 = top by omega] at h4
    exact h4
  · have : top / d1 < 4294967298 := by
      rw [Nat.div_lt_iff_lt_mul (by omega)]; omega
    omega
  · have := Nat.mod_lt top (show 0 < d1 by omega)
    omega
theorem Guess.step {d1 d0 top x0 q r : Nat} (h : Guess d1 d0 top x0 q r) (h2 : d1 < 4294967296) (hlt : top * 4294967296 + x0 < (d1 * 4294967296 + d0) * 4294967296) (hD : 0 < d1) (hr : r < 4294967296) (hc : 4294967296 ≤ q ∨ r * 4294967296 + x0 < q * d0) : 1 ≤ q ∧ Guess d1 d0 top x0 (q - 1) (r + d1) := by
  have hq : (top * 4294967296 + x0) / (d1 * 4294967296 + d0) < q := by
    rw [Nat.div_lt_iff_lt_mul (by omega)]
    rcases hc with hc | hc
    · have : (d1 * 4294967296 + d0) * 4294967296 ≤ q * (d1 * 4294967296 + d0) := by rw [Nat.mul_comm q]; exact Nat.mul_le_mul_left _ hc
      omega
    · have h1 := h.sum
      exact guess_lt h1 hc
  have hs := h.sum
  have hle := h.le
  have hge := h.ge
  generalize hQ : (top * 4294967296 + x0) / (d1 * 4294967296 + d0) = Qt at *
  refine ⟨by omega, ?_, by rw [hQ]; omega, by omega, by omega⟩
  obtain ⟨p, rfl⟩ : ∃ p, q = p + 1 := ⟨q - 1, by omega⟩
  rw [Nat.add_mul] at hs
  rw [Nat.add_sub_cancel]
  omega
theorem Guess.done {d1 d0 top x0 q r : Nat} (h : Guess d1 d0 top x0 q r) (h0 : d0 < 4294967296) (hD : 0 < d1) (hx : ¬ (r < 4294967296 ∧ (4294967296 ≤ q ∨ r * 4294967296 + x0 < q * d0))) : q = (top * 4294967296 + x0) / (d1 * 4294967296 + d0) := by
  refine Nat.le_antisymm ?_ h.ge
  rw [Nat.le_div_iff_mul_le (by omega)]
  have hs := h.sum
  have hl := h.le
  have h1 : q * d0 ≤ r * 4294967296 + x0 := by
    rcases Nat.lt_or_ge r 4294967296 with h2 | h2
    · have : ¬ (4294967296 ≤ q ∨ r * 4294967296 + x0 < q * d0) := fun h => hx ⟨h2, h⟩
      omega
    · have h3 : q * d0 ≤ 4294967297 * 4294967295 := Nat.mul_le_mul hl (by omega)
      omega
  exact guess_le hs h1
end Go.Proofs.YtefmioppamdceaaDoor
