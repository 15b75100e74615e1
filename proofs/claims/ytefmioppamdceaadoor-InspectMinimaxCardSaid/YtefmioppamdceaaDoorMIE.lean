/- Inspect: IndexFunc of entries; run. -/
import Derived.Test.YtefmioppamdceaaDoorMIL
import Derived.Test.YtefmioppamdceaaDoorMIPC
import Derived.Test.YtefmioppamdceaaDoorMWQ
namespace Go.Proofs.YtefmioppamdceaaDoor
open Go.RowKit Go.Shelf

/-- A place, or -1. -/
def fnV : Option Nat → Int
  | none => -1
  | some k => k
theorem firstNeg_hit {f : Nat → Int} {k m : Nat} (h : firstNeg f k = none) (hk : k < m) (hf : f k < 0) : firstNeg f m = some k := by
  have h1 := firstNeg_spec f k
  rw [h] at h1
  have h2 := firstNeg_spec f m
  cases hm : firstNeg f m with
  | none => rw [hm] at h2; have := h2 k hk; omega
  | some j =>
    rw [hm] at h2
    obtain ⟨-, a2, a3⟩ := h2
    rcases Nat.lt_trichotomy j k with h3 | h3 | h3
    · have := h1 j h3; omega
    · rw [h3]
    · have := a3 k h3; omega
theorem firstNeg_more {f : Nat → Int} {k : Nat} (h : firstNeg f k = none) (hf : 0 ≤ f k) : firstNeg f (k + 1) = none := by
  rw [firstNeg, h]
  simp only []
  rw [if_neg (by omega)]
theorem sign_neg (z : Int) : decide (z.sign < 0) = decide (z < 0) := by
  rcases Int.lt_trichotomy z 0 with h | h | h
  · rw [Int.sign_eq_neg_one_of_neg h]; simp [h]
  · rw [h]; decide
  · rw [Int.sign_eq_one_of_pos h]; simp; omega
set_option maxRecDepth 100000 in
theorem gneg_calls (w : World) (a : Nat) (z : Int) (h : BigAt w a z) :
    Calls Tryd.prog 85 #[.pointer (some ⟨a, 0, none⟩)] w fun e w' => e = .returned (.bool (decide (z < 0))) ∧ Ext w w' := by
  have hlt := h.spot.lt
  have HS := Lib.hid (sign_neg z)
  have hc := isign_calls w a z h
  obtain ⟨c0, hc0, hc1⟩ : ∃ c, c = z.sign ∧ (-1 ≤ c ∧ c ≤ 1) := ⟨_, rfl, by
    rcases Int.lt_trichotomy z 0 with h | h | h
    · rw [Int.sign_eq_neg_one_of_neg h]; omega
    · rw [h]; decide
    · rw [Int.sign_eq_one_of_pos h]; omega⟩
  rw [← hc0] at hc HS
  clear hc0
  go_enter Tryd.func85, Tryd.ntmps85
  go_wp2_with fail
  refine hc.mono ?_
  rintro e w2 ⟨rfl, hx2⟩
  by_cases hn : c0 < 0
  · have hd : decide (c0 < 0) = true := by simp [hn]
    rw [hd] at HS
    go_wp2_with fail
    go_ret
    exact ⟨ret_bool HS.out, hx2⟩
  · have hd : decide (c0 < 0) = false := by simp; omega
    rw [hd] at HS
    go_wp2_with fail
    go_ret
    exact ⟨ret_bool HS.out, hx2⟩
theorem enters_gneg : ∀ args w, (callFunc 85 args).run Tryd.prog w = .ok (.enter 85 args) w := enters_of Tryd.func85 (by kernel_rfl) rfl
set_option maxRecDepth 100000 in
set_option maxHeartbeats 1000000 in
theorem indexE_calls (w : World) (b m cap : Nat) (f : Nat → Int) (hR : RowB w b m f) (hm : m ≤ 100000) (hcap : m ≤ cap) :
    Calls Tryd.prog 84 #[.slice (some ⟨b, 0, none⟩) m cap, .func (.func 85) #[] #[]] w fun e w' => e = .returned (.int .i64 (fnV (firstNeg f m))) ∧ Ext w w' := by
  have hent := enters_gneg
  go_enter Tryd.func84, Tryd.ntmps84
  go_wp2_with fail
  go_loopw [8] (fun i wr => ∃ k : Nat, k ≤ m ∧ i = .int .i64 k ∧ Ext w wr ∧ Hid (firstNeg f k = none)) (fun i _ => m - (intOf i).toNat)
  case atStart => exact ⟨0, by omega, rfl, Ext.refl _, Lib.hid rfl⟩
  case round =>
    obtain ⟨k, hk, rfl, hx, HN⟩ := hrel
    by_cases hlt : k < m
    · obtain ⟨a, hca, hBa⟩ := (hR.ext hx).ent k hlt
      have hbl := (hR.ext hx).lt
      have hc := fun W (hxW : Ext wr W) => gneg_calls W a (f k) (hBa.ext hxW)
      by_cases hF : f k < 0
      · have HF := Lib.hid (firstNeg_hit HN.out hlt hF)
        rw [decide_eq_true hF] at hc
        clear hF
        go_wp2_with fail
        refine (hc _ (Ext.refl _)).mono ?_
        rintro e w1 ⟨rfl, hx1⟩
        have hx2 := hx.trans hx1
        clear hc
        go_wp2_with fail
        go_ret
        exact ⟨ret_int (by rw [HF.out]; rfl), hx2⟩
      · have HF := Lib.hid (firstNeg_more HN.out (by omega))
        rw [decide_eq_false hF] at hc
        clear hF
        go_wp2_with fail
        refine (hc _ (Ext.refl _)).mono ?_
        rintro e w1 ⟨rfl, hx1⟩
        have hx2 := hx.trans hx1
        clear hc
        go_wp2_with fail
        exact ⟨⟨k + 1, by omega, rfl, hx2, HF⟩, by simp only [intOf]; omega⟩
    · obtain rfl : k = m := by omega
      go_wp2_with fail
      go_ret
      exact ⟨ret_int (by rw [HN.out]; rfl), hx⟩
theorem Gm.smG {n m : Nat} {A : Nat → Nat → Int} {T : GT} (h : Gm n m A T) (hn : n ≤ 5) (hA : ∀ i l, i < n → l < m → 1 ≤ A i l ∧ A i l ≤ 201) (L : Nat) : SmG n L T := by
  refine ⟨fun k l hk _ => ?_, ?_, ?_⟩
  · have := h.ent_abs hn hA hk l; omega
  · have := h.feas.pos; omega
  · have := h.b_abs hn hA; omega
theorem Gm.exact_ {n m : Nat} {A : Nat → Nat → Int} {T : GT} (h : Gm n m A T) {i j : Nat} (hi : i < n) (k l : Nat) (hk : k ≤ n) (hki : k ≠ i) : (T.R k l * T.R i j - T.R k j * T.R i l).tdiv T.b = pivR T.R T.b i j k l := by
  rw [pivR, if_neg hki]
  refine Int.tdiv_eq_ediv_of_dvd ?_
  by_cases e : k < n
  · exact h.plu.exact_ hi e hki l
  · obtain rfl : k = n := by omega
    rw [h.goal_exact hi l]
    exact Int.dvd_mul_right _ _
end Go.Proofs.YtefmioppamdceaaDoor

/- big.Int: Int64; big.Rat: set, SetFrac, Num, Denom (of numbers of at most two words). -/
namespace Go.Proofs.YtefmioppamdceaaDoor
open Go.RowKit Go.Shelf

set_option maxRecDepth 100000 in
set_option maxHeartbeats 2000000 in
theorem iint64_calls (w : World) (a : Nat) (z : Int) (h : BigAt w a z) (hz : -9223372036854775808 < z ∧ z < 9223372036854775808) :
    Calls Tryd.prog 97 #[.pointer (some ⟨a, 0, none⟩)] w fun e w' => e = .returned (.int .i64 z) ∧ Ext w w' := by
  obtain ⟨⟨-, -, -, -, h4⟩, h0, ao, A, c, h1, hN⟩ := h
  have hA : A ≤ 2 := by rw [← hN.many]; exact many2 (by omega)
  have hAc := hN.cap
  have hmin : min (A : Int) 2 = (A : Int) := by omega
  have hss := fun (s : After w) => small_calls s.at_ ao A c z.natAbs (hN.ext s.ext)
  rw [show smallRes A z.natAbs = .tuple #[.int .u64 z.natAbs, .bool true] by unfold smallRes; rw [if_pos hA, decide_eq_true hA]] at hss
  have a0 := After.cell h0 h4
  have a1 := After.cell h1 h4
  by_cases hn : z < 0
  · rw [decide_eq_true hn] at h0 a0
    have HZ : Hid (-(z.natAbs : Int) = z) := Lib.hid (by omega)
    have hb : 0 ≤ (z.natAbs : Int) ∧ (z.natAbs : Int) < 9223372036854775808 := by omega
    generalize hq : (z.natAbs : Int) = q at *
    clear hq hn hz
    go_enter Tryd.func97, Tryd.ntmps97
    go_wp2_with fail
    refine wp_region_after (by kernel_rfl) (by kernel_rfl) ?_
    intro hne
    repeat (go_big_quiet_step ((go_at_call 112; exact Calls.after (hss _))))
    refine wpQuiet_nil ?_
    intro w3 hx3
    have k0 := (hx3.cell (p := ⟨a, 0, none⟩) h4).trans h0
    go_wp2_with fail
    go_ret
    exact ⟨ret_int HZ.out, hx3⟩
  · rw [decide_eq_false hn] at h0 a0
    have HZ : Hid ((z.natAbs : Int) = z) := Lib.hid (by omega)
    have hb : 0 ≤ (z.natAbs : Int) ∧ (z.natAbs : Int) < 9223372036854775808 := by omega
    generalize hq : (z.natAbs : Int) = q at *
    clear hq hn hz
    go_enter Tryd.func97, Tryd.ntmps97
    go_wp2_with fail
    refine wp_region_after (by kernel_rfl) (by kernel_rfl) ?_
    intro hne
    repeat (go_big_quiet_step ((go_at_call 112; exact Calls.after (hss _))))
    refine wpQuiet_nil ?_
    intro w3 hx3
    have k0 := (hx3.cell (p := ⟨a, 0, none⟩) h4).trans h0
    go_wp2_with fail
    go_ret
    exact ⟨ret_int HZ.out, hx3⟩

/-- A place for a Rat. -/
structure RatSpot (w : World) (a : Nat) : Prop where
  num : IntSpot w a
  den : ∃ v, w.cell? ⟨a, 2, none⟩ = some v
  free : w.frozen? ⟨a, 2, none⟩ = false
theorem RatSpot.ext {w w' : World} {a : Nat} (h : RatSpot w a) (hx : Ext w w') : RatSpot w' a := by
  obtain ⟨hn, ⟨v, h1⟩, h2⟩ := h
  exact ⟨hn.ext hx, ⟨v, (hx.cell (p := ⟨a, 2, none⟩) hn.lt).trans h1⟩, (hx.frozen (p := ⟨a, 2, none⟩) hn.lt).trans h2⟩
theorem RatSpot.new (w : World) : RatSpot (w.alloc (Obj.cells #[.bool false, .slice none 0 0, .slice none 0 0] 131)) w.heap.size :=
  ⟨⟨⟨false, by simp [go_sem]⟩, ⟨_, by simp [go_sem]; rfl⟩, by simp [go_sem], by simp [go_sem], by simp⟩, ⟨_, by simp [go_sem]; rfl⟩, by simp [go_sem]⟩
/-- A fraction behind a pointer. -/
structure RatAt (w : World) (a : Nat) (p : Int) (q : Nat) : Prop where
  num : BigAt w a p
  den : ∃ ao A c, w.cell? ⟨a, 2, none⟩ = some (.slice ao A c) ∧ WNum w ao A c q
theorem RatAt.ext {w w' : World} {a : Nat} {p : Int} {q : Nat} (h : RatAt w a p q) (hx : Ext w w') : RatAt w' a p q := by
  obtain ⟨hn, ao, A, c, h1, h2⟩ := h
  exact ⟨hn.ext hx, ao, A, c, (hx.cell (p := ⟨a, 2, none⟩) hn.spot.lt).trans h1, h2.ext hx⟩
def RatRes (w : World) (a : Nat) (p : Int) (q : Nat) (e : Ending) (w' : World) : Prop := e = .returned (.pointer (some ⟨a, 0, none⟩)) ∧ w.grownBy w' (some a) ∧ RatAt w' a p q
theorem RatRes.before {w w2 w' : World} {a : Nat} {p : Int} {q : Nat} {e : Ending} (hx : Ext w w2) (h : RatRes w2 a p q e w') : RatRes w a p q e w' := ⟨h.1, grownBy_trans (hx.grown (some a)) h.2.1, h.2.2⟩
theorem WNum.one (w : World) (T : TypeId) : WNum (w.alloc (Obj.cells #[.int .u32 1] T)) (some ⟨w.heap.size, 0, none⟩) 1 1 1 := by
  have e : W.many 1 = 1 := by
    have h1 : W.many 1 ≤ 1 := W.many_le (by decide)
    have h2 : W.many 1 ≠ 0 := fun h => by rw [W.many_eq_zero] at h; omega
    omega
  refine ⟨e, Nat.le_refl _, fun k hk => ?_⟩
  rw [W.digs_length, e] at hk
  obtain rfl : k = 0 := by omega
  refine ⟨_, rfl, by simp, ?_⟩
  rw [ith_getD, W.digs_at]
  simp [go_sem, W.dig]
/-- The divisor is stored. -/
theorem BigAt.putDen {w : World} {a : Nat} {p : Int} {ao : Option Addr} {A c q : Nat} (h : BigAt w a p) (hs : ∃ v, w.cell? ⟨a, 2, none⟩ = some v) (hN : WNum w ao A c q) : RatAt (w.setCell ⟨a, 2, none⟩ (.slice ao A c)) a p q := by
  obtain ⟨⟨-, -, h2, h3, h4⟩, s0, bo, B, d, h1, hM⟩ := h
  obtain ⟨v, hv⟩ := hs
  have hg := grownBy_setCell w ⟨a, 2, none⟩ (.slice ao A c)
  have k0 : (w.setCell ⟨a, 2, none⟩ (.slice ao A c)).cell? ⟨a, 0, none⟩ = some (.bool (decide (p < 0))) := by rw [World.cell?_setCell_other _ _ _ _ (by simp)]; exact s0
  have k1 : (w.setCell ⟨a, 2, none⟩ (.slice ao A c)).cell? ⟨a, 1, none⟩ = some (.slice bo B d) := by rw [World.cell?_setCell_other _ _ _ _ (by simp)]; exact h1
  exact ⟨⟨⟨⟨_, k0⟩, ⟨_, k1⟩, by rw [World.frozen?_setCell]; exact h2, by rw [World.frozen?_setCell]; exact h3, by simpa [World.setCell] using h4⟩, k0, bo, B, d, k1, hM.far s0 hg⟩, ao, A, c, World.cell?_setCell_same _ _ _ hv, hN.far s0 hg⟩
set_option maxRecDepth 100000 in
set_option maxHeartbeats 1000000 in
theorem iset_raw (w : World) (a : Nat) (below : Bool) (ao : Option Addr) (A c n : Nat) (hs : IntSpot w a) (hN : WNum w ao A c n) :
    Calls Tryd.prog 92 #[.pointer (some ⟨a, 0, none⟩), .bool below, .slice ao A c] w fun e w' => e = .returned (.pointer (some ⟨a, 0, none⟩)) ∧ w.grownBy w' (some a) ∧ BigAt w' a (if below = true then -(n : Int) else (n : Int)) ∧ ∀ k, 2 ≤ k → w'.cell? ⟨a, k, none⟩ = w.cell? ⟨a, k, none⟩ ∧ w'.frozen? ⟨a, k, none⟩ = w.frozen? ⟨a, k, none⟩ := by
  obtain ⟨⟨b, h0⟩, ⟨v, h1⟩, h2, h3, h4⟩ := id hs
  obtain ⟨z, hz⟩ : ∃ z : Int, z = (if below = true then -(n : Int) else (n : Int)) := ⟨_, rfl⟩
  obtain ⟨s, hsd⟩ : ∃ s : Bool, s = (below && decide (0 < A)) := ⟨_, rfl⟩
  have hn0 : A = 0 ↔ n = 0 := by rw [← hN.many]; exact W.many_eq_zero
  have HP := Lib.hid (BigAt.put hs hN s z (by rw [hz]; split <;> omega) (by
    rw [hsd, hz]
    cases below
    · simp
    · by_cases hA : A = 0
      · have := hn0.1 hA; subst this; subst hA; simp
      · have : n ≠ 0 := fun h => hA (hn0.2 h)
        simp; omega))
  have HK : Hid (∀ k, 2 ≤ k → ((w.setCell ⟨a, 0, none⟩ (.bool s)).setCell ⟨a, 1, none⟩ (.slice ao A c)).cell? ⟨a, k, none⟩ = w.cell? ⟨a, k, none⟩ ∧ ((w.setCell ⟨a, 0, none⟩ (.bool s)).setCell ⟨a, 1, none⟩ (.slice ao A c)).frozen? ⟨a, k, none⟩ = w.frozen? ⟨a, k, none⟩) := Lib.hid (fun k hk => ⟨by
    rw [World.cell?_setCell_other _ _ _ _ (by simp <;> omega), World.cell?_setCell_other _ _ _ _ (by simp <;> omega)], by rw [World.frozen?_setCell, World.frozen?_setCell]⟩)
  rw [← hz]
  have HSD := Lib.hid hsd
  clear hz hsd hn0
  go_enter Tryd.func92, Tryd.ntmps92
  cases below with
  | false =>
    have hs0 : s = false := by rw [HSD.out]; rfl
    subst hs0
    go_wp2_with fail
    go_ret
    exact ⟨rfl, HP.out.1, HP.out.2, HK.out⟩
  | true =>
    by_cases hA : 0 < A
    · have hs0 : s = true := by rw [HSD.out]; simp [hA]
      subst hs0
      have hA2 : decide ((A : Int) > 0) = true := by simp; omega
      go_wp2_with fail
      go_ret
      exact ⟨rfl, HP.out.1, HP.out.2, HK.out⟩
    · have hs0 : s = false := by rw [HSD.out]; simp [hA]
      subst hs0
      have hA2 : decide ((A : Int) > 0) = false := by simp; omega
      go_wp2_with fail
      go_ret
      exact ⟨rfl, HP.out.1, HP.out.2, HK.out⟩
set_option maxRecDepth 100000 in
set_option maxHeartbeats 4000000 in
theorem rset_calls (w : World) (a : Nat) (below : Bool) (no po : Option Addr) (A c B d m n : Nat) (hs : RatSpot w a) (hI : WNum w no A c m) (hJ : WNum w po B d n) (hA : A ≤ 2) (hB : B ≤ 2) (hn : 0 < n) :
    Calls Tryd.prog 115 #[.pointer (some ⟨a, 0, none⟩), .bool below, .slice no A c, .slice po B d] w (RatRes w a (if below = true then -((m / Nat.gcd m n : Nat) : Int) else ((m / Nat.gcd m n : Nat) : Int)) (n / Nat.gcd m n)) := by
  have hg0 : 0 < Nat.gcd m n := Nat.gcd_pos_of_pos_right _ hn
  have hgn : Nat.gcd m n ≤ n := Nat.gcd_le_right _ hn
  have hn2 := small_lt hJ.many hB
  obtain ⟨g, hg⟩ : ∃ g, g = Nat.gcd m n := ⟨_, rfl⟩
  have hkc := wcommon_calls w no po c d A B m n hI hJ hA hB
  rw [← hg] at hkc hg0 hgn ⊢
  clear hg
  obtain ⟨P, hP⟩ : ∃ P : Int, P = (if below = true then -((m / g : Nat) : Int) else ((m / g : Nat) : Int)) := ⟨_, rfl⟩
  obtain ⟨Q, hQ⟩ : ∃ Q : Nat, Q = n / g := ⟨_, rfl⟩
  rw [← hP, ← hQ]
  have HP := Lib.hid hP
  have HQ := Lib.hid hQ
  clear hP hQ
  go_enter Tryd.func115, Tryd.ntmps115
  go_wp2_with fail
  refine hkc.mono ?_
  rintro e w2 ⟨go, G, gc, rfl, hG, hx2⟩
  have hG2 : G ≤ 2 := by rw [← hG.many]; exact many2 (by omega)
  clear hkc
  go_wp2_with fail
  have h1 := WNum.one w2 149
  have hx3 : Ext w2 (w2.alloc (Obj.cells #[.int .u32 1] 149)) := (by repeat (first | exact Ext.refl _ | assumption | refine Ext.alloc ?_ _ | refine Ext.drewN ?_ _ | refine Ext.drew ?_))
  generalize hW3 : (w2.alloc (Obj.cells #[.int .u32 1] 149)) = w3 at *
  clear hW3
  have hx03 := hx2.trans hx3
  refine (wcmp_calls w3 go _ gc 1 G 1 g 1 (hG.ext hx3) h1 (by omega) (by omega)).mono ?_
  rintro e w4 ⟨rfl, hx4⟩
  have hx04 := hx03.trans hx4
  by_cases hg1 : g = 1
  · have hcz : cmpZ (g : Int) ((1 : Nat) : Int) = 0 := by unfold cmpZ; rw [if_neg (by omega), if_neg (by omega)]
    rw [hcz]
    clear hcz
    have hI9 : WNum w4 no A c (m / g) := by rw [hg1, Nat.div_one]; exact hI.ext hx04
    have hJ9 : WNum w4 po B d (n / g) := by rw [hg1, Nat.div_one]; exact hJ.ext hx04
    have hsp := hs.ext hx04
    have hsc := iset_raw w4 a below _ _ _ (m / g) hsp.num hI9
    rw [← HP.out] at hsc
    have hjj := hJ9
    rw [← HQ.out] at hjj
    go_wp2_with fail
    refine hsc.mono ?_
    rintro e w8 ⟨rfl, hg8, hB8, hk8⟩
    clear hsc
    obtain ⟨⟨b0, hb0⟩, -, -, -, hlt⟩ := id hsp.num
    obtain ⟨v2, hv2⟩ := hsp.den
    have hf2 := hsp.free
    have hv8 : w8.cell? ⟨a, 2, none⟩ = some v2 := (hk8 2 (by decide)).1.trans hv2
    have hf8 : w8.frozen? ⟨a, 2, none⟩ = false := (hk8 2 (by decide)).2.trans hf2
    have hj8 := hjj.far hb0 hg8
    have hR := hB8.putDen ⟨_, hv8⟩ hj8
    have hg9 := fun x y z => grownBy_trans (grownBy_trans (hx04.grown (some a)) hg8) (grownBy_setCell w8 ⟨a, 2, none⟩ (.slice x y z))
    have hlt8 : a < w8.heap.size := Nat.lt_of_lt_of_le hlt hg8.size
    go_wp2_with fail
    go_ret
    exact ⟨rfl, hg9 _ _ _, hR⟩
  · have hcz : cmpZ (g : Int) ((1 : Nat) : Int) = 1 := by unfold cmpZ; rw [if_neg (by omega), if_pos (by omega)]
    rw [hcz]
    clear hcz
    have hd1 := wdivide_calls w4 no go c gc A G m g (hI.ext hx04) ((hG.ext hx3).ext hx4) (by omega) hG2 hg0
    go_wp2_with fail
    refine hd1.mono ?_
    rintro e w5 ⟨no2, A2, c2, ro, rA, rc, rfl, hI2, -, hx5⟩
    have hx05 := hx04.trans hx5
    clear hd1
    have hd2 := wdivide_calls w5 po go d gc B G n g (hJ.ext hx05) (((hG.ext hx3).ext hx4).ext hx5) (by omega) hG2 hg0
    go_wp2_with fail
    refine hd2.mono ?_
    rintro e w6 ⟨po2, B2, d2, so, sA, sc, rfl, hJ2, -, hx6⟩
    have hx06 := hx05.trans hx6
    clear hd2
    have hI3 := hI2.ext hx6
    have hsp := hs.ext hx06
    have hsc := iset_raw w6 a below _ _ _ (m / g) hsp.num hI3
    rw [← HP.out] at hsc
    have hjj := hJ2
    rw [← HQ.out] at hjj
    go_wp2_with fail
    refine hsc.mono ?_
    rintro e w8 ⟨rfl, hg8, hB8, hk8⟩
    clear hsc
    obtain ⟨⟨b0, hb0⟩, -, -, -, hlt⟩ := id hsp.num
    obtain ⟨v2, hv2⟩ := hsp.den
    have hf2 := hsp.free
    have hv8 : w8.cell? ⟨a, 2, none⟩ = some v2 := (hk8 2 (by decide)).1.trans hv2
    have hf8 : w8.frozen? ⟨a, 2, none⟩ = false := (hk8 2 (by decide)).2.trans hf2
    have hj8 := hjj.far hb0 hg8
    have hR := hB8.putDen ⟨_, hv8⟩ hj8
    have hg9 := fun x y z => grownBy_trans (grownBy_trans (hx06.grown (some a)) hg8) (grownBy_setCell w8 ⟨a, 2, none⟩ (.slice x y z))
    have hlt8 : a < w8.heap.size := Nat.lt_of_lt_of_le hlt hg8.size
    go_wp2_with fail
    go_ret
    exact ⟨rfl, hg9 _ _ _, hR⟩
theorem exact_div {x : Int} {g : Nat} (h : g ∣ x.natAbs) : (if decide (x < 0) = true then -((x.natAbs / g : Nat) : Int) else ((x.natAbs / g : Nat) : Int)) = x / (g : Int) := by
  obtain ⟨q, hq⟩ := h
  by_cases hn : x < 0
  · rw [decide_eq_true hn, if_pos rfl]
    rcases Nat.eq_zero_or_pos g with h0 | h0
    · subst h0; simp
    · rw [hq, Nat.mul_div_cancel_left _ h0]
      have e : x = (g : Int) * -(q : Int) := by rw [Int.mul_neg, ← Int.natCast_mul, ← hq]; omega
      rw [e, Int.mul_ediv_cancel_left _ (by omega)]
  · rw [decide_eq_false hn, if_neg (by decide)]
    rcases Nat.eq_zero_or_pos g with h0 | h0
    · subst h0; simp
    · rw [hq, Nat.mul_div_cancel_left _ h0]
      have e : x = (g : Int) * (q : Int) := by rw [← Int.natCast_mul, ← hq]; omega
      rw [e, Int.mul_ediv_cancel_left _ (by omega)]
set_option maxRecDepth 100000 in
set_option maxHeartbeats 4000000 in
theorem rfrac_calls (w : World) (a b c : Nat) (x y : Int) (ha : RatSpot w a) (hx : BigAt w b x) (hy : BigAt w c y) (hX : x.natAbs < 18446744073709551616) (hY : y.natAbs < 18446744073709551616) (hy0 : 0 < y) (hab : a ≠ b) (hac : a ≠ c) :
    Calls Tryd.prog 95 #[.pointer (some ⟨a, 0, none⟩), .pointer (some ⟨b, 0, none⟩), .pointer (some ⟨c, 0, none⟩)] w (RatRes w a (x / (Int.gcd x y : Int)) (y / (Int.gcd x y : Int)).toNat) := by
  obtain ⟨⟨-, -, -, -, hbl⟩, x0, xo, xA, xc, x1, hxN⟩ := id hx
  obtain ⟨⟨-, -, -, -, hcl⟩, y0, yo, yA, yc, y1, hyN⟩ := id hy
  have hxA : xA ≤ 2 := by rw [← hxN.many]; exact many2 hX
  have hyA : yA ≤ 2 := by rw [← hyN.many]; exact many2 hY
  have hrc := fun W (hxW : Ext w W) => (rset_calls W a (decide (x < 0)) xo yo xA xc yA yc x.natAbs y.natAbs (ha.ext hxW) (hxN.ext hxW) (hyN.ext hxW) hxA hyA (by omega)).mono (fun e w' h => RatRes.before hxW h)
  have e1 : Nat.gcd x.natAbs y.natAbs = Int.gcd x y := rfl
  have e2 : (y / (Int.gcd x y : Int)).toNat = y.natAbs / Nat.gcd x.natAbs y.natAbs := by
    rw [e1]
    obtain ⟨k, hk⟩ : ∃ k : Nat, y = (k : Int) := ⟨y.natAbs, by omega⟩
    have e9 : ((k : Int) / ((Int.gcd x (k : Int) : Nat) : Int)) = ((k / Int.gcd x (k : Int) : Nat) : Int) := by simp
    rw [hk, e9, Int.toNat_natCast]; rfl
  have e3 := exact_div (x := x) (g := Nat.gcd x.natAbs y.natAbs) (Nat.gcd_dvd_left _ _)
  simp only [e3, ← e2] at hrc
  rw [e1] at hrc
  obtain ⟨P, hP⟩ : ∃ P, P = x / (Int.gcd x y : Int) := ⟨_, rfl⟩
  obtain ⟨Q, hQ⟩ : ∃ Q, Q = (y / (Int.gcd x y : Int)).toNat := ⟨_, rfl⟩
  rw [← hP, ← hQ]
  simp only [← hP, ← hQ] at hrc
  rw [decide_eq_false (show ¬ y < 0 by omega)] at y0
  obtain ⟨s, hs⟩ : ∃ s, s = decide (x < 0) := ⟨_, rfl⟩
  rw [← hs] at x0
  simp only [← hs] at hrc
  have hsn : (!(s == false)) = s := by cases s <;> rfl
  have hrd := hrc
  rw [← hsn] at hrd
  clear hs hP hQ e1 e2 e3
  go_enter Tryd.func95, Tryd.ntmps95
  go_wp2_with fail
  go_region_held3 (fun w' => (w'.cell? ⟨b, 0, none⟩ = some (.bool s)) ∧ (w'.cell? ⟨b, 1, none⟩ = some (.slice xo xA xc)) ∧ (w'.cell? ⟨c, 0, none⟩ = some (.bool false)) ∧ (w'.cell? ⟨c, 1, none⟩ = some (.slice yo yA yc)))
    (first | with_reducible exact hfar | exact i4c hbl x0 x1 hcl y0 y1 (by repeat (with_reducible first | exact Ext.refl _ | assumption | refine Ext.alloc ?_ _ | refine Ext.drew ?_)))
    ((go_at_call 115; (first | (with_reducible refine Calls.mono (hrd _ ?_) ?_) | (with_reducible refine Calls.mono (hrc _ ?_) ?_)); (exact (by repeat (with_reducible first | exact Ext.refl _ | assumption | refine Ext.alloc ?_ _ | refine Ext.drew ?_))); rintro e v2 ⟨rfl, hg, hR⟩; have hfar := i4f hbl x0 x1 hcl y0 y1 hab hac (Ext.refl w) hg))
  all_goals
    go_wp2_with fail
    go_ret
    exact ⟨rfl, hg, hR⟩
set_option maxRecDepth 100000 in
set_option maxHeartbeats 1000000 in
theorem rnum_calls (w : World) (a : Nat) (p : Int) (q : Nat) (h : RatAt w a p q) :
    Calls Tryd.prog 96 #[.pointer (some ⟨a, 0, none⟩)] w (NewRes w p) := by
  go_enter Tryd.func96, Tryd.ntmps96
  go_wp2_with fail
  have hx1 : Ext w (w.alloc (Obj.cells #[.bool false, .slice none 0 0] 94)) := (by repeat (first | exact Ext.refl _ | assumption | refine Ext.alloc ?_ _ | refine Ext.drewN ?_ _ | refine Ext.drew ?_))
  have hs1 := IntSpot.new w
  obtain ⟨N, hN⟩ : ∃ N, N = w.heap.size := ⟨_, rfl⟩
  generalize (w.alloc (Obj.cells #[.bool false, .slice none 0 0] 94)) = w1 at *
  rw [← hN] at hs1 ⊢
  have hNw : w.heap.size ≤ N := by omega
  clear hN
  refine (isetTo_calls w1 N a p hs1 (h.num.ext hx1)).mono ?_
  rintro e w2 ⟨rfl, hg, hB⟩
  have hx2 : Ext w w2 := hx1.onto hg (fun q hq => by simp only [Option.some.injEq] at hq; omega)
  go_wp2_with fail
  go_ret
  exact ⟨N, rfl, hNw, hB, hx2⟩
set_option maxRecDepth 100000 in
set_option maxHeartbeats 1000000 in
theorem rden_calls (w : World) (a : Nat) (p : Int) (q : Nat) (h : RatAt w a p q) (hq : 0 < q) :
    Calls Tryd.prog 98 #[.pointer (some ⟨a, 0, none⟩)] w (NewRes w q) := by
  obtain ⟨⟨⟨-, -, -, -, hlt⟩, -, -⟩, ao, A, c, h2, hN⟩ := id h
  have hA : A ≠ 0 := by rw [← hN.many]; intro e; rw [W.many_eq_zero] at e; omega
  have hb : ∀ W, Ext w W → Calls Tryd.prog 116 #[.pointer (some ⟨a, 0, none⟩)] W fun e w' => e = .returned (.slice ao A c) ∧ Ext W w' := by
    intro W hxW
    have k2 := (hxW.cell (p := ⟨a, 2, none⟩) hlt).trans h2
    have hAz : ((A : Int) == 0) = false := by simp; omega
    go_enter Tryd.func116, Tryd.ntmps116
    go_wp2_with fail
    go_ret
    exact ⟨rfl, (by repeat (first | exact Ext.refl _ | assumption | refine Ext.alloc ?_ _ | refine Ext.drewN ?_ _ | refine Ext.drew ?_))⟩
  go_enter Tryd.func98, Tryd.ntmps98
  go_wp2_with fail
  have hx1 : Ext w (w.alloc (Obj.cells #[.bool false, .slice none 0 0] 94)) := (by repeat (first | exact Ext.refl _ | assumption | refine Ext.alloc ?_ _ | refine Ext.drewN ?_ _ | refine Ext.drew ?_))
  have hs1 := IntSpot.new w
  obtain ⟨N, hNN⟩ : ∃ N, N = w.heap.size := ⟨_, rfl⟩
  generalize (w.alloc (Obj.cells #[.bool false, .slice none 0 0] 94)) = w1 at *
  rw [← hNN] at hs1 ⊢
  have hNw : w.heap.size ≤ N := by omega
  clear hNN
  refine (hb w1 hx1).mono ?_
  rintro e w2 ⟨rfl, hx2⟩
  have hsc := iset_calls w2 N false ao A c q (hs1.ext hx2) ((hN.ext hx1).ext hx2)
  rw [if_neg (by decide)] at hsc
  go_wp2_with fail
  refine hsc.mono ?_
  rintro e w3 ⟨rfl, hg, hB⟩
  have hx3 : Ext w w3 := (hx1.trans hx2).onto hg (fun q hq => by simp only [Option.some.injEq] at hq; omega)
  go_wp2_with fail
  go_ret
  exact ⟨N, rfl, hNw, hB, hx3⟩
end Go.Proofs.YtefmioppamdceaaDoor
