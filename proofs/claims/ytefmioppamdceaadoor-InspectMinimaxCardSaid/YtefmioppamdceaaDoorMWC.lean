/- Words of big: plus, minus. -/
import Derived.Test.YtefmioppamdceaaDoorMWDig
namespace Go.Proofs.YtefmioppamdceaaDoor
open Go.RowKit Go.Shelf

theorem info_word : (Tryd.prog.info? 149).map (fun i => (i.zero, i.size, i.bytes)) = some (some (.int .u32 0), 1, 4) := by kernel_rfl
theorem made_words (n : Nat) : madeCells (Value.int .u32 0).cells n = Array.replicate n (.int .u32 0) := by
  refine Array.ext (by simp [madeCells]) (fun i h1 h2 => ?_)
  simp [madeCells, Value.cells, Nat.mod_one]
theorem make_words (n : Nat) (hn : n ≤ 1000000) (W : World) : (Instr.makeSlice 92 (.int .i64 n) (.int .i64 n)).run Tryd.prog W = .ok (.slice (some ⟨W.heap.size, 0, none⟩) n n) (W.alloc (.cells (Array.replicate n (.int .u32 0)) 149)) := by
  obtain ⟨i0, hi, hz0, hz1, hz2⟩ := info_parts info_word
  have := run_make (P := Tryd.prog) W 92 149 i0 (.int .u32 0) Tryd.underlying92 hi hz0 .i64 .i64 n n (by omega) (Int.le_refl _) (by rw [hz2]; omega) (by omega)
  rw [hz1, Nat.mul_one, made_words] at this
  simpa using this
/-- Words in a block that may be written. -/
def CellsU (w : World) (Q N : Nat) (f : Nat → Int) : Prop := ∀ j, j < N → w.cell? ⟨Q, j, none⟩ = some (.int .u32 (f j)) ∧ w.frozen? ⟨Q, j, none⟩ = false
theorem CellsU.ext {w w' : World} {Q N : Nat} {f : Nat → Int} (h : CellsU w Q N f) (hQ : Q < w.heap.size) (hx : Ext w w') : CellsU w' Q N f := fun j hj =>
  ⟨(hx.cell (p := ⟨Q, j, none⟩) hQ).trans (h j hj).1, (hx.frozen (p := ⟨Q, j, none⟩) hQ).trans (h j hj).2⟩
theorem CellsU.put {w : World} {Q N : Nat} {f g : Nat → Int} (h : CellsU w Q N f) {i : Nat} (hi : i < N) (u : Int) (hg : ∀ j, j < N → g j = if j = i then u else f j) : CellsU (w.setCell ⟨Q, i, none⟩ (.int .u32 u)) Q N g := fun j hj => by
  rw [World.frozen?_setCell, hg j hj]
  refine ⟨?_, (h j hj).2⟩
  by_cases e : j = i
  · subst e; rw [if_pos rfl, World.cell?_setCell_same w _ _ (h j hj).1]
  · rw [if_neg e, World.cell?_setCell_other w _ _ _ (fun h => e (congrArg Addr.off h).symm)]; exact (h j hj).1
theorem CellsU.made (w : World) (N : Nat) (t : TypeId) : CellsU (w.alloc (Obj.cells (Array.replicate N (.int .u32 0)) t)) w.heap.size N (fun _ => 0) := fun j hj => ⟨by simp [go_sem, hj], by simp [go_sem]⟩
theorem CellsU.wIn {w : World} {Q N : Nat} {f : Nat → Int} (h : CellsU w Q N f) (hQ : Q < w.heap.size) (l : List Int) (hl : l.length ≤ N) (hf : ∀ k, k < l.length → ith l k = f k) : WIn w (some ⟨Q, 0, none⟩) l := fun k hk =>
  ⟨Q, rfl, hQ, by rw [(h k (by omega)).1, hf k hk]⟩
set_option maxRecDepth 100000 in
set_option maxHeartbeats 1000000 in
theorem wplus_calls (w : World) (ao bo : Option Addr) (c d A B : Nat) (m n : Nat) (hI : WNum w ao A c m) (hJ : WNum w bo B d n) (hA : A ≤ 10000) (hB : B ≤ 10000) :
    Calls Tryd.prog 109 #[.slice ao A c, .slice bo B d] w (WRes w (m + n)) := by
  by_cases hAB : A < B
  · have hBA : A ≤ B := by omega
    have HS : Hid (n + m = m + n) := Lib.hid (Nat.add_comm _ _)
    have HmA := Lib.hid hJ.many
    have HnB := Lib.hid hI.many
    have hmk : ∀ W, (Instr.makeSlice 92 (.int .i64 ((B : Int) + 1)) (.int .i64 ((B : Int) + 1))).run Tryd.prog W = .ok (.slice (some ⟨W.heap.size, 0, none⟩) (B + 1) (B + 1)) (W.alloc (.cells (Array.replicate (B + 1) (.int .u32 0)) 149)) := fun W => by
      have := make_words (B + 1) (by omega) W
      rwa [show ((B + 1 : Nat) : Int) = (B : Int) + 1 by simp] at this
    go_enter Tryd.func109, Tryd.ntmps109
    go_wp2_with fail
    have hx1 : Ext w (w.alloc (Obj.cells (Array.replicate (B + 1) (.int .u32 0)) 149)) := (by repeat (first | exact Ext.refl _ | assumption | refine Ext.alloc ?_ _ | refine Ext.drewN ?_ _ | refine Ext.drew ?_))
    have HC1 := Lib.hid (CellsU.made w (B + 1) 149)
    obtain ⟨w1, hw1⟩ : ∃ w1, w1 = (w.alloc (Obj.cells (Array.replicate (B + 1) (.int .u32 0)) 149)) := ⟨_, rfl⟩
    obtain ⟨Q, hQ⟩ : ∃ Q, Q = w.heap.size := ⟨_, rfl⟩
    have hQ1 : Q < w1.heap.size := by rw [hw1, hQ]; simp
    rw [← hw1, ← hQ] at HC1
    rw [← hw1] at hx1 ⊢
    rw [← hQ]
    have hQw : w.heap.size ≤ Q := by omega
    clear hQ hw1 hmk
    go_loopw [6, 21] (fun cv iv wr => ∃ k q : Nat, k ≤ B ∧ iv = .int .i64 k ∧ cv = .int .u64 q ∧ q ≤ 1 ∧ Hid (q = (n % 4294967296 ^ k + m % 4294967296 ^ k) / 4294967296 ^ k) ∧ w1.grownBy wr (some Q) ∧ Hid (CellsU wr Q (B + 1) (fun j => if j < k then (W.dig (n + m) j : Int) else 0))) (fun _ iv _ => B - (intOf iv).toNat)
    case atStart => exact ⟨0, 0, by omega, rfl, rfl, by omega, Lib.hid (by simp [Nat.mod_one]), (Ext.refl _).grown _, Lib.hid (fun j hj => by have := HC1.out j hj; simpa using this)⟩
    case round =>
      obtain ⟨k, q, hk, rfl, rfl, hq1, HC, hg, HU⟩ := hrel
      have hQr : Q < wr.heap.size := Nat.lt_of_lt_of_le hQ1 hg.size
      have hxr : Ext w wr := hx1.onto hg (fun q hq => by simp only [Option.some.injEq] at hq; omega)
      by_cases hkA : k < B
      · obtain ⟨x, hxx⟩ : ∃ x, x = W.dig n k := ⟨_, rfl⟩
        obtain ⟨y, hyy⟩ : ∃ y, y = W.dig m k := ⟨_, rfl⟩
        have hy0 : A ≤ k → y = 0 := fun h => by rw [hyy]; exact W.dig_out (by rw [HnB.out]; exact h)
        have hx9 : x < 4294967296 := by rw [hxx]; exact W.dig_lt _ _
        have hy9 : y < 4294967296 := by rw [hyy]; exact W.dig_lt _ _
        have st := W.add_step n m k
        rw [← HC.out, ← hxx, ← hyy] at st
        have HE : Hid (W.dig (n + m) k = (q + x + y) % 4294967296) := Lib.hid st.1
        have HC2 : Hid ((q + x + y) / 4294967296 = (n % 4294967296 ^ (k + 1) + m % 4294967296 ^ (k + 1)) / 4294967296 ^ (k + 1)) := Lib.hid st.2.symm
        obtain ⟨b, rfl, hb, hc⟩ := (hJ.ext hxr).at_ k hkA
        rw [← hxx] at hc
        have HY := Lib.hid hyy
        have hq2 : (q + x + y) / 4294967296 ≤ 1 := by omega
        obtain ⟨u1, u2⟩ := HU.out k (by omega)
        simp only [] at u1
        rw [if_neg (by omega)] at u1
        have HU2 : Hid (CellsU (wr.setCell ⟨Q, k, none⟩ (.int .u32 (((q : Int) + x + y) % 4294967296))) Q (B + 1) (fun j => if j < k + 1 then (W.dig (n + m) j : Int) else 0)) := Lib.hid (HU.out.put (by omega) _ (fun j hj => by
          by_cases e : j = k
          · subst e; rw [if_pos (by omega), if_pos rfl, HE.out]; omega
          · rw [if_neg e]
            by_cases e2 : j < k
            · rw [if_pos (by omega), if_pos e2]
            · rw [if_neg (by omega), if_neg e2]))
        have hg2 := grownBy_trans hg (grownBy_setCell wr ⟨Q, k, none⟩ (.int .u32 (((q : Int) + x + y) % 4294967296)))
        clear st hxx hyy
        have k0 : (0 : Int) ≤ (k : Int) := by omega
        have k1 : (k : Int) < (B : Int) + 1 := by omega
        by_cases hkB : k < A
        · obtain ⟨b2, rfl, hb2, hc2⟩ := (hI.ext hxr).at_ k hkB
          rw [← HY.out] at hc2
          go_wp2_with fail
          exact ⟨⟨k + 1, _, by omega, by simp, rfl, hq2, HC2, hg2, HU2⟩, by simp only [intOf]; omega⟩
        · have hy00 : y = 0 := hy0 (by omega)
          subst hy00
          simp only [Int.natCast_zero, Int.add_zero, Nat.add_zero] at HC2 hq2 HU2 hg2
          go_wp2_with fail
          exact ⟨⟨k + 1, _, by omega, by simp, rfl, hq2, HC2, hg2, HU2⟩, by simp only [intOf]; omega⟩
      · obtain rfl : B = k := by omega
        obtain ⟨u1, u2⟩ := HU.out B (by omega)
        have hlt : n + m < 4294967296 ^ (B + 1) := by
          have h1 := W.lt_many n
          have h2 := W.lt_many m
          rw [HmA.out] at h1
          rw [HnB.out] at h2
          have h3 : 4294967296 ^ A ≤ 4294967296 ^ B := Nat.pow_le_pow_right (by omega) (by omega)
          rw [Nat.pow_succ]; omega
        have hqd : q = W.dig (n + m) B := by
          have h1 := W.lt_many n
          have h2 := W.lt_many m
          rw [HmA.out] at h1
          rw [HnB.out] at h2
          have h3 : 4294967296 ^ A ≤ 4294967296 ^ B := Nat.pow_le_pow_right (by omega) (by omega)
          have h4 := HC.out
          rw [Nat.mod_eq_of_lt h1, Nat.mod_eq_of_lt (by omega)] at h4
          unfold W.dig
          rw [← h4]; omega
        have HU2 : Hid (CellsU (wr.setCell ⟨Q, B, none⟩ (.int .u32 (q : Int))) Q (B + 1) (fun j => (W.dig (n + m) j : Int))) := Lib.hid (HU.out.put (by omega) _ (fun j hj => by
          by_cases e : j = B
          · subst e; rw [if_pos rfl, hqd]
          · rw [if_neg e, if_pos (by omega)]))
        have hg2 := grownBy_trans hg (grownBy_setCell wr ⟨Q, B, none⟩ (.int .u32 (q : Int)))
        have hQ2 : Q < (wr.setCell ⟨Q, B, none⟩ (.int .u32 (q : Int))).heap.size := by simpa [World.setCell] using hQr
        have htc := wtrim_calls (wr.setCell ⟨Q, B, none⟩ (.int .u32 (q : Int))) (some ⟨Q, 0, none⟩) (B + 1) (W.low (B + 1) (n + m)) (HU2.out.wIn hQ2 _ (by rw [W.low_length]; omega) (fun k hk => by rw [W.low_length] at hk; rw [ith_getD, W.low_at _ _ _ hk])) (W.digits_low _ _) (by rw [W.low_length]; omega) (by rw [W.low_length]; omega)
        rw [W.low_length, W.worth_low, Nat.mod_eq_of_lt hlt, Int.toNat_natCast] at htc
        try rw [HS.out] at htc
        have hx2 : Ext w (wr.setCell ⟨Q, B, none⟩ (.int .u32 (q : Int))) := hxr.setOwn _ _ hQw
        clear HU2 HU HC hqd hlt
        have hq9 : q < 4294967296 := by omega
        go_wp2_with fail
        refine htc.mono ?_
        rintro e w5 ⟨ro, rA, rc, rfl, hN, hx5⟩
        have hx25 := hx2.trans hx5
        go_wp2_with fail
        go_ret
        exact ⟨ro, rA, rc, rfl, hN, hx25⟩
  · have hBA : B ≤ A := by omega
    have HS : Hid (m + n = m + n) := Lib.hid rfl
    have HmA := Lib.hid hI.many
    have HnB := Lib.hid hJ.many
    have hmk : ∀ W, (Instr.makeSlice 92 (.int .i64 ((A : Int) + 1)) (.int .i64 ((A : Int) + 1))).run Tryd.prog W = .ok (.slice (some ⟨W.heap.size, 0, none⟩) (A + 1) (A + 1)) (W.alloc (.cells (Array.replicate (A + 1) (.int .u32 0)) 149)) := fun W => by
      have := make_words (A + 1) (by omega) W
      rwa [show ((A + 1 : Nat) : Int) = (A : Int) + 1 by simp] at this
    go_enter Tryd.func109, Tryd.ntmps109
    go_wp2_with fail
    have hx1 : Ext w (w.alloc (Obj.cells (Array.replicate (A + 1) (.int .u32 0)) 149)) := (by repeat (first | exact Ext.refl _ | assumption | refine Ext.alloc ?_ _ | refine Ext.drewN ?_ _ | refine Ext.drew ?_))
    have HC1 := Lib.hid (CellsU.made w (A + 1) 149)
    obtain ⟨w1, hw1⟩ : ∃ w1, w1 = (w.alloc (Obj.cells (Array.replicate (A + 1) (.int .u32 0)) 149)) := ⟨_, rfl⟩
    obtain ⟨Q, hQ⟩ : ∃ Q, Q = w.heap.size := ⟨_, rfl⟩
    have hQ1 : Q < w1.heap.size := by rw [hw1, hQ]; simp
    rw [← hw1, ← hQ] at HC1
    rw [← hw1] at hx1 ⊢
    rw [← hQ]
    have hQw : w.heap.size ≤ Q := by omega
    clear hQ hw1 hmk
    go_loopw [6, 21] (fun cv iv wr => ∃ k q : Nat, k ≤ A ∧ iv = .int .i64 k ∧ cv = .int .u64 q ∧ q ≤ 1 ∧ Hid (q = (m % 4294967296 ^ k + n % 4294967296 ^ k) / 4294967296 ^ k) ∧ w1.grownBy wr (some Q) ∧ Hid (CellsU wr Q (A + 1) (fun j => if j < k then (W.dig (m + n) j : Int) else 0))) (fun _ iv _ => A - (intOf iv).toNat)
    case atStart => exact ⟨0, 0, by omega, rfl, rfl, by omega, Lib.hid (by simp [Nat.mod_one]), (Ext.refl _).grown _, Lib.hid (fun j hj => by have := HC1.out j hj; simpa using this)⟩
    case round =>
      obtain ⟨k, q, hk, rfl, rfl, hq1, HC, hg, HU⟩ := hrel
      have hQr : Q < wr.heap.size := Nat.lt_of_lt_of_le hQ1 hg.size
      have hxr : Ext w wr := hx1.onto hg (fun q hq => by simp only [Option.some.injEq] at hq; omega)
      by_cases hkA : k < A
      · obtain ⟨x, hxx⟩ : ∃ x, x = W.dig m k := ⟨_, rfl⟩
        obtain ⟨y, hyy⟩ : ∃ y, y = W.dig n k := ⟨_, rfl⟩
        have hy0 : B ≤ k → y = 0 := fun h => by rw [hyy]; exact W.dig_out (by rw [HnB.out]; exact h)
        have hx9 : x < 4294967296 := by rw [hxx]; exact W.dig_lt _ _
        have hy9 : y < 4294967296 := by rw [hyy]; exact W.dig_lt _ _
        have st := W.add_step m n k
        rw [← HC.out, ← hxx, ← hyy] at st
        have HE : Hid (W.dig (m + n) k = (q + x + y) % 4294967296) := Lib.hid st.1
        have HC2 : Hid ((q + x + y) / 4294967296 = (m % 4294967296 ^ (k + 1) + n % 4294967296 ^ (k + 1)) / 4294967296 ^ (k + 1)) := Lib.hid st.2.symm
        obtain ⟨b, rfl, hb, hc⟩ := (hI.ext hxr).at_ k hkA
        rw [← hxx] at hc
        have HY := Lib.hid hyy
        have hq2 : (q + x + y) / 4294967296 ≤ 1 := by omega
        obtain ⟨u1, u2⟩ := HU.out k (by omega)
        simp only [] at u1
        rw [if_neg (by omega)] at u1
        have HU2 : Hid (CellsU (wr.setCell ⟨Q, k, none⟩ (.int .u32 (((q : Int) + x + y) % 4294967296))) Q (A + 1) (fun j => if j < k + 1 then (W.dig (m + n) j : Int) else 0)) := Lib.hid (HU.out.put (by omega) _ (fun j hj => by
          by_cases e : j = k
          · subst e; rw [if_pos (by omega), if_pos rfl, HE.out]; omega
          · rw [if_neg e]
            by_cases e2 : j < k
            · rw [if_pos (by omega), if_pos e2]
            · rw [if_neg (by omega), if_neg e2]))
        have hg2 := grownBy_trans hg (grownBy_setCell wr ⟨Q, k, none⟩ (.int .u32 (((q : Int) + x + y) % 4294967296)))
        clear st hxx hyy
        have k0 : (0 : Int) ≤ (k : Int) := by omega
        have k1 : (k : Int) < (A : Int) + 1 := by omega
        by_cases hkB : k < B
        · obtain ⟨b2, rfl, hb2, hc2⟩ := (hJ.ext hxr).at_ k hkB
          rw [← HY.out] at hc2
          go_wp2_with fail
          exact ⟨⟨k + 1, _, by omega, by simp, rfl, hq2, HC2, hg2, HU2⟩, by simp only [intOf]; omega⟩
        · have hy00 : y = 0 := hy0 (by omega)
          subst hy00
          simp only [Int.natCast_zero, Int.add_zero, Nat.add_zero] at HC2 hq2 HU2 hg2
          go_wp2_with fail
          exact ⟨⟨k + 1, _, by omega, by simp, rfl, hq2, HC2, hg2, HU2⟩, by simp only [intOf]; omega⟩
      · obtain rfl : A = k := by omega
        obtain ⟨u1, u2⟩ := HU.out A (by omega)
        have hlt : m + n < 4294967296 ^ (A + 1) := by
          have h1 := W.lt_many m
          have h2 := W.lt_many n
          rw [HmA.out] at h1
          rw [HnB.out] at h2
          have h3 : 4294967296 ^ B ≤ 4294967296 ^ A := Nat.pow_le_pow_right (by omega) (by omega)
          rw [Nat.pow_succ]; omega
        have hqd : q = W.dig (m + n) A := by
          have h1 := W.lt_many m
          have h2 := W.lt_many n
          rw [HmA.out] at h1
          rw [HnB.out] at h2
          have h3 : 4294967296 ^ B ≤ 4294967296 ^ A := Nat.pow_le_pow_right (by omega) (by omega)
          have h4 := HC.out
          rw [Nat.mod_eq_of_lt h1, Nat.mod_eq_of_lt (by omega)] at h4
          unfold W.dig
          rw [← h4]; omega
        have HU2 : Hid (CellsU (wr.setCell ⟨Q, A, none⟩ (.int .u32 (q : Int))) Q (A + 1) (fun j => (W.dig (m + n) j : Int))) := Lib.hid (HU.out.put (by omega) _ (fun j hj => by
          by_cases e : j = A
          · subst e; rw [if_pos rfl, hqd]
          · rw [if_neg e, if_pos (by omega)]))
        have hg2 := grownBy_trans hg (grownBy_setCell wr ⟨Q, A, none⟩ (.int .u32 (q : Int)))
        have hQ2 : Q < (wr.setCell ⟨Q, A, none⟩ (.int .u32 (q : Int))).heap.size := by simpa [World.setCell] using hQr
        have htc := wtrim_calls (wr.setCell ⟨Q, A, none⟩ (.int .u32 (q : Int))) (some ⟨Q, 0, none⟩) (A + 1) (W.low (A + 1) (m + n)) (HU2.out.wIn hQ2 _ (by rw [W.low_length]; omega) (fun k hk => by rw [W.low_length] at hk; rw [ith_getD, W.low_at _ _ _ hk])) (W.digits_low _ _) (by rw [W.low_length]; omega) (by rw [W.low_length]; omega)
        rw [W.low_length, W.worth_low, Nat.mod_eq_of_lt hlt, Int.toNat_natCast] at htc
        try rw [HS.out] at htc
        have hx2 : Ext w (wr.setCell ⟨Q, A, none⟩ (.int .u32 (q : Int))) := hxr.setOwn _ _ hQw
        clear HU2 HU HC hqd hlt
        have hq9 : q < 4294967296 := by omega
        go_wp2_with fail
        refine htc.mono ?_
        rintro e w5 ⟨ro, rA, rc, rfl, hN, hx5⟩
        have hx25 := hx2.trans hx5
        go_wp2_with fail
        go_ret
        exact ⟨ro, rA, rc, rfl, hN, hx25⟩
set_option maxRecDepth 100000 in
set_option maxHeartbeats 1000000 in
theorem wminus_calls (w : World) (ao bo : Option Addr) (c d A B : Nat) (m n : Nat) (hI : WNum w ao A c m) (hJ : WNum w bo B d n) (hA : A ≤ 10000) (hnm : n ≤ m) :
    Calls Tryd.prog 111 #[.slice ao A c, .slice bo B d] w (WRes w (m - n)) := by
  have HmA := Lib.hid hI.many
  have HnB := Lib.hid hJ.many
  have hmk := make_words A (by omega)
  go_enter Tryd.func111, Tryd.ntmps111
  go_wp2_with fail
  have hx1 : Ext w (w.alloc (Obj.cells (Array.replicate A (.int .u32 0)) 149)) := (by repeat (first | exact Ext.refl _ | assumption | refine Ext.alloc ?_ _ | refine Ext.drewN ?_ _ | refine Ext.drew ?_))
  have HC1 := Lib.hid (CellsU.made w A 149)
  obtain ⟨w1, hw1⟩ : ∃ w1, w1 = (w.alloc (Obj.cells (Array.replicate A (.int .u32 0)) 149)) := ⟨_, rfl⟩
  obtain ⟨Q, hQ⟩ : ∃ Q, Q = w.heap.size := ⟨_, rfl⟩
  have hQ1 : Q < w1.heap.size := by rw [hw1, hQ]; simp
  rw [← hw1, ← hQ] at HC1
  rw [← hw1] at hx1 ⊢
  rw [← hQ]
  have hQw : w.heap.size ≤ Q := by omega
  clear hQ hw1 hmk
  go_loopw [6, 14] (fun cv iv wr => ∃ k q : Nat, k ≤ A ∧ iv = .int .i64 k ∧ cv = .int .u64 q ∧ q ≤ 1 ∧ Hid (q = if m % 4294967296 ^ k < n % 4294967296 ^ k then 1 else 0) ∧ w1.grownBy wr (some Q) ∧ Hid (CellsU wr Q A (fun j => if j < k then (W.dig (m - n) j : Int) else 0))) (fun _ iv _ => A - (intOf iv).toNat)
  case atStart => exact ⟨0, 0, by omega, rfl, rfl, by omega, Lib.hid (by simp [Nat.mod_one]), (Ext.refl _).grown _, Lib.hid (fun j hj => by have := HC1.out j hj; simpa using this)⟩
  case round =>
    obtain ⟨k, q, hk, rfl, rfl, hq1, HC, hg, HU⟩ := hrel
    have hQr : Q < wr.heap.size := Nat.lt_of_lt_of_le hQ1 hg.size
    have hxr : Ext w wr := hx1.onto hg (fun q hq => by simp only [Option.some.injEq] at hq; omega)
    by_cases hkA : k < A
    · obtain ⟨x, hxx⟩ : ∃ x, x = W.dig m k := ⟨_, rfl⟩
      obtain ⟨y, hyy⟩ : ∃ y, y = W.dig n k := ⟨_, rfl⟩
      have hy0 : B ≤ k → y = 0 := fun h => by rw [hyy]; exact W.dig_out (by rw [HnB.out]; exact h)
      have hx9 : x < 4294967296 := by rw [hxx]; exact W.dig_lt _ _
      have hy9 : y < 4294967296 := by rw [hyy]; exact W.dig_lt _ _
      have st := W.sub_step m n k hnm
      have hqc : ((if m % 4294967296 ^ k < n % 4294967296 ^ k then 1 else 0 : Int)) = (q : Int) := by rw [HC.out]; split <;> rfl
      rw [hqc, ← hxx, ← hyy] at st
      obtain ⟨q2, hq2, HC2, HE⟩ : ∃ q2 : Nat, (q2 = 0 ∧ 0 ≤ (x : Int) - q - y ∨ q2 = 1 ∧ (x : Int) - q - y < 0) ∧ Hid (q2 = if m % 4294967296 ^ (k + 1) < n % 4294967296 ^ (k + 1) then 1 else 0) ∧ Hid ((W.dig (m - n) k : Int) = ((x : Int) - q - y) % 4294967296) := by
        by_cases hneg : (x : Int) - q - y < 0
        · have h1 := st.2.2 hneg
          have h2 := st.1
          rw [if_pos h1] at h2
          exact ⟨1, .inr ⟨rfl, hneg⟩, Lib.hid (by rw [if_pos h1]), Lib.hid (by omega)⟩
        · have h1 : ¬ m % 4294967296 ^ (k + 1) < n % 4294967296 ^ (k + 1) := fun h => hneg (st.2.1 h)
          have h2 := st.1
          rw [if_neg h1] at h2
          exact ⟨0, .inl ⟨rfl, by omega⟩, Lib.hid (by rw [if_neg h1]), Lib.hid (by omega)⟩
      obtain ⟨b, rfl, hb, hc⟩ := (hI.ext hxr).at_ k hkA
      rw [← hxx] at hc
      have HY := Lib.hid hyy
      obtain ⟨u1, u2⟩ := HU.out k (by omega)
      simp only [] at u1
      rw [if_neg (by omega)] at u1
      have HU2 : Hid (CellsU (wr.setCell ⟨Q, k, none⟩ (.int .u32 (((x : Int) - q - y) % 4294967296))) Q A (fun j => if j < k + 1 then (W.dig (m - n) j : Int) else 0)) := Lib.hid (HU.out.put (by omega) _ (fun j hj => by
        by_cases e : j = k
        · subst e; rw [if_pos (by omega), if_pos rfl, HE.out]
        · rw [if_neg e]
          by_cases e2 : j < k
          · rw [if_pos (by omega), if_pos e2]
          · rw [if_neg (by omega), if_neg e2]))
      have hg2 := grownBy_trans hg (grownBy_setCell wr ⟨Q, k, none⟩ (.int .u32 (((x : Int) - q - y) % 4294967296)))
      clear st hxx hyy hqc
      have k0 : (0 : Int) ≤ (k : Int) := by omega
      have k1 : (k : Int) < (A : Int) := by omega
      by_cases hkB : k < B
      · obtain ⟨b2, rfl, hb2, hc2⟩ := (hJ.ext hxr).at_ k hkB
        rw [← HY.out] at hc2
        have E1 : Hid (IntKind.u64.wrap (IntKind.u64.wrap ((x : Int) - q) - y) % 4294967296 = ((x : Int) - q - y) % 4294967296) := Lib.hid (by rw [IntKind.wrap_u64, IntKind.wrap_u64]; omega)
        have E2 : Hid (IntKind.u64.wrap (IntKind.u64.wrap ((x : Int) - q) - y) / 9223372036854775808 = (q2 : Int)) := Lib.hid (by rw [IntKind.wrap_u64, IntKind.wrap_u64]; omega)
        go_wp2_with fail
        rw [E1.out, E2.out]
        exact ⟨⟨k + 1, q2, by omega, by simp, rfl, by omega, HC2, hg2, HU2⟩, by simp only [intOf]; omega⟩
      · have hy00 : y = 0 := hy0 (by omega)
        subst hy00
        simp only [Int.natCast_zero, Int.sub_zero] at HU2 hg2 hq2
        have E1 : Hid (IntKind.u64.wrap ((x : Int) - q) % 4294967296 = ((x : Int) - q) % 4294967296) := Lib.hid (by rw [IntKind.wrap_u64]; omega)
        have E2 : Hid (IntKind.u64.wrap ((x : Int) - q) / 9223372036854775808 = (q2 : Int)) := Lib.hid (by rw [IntKind.wrap_u64]; omega)
        go_wp2_with fail
        rw [E1.out, E2.out]
        exact ⟨⟨k + 1, q2, by omega, by simp, rfl, by omega, HC2, hg2, HU2⟩, by simp only [intOf]; omega⟩
    · obtain rfl : A = k := by omega
      have hlt : m - n < 4294967296 ^ A := by
        have h1 := W.lt_many m
        rw [HmA.out] at h1
        omega
      have htc := wtrim_calls wr (some ⟨Q, 0, none⟩) A (W.low A (m - n)) (HU.out.wIn hQr _ (by rw [W.low_length]; omega) (fun k hk => by rw [W.low_length] at hk; rw [ith_getD, W.low_at _ _ _ hk, if_pos hk])) (W.digits_low _ _) (by rw [W.low_length]; omega) (by rw [W.low_length]; omega)
      rw [W.low_length, W.worth_low, Nat.mod_eq_of_lt hlt, Int.toNat_natCast] at htc
      clear HU HC hlt
      go_wp2_with fail
      refine htc.mono ?_
      rintro e w5 ⟨ro, rA, rc, rfl, hN, hx5⟩
      have hx25 := hxr.trans hx5
      go_wp2_with fail
      go_ret
      exact ⟨ro, rA, rc, rfl, hN, hx25⟩
end Go.Proofs.YtefmioppamdceaaDoor
