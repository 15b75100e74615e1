/- The specification's Lowest, IsShares, Is; quota.Is. -/
import Derived.Test.YtcngecibljgndaaMQPC
namespace Go.Proofs.Ytcngecibljgndaa
open Go.RowKit Go.Shelf

/-- A box with Parts in it. -/
structure PBox (w : World) (B : Nat) (v : Value) (d : Int) : Prop where
  c0 : w.cell? ⟨B, 0, none⟩ = some v
  c1 : w.cell? ⟨B, 1, none⟩ = some (.int .i64 d)
  lt : B < w.heap.size
theorem PBox.ext {w w' : World} {B : Nat} {v : Value} {d : Int} (h : PBox w B v d) (hx : Ext w w') : PBox w' B v d :=
  ⟨(hx.cell (p := ⟨B, 0, none⟩) h.lt).trans h.c0, (hx.cell (p := ⟨B, 1, none⟩) h.lt).trans h.c1, Nat.lt_of_lt_of_le h.lt hx.size⟩
theorem PBox.new (w : World) (t : TypeId) (v : Value) (d : Int) : PBox (w.alloc (.cells #[v, .int .i64 d] t)) w.heap.size v d :=
  ⟨by simp [go_sem], by simp [go_sem], by simp⟩
theorem refLowest_calls (w : World) (lo : Option Addr) (lcap : Nat) (l : List Int) (d : Int) (hJ : IntsIn w lo l) (hd : 0 < d ∧ d ≤ 4611686018427387904) (hb : ∀ k, k < l.length → -4611686018427387904 ≤ ith l k ∧ ith l k ≤ 4611686018427387904) (hll : l.length ≤ 1000000) :
    Calls Try.prog 80 #[.agg #[.slice lo l.length lcap, .int .i64 d]] w fun e w' => e = .returned (.bool (decide (gcdL d l = 1))) ∧ Ext w w' := by
  have HB := Lib.hid hb
  clear hb
  go_enter Try.func80, Try.ntmps80
  go_wp2_with fail
  have hx1 : Ext w (w.alloc (Obj.cells #[.slice lo l.length lcap, .int .i64 d] 26)) := (by repeat (first | exact Ext.refl _ | assumption | refine Ext.alloc ?_ _ | refine Ext.drewN ?_ _ | refine Ext.drew ?_))
  have hbx := PBox.new w 26 (.slice lo l.length lcap) d
  obtain ⟨B, hB⟩ : ∃ B, B = w.heap.size := ⟨_, rfl⟩
  generalize (w.alloc (Obj.cells #[.slice lo l.length lcap, .int .i64 d] 26)) = w1 at *
  rw [← hB] at hbx ⊢
  clear hB
  go_loopw [3, 4] (fun g i wr => ∃ k : Nat, k ≤ l.length ∧ i = .int .i64 k ∧ g = .int .i64 (gcdL d (l.take k)) ∧ Ext w1 wr) (fun _ i _ => l.length - (intOf i).toNat)
  case atStart => exact ⟨0, by omega, rfl, by rw [List.take_zero, gcdL_nil]; exact congrArg _ (by omega), Ext.refl _⟩
  case round =>
    obtain ⟨k, hk, rfl, rfl, hx⟩ := hrel
    obtain ⟨hcr0, hcr1, hBr⟩ := hbx.ext hx
    have hxw := hx1.trans hx
    have hgb := gcdL_bounds (l.take k) hd.1
    by_cases hlt : k < l.length
    · obtain ⟨jb, jf, rfl, hjb, hjc⟩ := hJ.ext hxw k hlt
      have hbk := HB.out k hlt
      go_wp2_with fail
      refine (refGcd_calls _ _ _ (by omega) hbk).mono ?_
      rintro e w4 ⟨rfl, hx4⟩
      go_wp2_with fail
      refine ⟨⟨k + 1, by omega, rfl, ?_, hx.trans hx4⟩, by simp only [intOf]; omega⟩
      rw [gcdL_take d l k hlt]
    · obtain rfl : k = l.length := by omega
      rw [List.take_length] at hgb ⊢
      go_wp2_with fail
      go_ret
      refine ⟨ret_bool ?_, hxw⟩
      rw [Bool.eq_iff_iff]; simp; omega
set_option maxRecDepth 100000 in
set_option maxHeartbeats 4000000 in
theorem refIsShares_calls (w : World) (E : Int) (ao lo : Option Addr) (cap lcap : Nat) (xs l : List Int) (d : Int) (hI : IntsIn w ao xs) (hJ : IntsIn w lo l) (hl : xs.length ≤ 7) (hu : Upto 100000 xs) (hE : 0 ≤ E ∧ E ≤ 100000) (hll : l.length ≤ 1000000) :
    Calls Try.prog 48 #[.int .i64 E, .slice ao xs.length cap, .agg #[.slice lo l.length lcap, .int .i64 d]] w fun e w' => e = .returned (.bool (isB E xs l d)) ∧ Ext w w' := by
  have HU := Lib.hid hu
  clear hu
  go_enter Try.func48, Try.ntmps48
  by_cases h1 : 1 ≤ d
  · by_cases h2 : d ≤ 1000000
    · by_cases h3 : l.length = xs.length
      · have h3b : ((l.length : Int) != (xs.length : Int)) = false := by simp; omega
        have H3 := Lib.hid h3
        clear h3
        have hD1 : decide (d < 1) = false := by simp; omega
        have hD2 : decide (1000000 < d) = false := by simp; omega
        go_wp2_with fail
        have hx1 : Ext w (w.alloc (Obj.cells #[.slice lo l.length lcap, .int .i64 d] 26)) := (by repeat (first | exact Ext.refl _ | assumption | refine Ext.alloc ?_ _ | refine Ext.drewN ?_ _ | refine Ext.drew ?_))
        have hbx := PBox.new w 26 (.slice lo l.length lcap) d
        obtain ⟨B, hB⟩ : ∃ B, B = w.heap.size := ⟨_, rfl⟩
        generalize (w.alloc (Obj.cells #[.slice lo l.length lcap, .int .i64 d] 26)) = w1 at *
        rw [← hB] at hbx ⊢
        clear hB
        go_loopw [7, 8] (fun s i wr => ∃ k : Nat, k ≤ xs.length ∧ i = .int .i64 k ∧ s = .int .i64 (isum (l.take k)) ∧ (0 ≤ isum (l.take k) ∧ isum (l.take k) ≤ 100000000000 * k) ∧ Ext w1 wr ∧ Hid (∀ j, j < k → 0 ≤ ith l j ∧ ith l j ≤ ith xs j * d)) (fun _ i _ => xs.length - (intOf i).toNat)
        case atStart => exact ⟨0, by omega, rfl, rfl, by simp [isum_nil], Ext.refl _, Lib.hid (fun j hj => by omega)⟩
        case round =>
          obtain ⟨k, hk, rfl, rfl, hsb, hx, HX⟩ := hrel
          obtain ⟨hcr0, hcr1, hBr⟩ := hbx.ext hx
          have hxw := hx1.trans hx
          by_cases hlt : k < xs.length
          · have hlx := H3.out
            have hlt2 : k < l.length := by omega
            have hst := Lib.hid (isum_take l k hlt2)
            obtain ⟨jb, jf, rfl, hjb, hjc⟩ := hJ.ext hxw k hlt2
            obtain ⟨xb, xf, rfl, hxb, hxc⟩ := hI.ext hxw k hlt
            have hcx := HU.out.at_ k hlt
            have hpr : ith xs k * d ≤ 100000 * 1000000 := Int.mul_le_mul hcx.2 h2 (by omega) (by omega)
            have hpr0 : 0 ≤ ith xs k * d := Int.mul_nonneg hcx.1 (by omega)
            have hw1 : IntKind.i64.wrap (ith xs k * d) = ith xs k * d := by rw [IntKind.wrap_i64]; omega
            have hkx : (k : Int) < (l.length : Int) := by omega
            clear hlx
            have hq0 : (0 : Int) ≤ (k : Int) := by omega
            have hx0 := After.cell hxc hxb
            have hx2 := After.cell hcr1 hBr
            have hx5 := After.cell hcr0 hBr
            have hx6 := After.cell hjc hjb
            cases hd : decide (ith l k < 0) with
            | true =>
              go_wp2_with fail
              refine wp_region_after (by kernel_rfl) (by kernel_rfl) ?_
              intro hne
              repeat (go_big_quiet_step (fail))
              refine wpQuiet_nil ?_
              intro w3 hx3
              have hx4 := hxw.trans hx3
              have HN := Lib.hid (isB_no (E := E) (xs := xs) (l := l) (d := d) (fun h => by have := h.num k hlt; simp at hd; omega))
              go_wp2_with fail
              go_ret
              exact ⟨ret_bool HN.out.symm, (by repeat (first | exact Ext.refl _ | assumption | refine Ext.alloc ?_ _ | refine Ext.drewN ?_ _ | refine Ext.drew ?_))⟩
            | false =>
              cases hd2 : decide (ith xs k * d < ith l k) with
              | true =>
                go_wp2_with fail
                refine wp_region_after (by kernel_rfl) (by kernel_rfl) ?_
                intro hne
                repeat (go_big_quiet_step (fail))
                refine wpQuiet_nil ?_
                intro w3 hx3
                have hx4 := hxw.trans hx3
                have HN := Lib.hid (isB_no (E := E) (xs := xs) (l := l) (d := d) (fun h => by have := h.num k hlt; simp at hd2; omega))
                go_wp2_with fail
                go_ret
                exact ⟨ret_bool HN.out.symm, (by repeat (first | exact Ext.refl _ | assumption | refine Ext.alloc ?_ _ | refine Ext.drewN ?_ _ | refine Ext.drew ?_))⟩
              | false =>
                have hlk : 0 ≤ ith l k ∧ ith l k ≤ ith xs k * d := by simp at hd hd2; omega
                go_wp2_with fail
                refine wp_region_after (by kernel_rfl) (by kernel_rfl) ?_
                intro hne
                repeat (go_big_quiet_step (fail))
                refine wpQuiet_nil ?_
                intro w3 hx3
                clear hx0 hx2 hx5 hx6
                have hc1 := (hx3.cell (p := ⟨B, 0, none⟩) hBr).trans hcr0
                have hB3 := Nat.lt_of_lt_of_le hBr hx3.size
                have hjc3 := (hx3.cell (p := ⟨jb, jf + k, none⟩) hjb).trans hjc
                have hjb3 := Nat.lt_of_lt_of_le hjb hx3.size
                have hw2 : IntKind.i64.wrap (isum (l.take k) + ith l k) = isum (l.take k) + ith l k := by rw [IntKind.wrap_i64]; omega
                go_wp2_with fail
                refine ⟨⟨k + 1, by omega, rfl, by rw [hst.out], by rw [hst.out]; omega, hx.trans hx3, Lib.hid (fun j hj => ?_)⟩, by simp only [intOf]; omega⟩
                rcases Nat.lt_or_ge j k with h | h
                · exact HX.out j h
                · rw [show j = k by omega]; exact hlk
          · obtain rfl : k = xs.length := by omega
            have hEd0 : 0 ≤ E * d := Int.mul_nonneg hE.1 (by omega)
            have hEd : E * d ≤ 100000 * 1000000 := Int.mul_le_mul hE.2 h2 (by omega) (by omega)
            have hw1 : IntKind.i64.wrap (E * d) = E * d := by rw [IntKind.wrap_i64]; omega
            have htk : l.take xs.length = l := by rw [← H3.out, List.take_length]
            rw [htk] at hsb ⊢
            by_cases hs : isum l = E * d
            · have hsb2 : (isum l == E * d) = true := by simp [hs]
              have HS := Lib.hid hs
              clear hs htk
              go_wp2_with fail
              refine (refLowest_calls _ lo lcap l d (hJ.ext hxw) (by omega) (fun j hj => ?_) hll).mono ?_
              · have h4 := HX.out j (by have := H3.out; omega)
                have hcx := HU.out.at_ j (by have := H3.out; omega)
                have hpr : ith xs j * d ≤ 100000 * 1000000 := Int.mul_le_mul hcx.2 h2 (by omega) (by omega)
                omega
              rintro e w4 ⟨rfl, hx4⟩
              have HD : Hid (decide (gcdL d l = 1) = isB E xs l d) := Lib.hid (by
                unfold isB
                rw [decide_eq_decide]
                exact ⟨fun h => ⟨⟨h1, h2⟩, H3.out, HX.out, h, HS.out⟩, fun h => h.low⟩)
              rw [HD.out]
              go_wp2_with fail
              go_ret
              exact ⟨rfl, hxw.trans hx4⟩
            · have hsb2 : (isum l == E * d) = false := by simp [hs]
              have HS := Lib.hid hs
              clear hs htk
              have HN := Lib.hid (isB_no (E := E) (xs := xs) (l := l) (d := d) (fun h => HS.out h.sum))
              go_wp2_with fail
              go_ret
              exact ⟨ret_bool HN.out.symm, (by repeat (first | exact Ext.refl _ | assumption | refine Ext.alloc ?_ _ | refine Ext.drewN ?_ _ | refine Ext.drew ?_))⟩
      · have h3b : ((l.length : Int) != (xs.length : Int)) = true := by simp; omega
        have H3 := Lib.hid h3
        clear h3
        have HN := Lib.hid (isB_no (E := E) (xs := xs) (l := l) (d := d) (fun h => H3.out h.len))
        go_wp2_with fail
        go_ret
        exact ⟨ret_bool HN.out.symm, (by repeat (first | exact Ext.refl _ | assumption | refine Ext.alloc ?_ _ | refine Ext.drewN ?_ _ | refine Ext.drew ?_))⟩
    · by_cases h3b : ((l.length : Int) != (xs.length : Int)) = true
      · have HN := Lib.hid (isB_no (E := E) (xs := xs) (l := l) (d := d) (fun h => by have := h.den; omega))
        go_wp2_with fail
        go_ret
        exact ⟨ret_bool HN.out.symm, (by repeat (first | exact Ext.refl _ | assumption | refine Ext.alloc ?_ _ | refine Ext.drewN ?_ _ | refine Ext.drew ?_))⟩
      · have h3c : ((l.length : Int) != (xs.length : Int)) = false := by simpa using h3b
        clear h3b
        have HN := Lib.hid (isB_no (E := E) (xs := xs) (l := l) (d := d) (fun h => by have := h.den; omega))
        go_wp2_with fail
        go_ret
        exact ⟨ret_bool HN.out.symm, (by repeat (first | exact Ext.refl _ | assumption | refine Ext.alloc ?_ _ | refine Ext.drewN ?_ _ | refine Ext.drew ?_))⟩
  · by_cases h3b : ((l.length : Int) != (xs.length : Int)) = true
    · have HN := Lib.hid (isB_no (E := E) (xs := xs) (l := l) (d := d) (fun h => by have := h.den; omega))
      go_wp2_with fail
      go_ret
      exact ⟨ret_bool HN.out.symm, (by repeat (first | exact Ext.refl _ | assumption | refine Ext.alloc ?_ _ | refine Ext.drewN ?_ _ | refine Ext.drew ?_))⟩
    · have h3c : ((l.length : Int) != (xs.length : Int)) = false := by simpa using h3b
      clear h3b
      have HN := Lib.hid (isB_no (E := E) (xs := xs) (l := l) (d := d) (fun h => by have := h.den; omega))
      go_wp2_with fail
      go_ret
      exact ⟨ret_bool HN.out.symm, (by repeat (first | exact Ext.refl _ | assumption | refine Ext.alloc ?_ _ | refine Ext.drewN ?_ _ | refine Ext.drew ?_))⟩
/-- What both Is return. -/
def IsRes (w : World) (E : Int) (xs l : List Int) (d : Int) (e : Ending) (w' : World) : Prop :=
  e = .returned (.tuple #[.bool (probB E xs && isB E xs l d), .int .i64 (errI (probB E xs))]) ∧ Ext w w'
theorem refIs_calls (w : World) (E : Int) (ao lo : Option Addr) (cap lcap : Nat) (xs l : List Int) (d : Int) (hI : IntsIn w ao xs) (hJ : IntsIn w lo l) (hll : l.length ≤ 1000000) :
    Calls Try.prog 33 #[.int .i64 E, .slice ao xs.length cap, .agg #[.slice lo l.length lcap, .int .i64 d]] w (IsRes w E xs l d) := by
  go_enter Try.func33, Try.ntmps33
  go_wp2_with fail
  have hx1 : Ext w (w.alloc (Obj.cells #[.slice lo l.length lcap, .int .i64 d] 26)) := (by repeat (first | exact Ext.refl _ | assumption | refine Ext.alloc ?_ _ | refine Ext.drewN ?_ _ | refine Ext.drew ?_))
  have hbx := PBox.new w 26 (.slice lo l.length lcap) d
  obtain ⟨B, hB⟩ : ∃ B, B = w.heap.size := ⟨_, rfl⟩
  generalize (w.alloc (Obj.cells #[.slice lo l.length lcap, .int .i64 d] 26)) = w1 at *
  rw [← hB] at hbx ⊢
  clear hB
  refine (refProblem_calls _ E ao cap xs (hI.ext hx1)).mono ?_
  rintro e w2 ⟨rfl, hx2⟩
  have hx12 := hx1.trans hx2
  cases hp : probB E xs with
  | false =>
    have HP := Lib.hid hp
    clear hp
    go_wp2_with fail
    go_ret2
    exact ⟨by simp [HP.out, errI], hx12⟩
  | true =>
    have hP := (probB_true E xs).1 hp
    have HP := Lib.hid hp
    clear hp
    obtain ⟨hcr0, hcr1, hBr⟩ := hbx.ext hx2
    go_wp2_with fail
    refine (refIsShares_calls _ E ao lo cap lcap xs l d (hI.ext hx12) (hJ.ext hx12) hP.seven hP.claims hP.estate hll).mono ?_
    rintro e w3 ⟨rfl, hx3⟩
    go_wp2_with fail
    go_ret2
    exact ⟨by simp [HP.out, errI], hx12.trans hx3⟩
theorem quotaIs_calls (w : World) (E : Int) (ao lo : Option Addr) (cap lcap : Nat) (xs l : List Int) (d : Int) (hI : IntsIn w ao xs) (hJ : IntsIn w lo l) (hl : xs.length ≤ 1000000) (hll : l.length ≤ 1000000) :
    Calls Try.prog 32 #[.int .i64 E, .slice ao xs.length cap, .agg #[.slice lo l.length lcap, .int .i64 d]] w (IsRes w E xs l d) := by
  go_enter Try.func32, Try.ntmps32
  go_wp2_with fail
  have hx1 : Ext w (w.alloc (Obj.cells #[.slice lo l.length lcap, .int .i64 d] 26)) := (by repeat (first | exact Ext.refl _ | assumption | refine Ext.alloc ?_ _ | refine Ext.drewN ?_ _ | refine Ext.drew ?_))
  have hbx := PBox.new w 26 (.slice lo l.length lcap) d
  obtain ⟨B, hB⟩ : ∃ B, B = w.heap.size := ⟨_, rfl⟩
  generalize (w.alloc (Obj.cells #[.slice lo l.length lcap, .int .i64 d] 26)) = w1 at *
  rw [← hB] at hbx ⊢
  clear hB
  refine (problem_calls _ E ao cap xs (hI.ext hx1) hl).mono ?_
  rintro e w2 ⟨rfl, hx2⟩
  have hx12 := hx1.trans hx2
  cases hp : probB E xs with
  | false =>
    have HP := Lib.hid hp
    clear hp
    simp only [errI]
    go_wp2_with fail
    go_ret2
    exact ⟨by simp [HP.out, errI], hx12⟩
  | true =>
    have hP := (probB_true E xs).1 hp
    have HP := Lib.hid hp
    clear hp
    obtain ⟨hcr0, hcr1, hBr⟩ := hbx.ext hx2
    simp only [errI]
    go_wp2_with fail
    refine (is_calls _ E ao lo cap lcap xs l d (hI.ext hx12) (hJ.ext hx12) hP.seven hP.claims hP.estate hll).mono ?_
    rintro e w3 ⟨rfl, hx3⟩
    go_wp2_with fail
    go_ret2
    exact ⟨by simp [HP.out, errI], hx12.trans hx3⟩
end Go.Proofs.Ytcngecibljgndaa
