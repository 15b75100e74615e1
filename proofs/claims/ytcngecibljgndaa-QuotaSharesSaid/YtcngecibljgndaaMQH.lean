/- is: the walk. -/
import Derived.Test.YtcngecibljgndaaMQG
namespace Go.Proofs.Ytcngecibljgndaa
open Go.RowKit Go.Shelf

/-- Are numbers over a divisor shares? -/
structure IsSh (E : Int) (xs l : List Int) (d : Int) : Prop where
  den : 1 ≤ d ∧ d ≤ 1000000
  len : l.length = xs.length
  num : ∀ k, k < xs.length → 0 ≤ ith l k ∧ ith l k ≤ ith xs k * d
  low : gcdL d l = 1
  sum : isum l = E * d
instance (E : Int) (xs l : List Int) (d : Int) : Decidable (IsSh E xs l d) :=
  decidable_of_iff ((1 ≤ d ∧ d ≤ 1000000) ∧ l.length = xs.length ∧ (∀ k, k < xs.length → 0 ≤ ith l k ∧ ith l k ≤ ith xs k * d) ∧ gcdL d l = 1 ∧ isum l = E * d)
    ⟨fun ⟨a, b, c, e, f⟩ => ⟨a, b, c, e, f⟩, fun ⟨a, b, c, e, f⟩ => ⟨a, b, c, e, f⟩⟩
def isB (E : Int) (xs l : List Int) (d : Int) : Bool := decide (IsSh E xs l d)
theorem isB_no {E : Int} {xs l : List Int} {d : Int} (h : ¬ IsSh E xs l d) : isB E xs l d = false := by simp [isB, h]
theorem isB_yes {E : Int} {xs l : List Int} {d : Int} (h : IsSh E xs l d) : isB E xs l d = true := by simp [isB, h]

set_option maxRecDepth 100000 in
set_option maxHeartbeats 4000000 in
theorem is_calls (w : World) (E : Int) (ao lo : Option Addr) (cap lcap : Nat) (xs l : List Int) (d : Int) (hI : IntsIn w ao xs) (hJ : IntsIn w lo l) (hl : xs.length ≤ 7) (hu : Upto 100000 xs) (hE : 0 ≤ E ∧ E ≤ 100000) (hll : l.length ≤ 1000000) :
    Calls Try.prog 60 #[.int .i64 E, .slice ao xs.length cap, .agg #[.slice lo l.length lcap, .int .i64 d]] w fun e w' => e = .returned (.bool (isB E xs l d)) ∧ Ext w w' := by
  have HU := Lib.hid hu
  clear hu
  go_enter Try.func60, Try.ntmps60
  by_cases h1 : 1 ≤ d
  · by_cases h2 : d ≤ 1000000
    · by_cases h3 : l.length = xs.length
      · have h3b : ((l.length : Int) != (xs.length : Int)) = false := by simp; omega
        have H3 := Lib.hid h3
        clear h3
        have hD1 : decide (d < 1) = false := by simp; omega
        have hD2 : decide (1000000 < d) = false := by simp; omega
        go_wp2_with fail
        obtain ⟨B, hB⟩ : ∃ B, B = w.heap.size := ⟨_, rfl⟩
        have hx1 : Ext w (w.alloc (Obj.cells #[.slice lo l.length lcap, .int .i64 d] 26)) := (by repeat (first | exact Ext.refl _ | assumption | refine Ext.alloc ?_ _ | refine Ext.drewN ?_ _ | refine Ext.drew ?_))
        have hc0 : (w.alloc (Obj.cells #[.slice lo l.length lcap, .int .i64 d] 26)).cell? ⟨B, 0, none⟩ = some (.slice lo l.length lcap) := by subst hB; simp [go_sem]
        have hc1 : (w.alloc (Obj.cells #[.slice lo l.length lcap, .int .i64 d] 26)).cell? ⟨B, 1, none⟩ = some (.int .i64 d) := by subst hB; simp [go_sem]
        have hBl : B < (w.alloc (Obj.cells #[.slice lo l.length lcap, .int .i64 d] 26)).heap.size := by simp [hB]
        generalize (w.alloc (Obj.cells #[.slice lo l.length lcap, .int .i64 d] 26)) = w1 at *
        rw [← hB]
        clear hB
        go_loopw [7, 31] (fun g i wr => ∃ k : Nat, k ≤ l.length ∧ i = .int .i64 k ∧ g = .int .i64 (gcdL d (l.take k)) ∧ Ext w1 wr ∧ Hid (∀ j, j < k → 0 ≤ ith l j ∧ ith l j ≤ ith xs j * d)) (fun _ i _ => l.length - (intOf i).toNat)
        case atStart => exact ⟨0, by omega, rfl, by rw [List.take_zero, gcdL_nil]; exact congrArg _ (by omega), Ext.refl _, Lib.hid (fun j hj => by omega)⟩
        case round =>
          obtain ⟨k, hk, rfl, rfl, hx, HX⟩ := hrel
          have hcr0 := (hx.cell (p := ⟨B, 0, none⟩) hBl).trans hc0
          have hcr1 := (hx.cell (p := ⟨B, 1, none⟩) hBl).trans hc1
          have hBr := Nat.lt_of_lt_of_le hBl hx.size
          have hxw := hx1.trans hx
          have hgb := gcdL_bounds (l.take k) (show 0 < d by omega)
          by_cases hlt : k < l.length
          · have hlx := H3.out
            obtain ⟨jb, jf, rfl, hjb, hjc⟩ := hJ.ext hxw k hlt
            obtain ⟨xb, xf, rfl, hxb, hxc⟩ := hI.ext hxw k (by omega)
            have hcx := HU.out.at_ k (by omega)
            have hpr : ith xs k * d ≤ 100000 * 1000000 := Int.mul_le_mul hcx.2 h2 (by omega) (by omega)
            have hpr0 : 0 ≤ ith xs k * d := Int.mul_nonneg hcx.1 (by omega)
            have hw1 : IntKind.i64.wrap (ith xs k * d) = ith xs k * d := by rw [IntKind.wrap_i64]; omega
            have hkx : (k : Int) < (xs.length : Int) := by omega
            have hkx2 : k < xs.length := by omega
            clear hlx
            have hq0 : (0 : Int) ≤ (k : Int) := by omega
            have hx0 := After.cell hxc hxb
            have hx2 := After.cell hcr1 hBr
            cases hd : decide (ith l k < 0) with
            | true =>
              go_wp2_with fail
              refine wp_region_after (by kernel_rfl) (by kernel_rfl) ?_
              intro hne
              repeat (go_big_quiet_step (fail))
              refine wpQuiet_nil ?_
              intro w3 hx3
              have hx4 := hxw.trans hx3
              have HN := Lib.hid (isB_no (E := E) (xs := xs) (l := l) (d := d) (fun h => by have := h.num k hkx2; simp at hd; omega))
              go_wp2_with fail
              go_ret
              exact ⟨ret_bool HN.out.symm, (by repeat (first | exact Ext.refl _ | assumption | refine Ext.alloc ?_ _ | refine Ext.drewN ?_ _ | refine Ext.drew ?_))⟩
            | false =>
              cases hd2 : decide (ith xs k * d < ith l k) with
              | true =>
                go_wp2_with fail
                refine wp_region_after (by kernel_rfl) (by kernel_rfl) ?_
                intro hne
                repeat (go_big_quiet_step (fail))
                refine wpQuiet_nil ?_
                intro w3 hx3
                have hx4 := hxw.trans hx3
                have HN := Lib.hid (isB_no (E := E) (xs := xs) (l := l) (d := d) (fun h => by have := h.num k hkx2; simp at hd2; omega))
                go_wp2_with fail
                go_ret
                exact ⟨ret_bool HN.out.symm, (by repeat (first | exact Ext.refl _ | assumption | refine Ext.alloc ?_ _ | refine Ext.drewN ?_ _ | refine Ext.drew ?_))⟩
              | false =>
                have hlk : 0 ≤ ith l k ∧ ith l k ≤ ith xs k * d := by simp at hd hd2; omega
                go_wp2_with fail
                refine wp_region_after (by kernel_rfl) (by kernel_rfl) ?_
                intro hne
                repeat (go_big_quiet_step (fail))
                refine wpQuiet_nil ?_
                intro w3 hx3
                clear hx0 hx2
                have HLK := Lib.hid hlk
                clear hlk
                go_wp2_with fail
                refine (gcd_calls _ _ _ (by omega) (by have := HLK.out; omega)).mono ?_
                rintro e w4 ⟨rfl, hx4⟩
                go_wp2_with fail
                refine ⟨⟨k + 1, by omega, rfl, ?_, (hx.trans hx3).trans hx4, Lib.hid (fun j hj => ?_)⟩, by simp only [intOf]; omega⟩
                · rw [gcdL_take d l k hlt]
                · rcases Nat.lt_or_ge j k with h | h
                  · exact HX.out j h
                  · rw [show j = k by omega]; exact HLK.out
          · obtain rfl : k = l.length := by omega
            rw [List.take_length] at hgb ⊢
            have hx0 := After.cell hcr0 hBr
            have hx2 := After.cell hcr1 hBr
            have hEd0 : 0 ≤ E * d := Int.mul_nonneg hE.1 (by omega)
            have hEd : E * d ≤ 100000 * 1000000 := Int.mul_le_mul hE.2 h2 (by omega) (by omega)
            have hw1 : IntKind.i64.wrap (E * d) = E * d := by rw [IntKind.wrap_i64]; omega
            cases hd : ((gcdL d l : Int) == 1) with
            | false =>
              go_wp2_with fail
              refine wp_region_after (by kernel_rfl) (by kernel_rfl) ?_
              intro hne
              repeat (go_big_quiet_step (fail))
              refine wpQuiet_nil ?_
              intro w3 hx3
              have hx4 := hxw.trans hx3
              have HN := Lib.hid (isB_no (E := E) (xs := xs) (l := l) (d := d) (fun h => by have := h.low; simp at hd; omega))
              go_wp2_with fail
              go_ret
              exact ⟨ret_bool HN.out.symm, (by repeat (first | exact Ext.refl _ | assumption | refine Ext.alloc ?_ _ | refine Ext.drewN ?_ _ | refine Ext.drew ?_))⟩
            | true =>
              have hlU : Upto 100000000000 l := by
                intro x hx
                obtain ⟨j, hj, rfl⟩ := List.getElem_of_mem hx
                have h4 := HX.out j hj
                have e : ith l j = l[j] := by simp [ith, hj]
                have hcx := HU.out.at_ j (by have := H3.out; omega)
                have hpr : ith xs j * d ≤ 100000 * 1000000 := Int.mul_le_mul hcx.2 h2 (by omega) (by omega)
                rw [← e]; omega
              have hsum := fun s : After wr => sum_calls s.at_ lo lcap l (hJ.ext (hxw.trans s.ext)) (hlU.sums (by have := H3.out; omega)) hll
              by_cases hs : isum l = E * d
              · have HY := Lib.hid (isB_yes (E := E) (xs := xs) (l := l) (d := d) ⟨⟨h1, h2⟩, H3.out, fun j hj => HX.out j (by have := H3.out; omega), by simp at hd; omega, hs⟩)
                have hsb : (isum l == E * d) = true := by simp [hs]
                clear hs hlU
                go_wp2_with fail
                refine wp_region_after (by kernel_rfl) (by kernel_rfl) ?_
                intro hne
                repeat (go_big_quiet_step ((go_at_call 54; exact Calls.after (hsum _))))
                refine wpQuiet_nil ?_
                intro w3 hx3
                have hx4 := hxw.trans hx3
                go_wp2_with fail
                go_ret
                exact ⟨ret_bool HY.out.symm, (by repeat (first | exact Ext.refl _ | assumption | refine Ext.alloc ?_ _ | refine Ext.drewN ?_ _ | refine Ext.drew ?_))⟩
              · have hsb : (isum l == E * d) = false := by simp [hs]
                have HS := Lib.hid hs
                clear hs hlU
                go_wp2_with fail
                refine wp_region_after (by kernel_rfl) (by kernel_rfl) ?_
                intro hne
                repeat (go_big_quiet_step ((go_at_call 54; exact Calls.after (hsum _))))
                refine wpQuiet_nil ?_
                intro w3 hx3
                have hx4 := hxw.trans hx3
                have HN := Lib.hid (isB_no (E := E) (xs := xs) (l := l) (d := d) (fun h => HS.out h.sum))
                go_wp2_with fail
                go_ret
                exact ⟨ret_bool HN.out.symm, (by repeat (first | exact Ext.refl _ | assumption | refine Ext.alloc ?_ _ | refine Ext.drewN ?_ _ | refine Ext.drew ?_))⟩
      · have h3b : ((l.length : Int) != (xs.length : Int)) = true := by simp; omega
        have H3 := Lib.hid h3
        clear h3
        have HN := Lib.hid (isB_no (E := E) (xs := xs) (l := l) (d := d) (fun h => H3.out h.len))
        go_wp2_with fail
        go_ret
        exact ⟨ret_bool HN.out.symm, (by repeat (first | exact Ext.refl _ | assumption | refine Ext.alloc ?_ _ | refine Ext.drewN ?_ _ | refine Ext.drew ?_))⟩
    · have HN := Lib.hid (isB_no (E := E) (xs := xs) (l := l) (d := d) (fun h => by have := h.den; omega))
      go_wp2_with fail
      go_ret
      exact ⟨ret_bool HN.out.symm, (by repeat (first | exact Ext.refl _ | assumption | refine Ext.alloc ?_ _ | refine Ext.drewN ?_ _ | refine Ext.drew ?_))⟩
  · have HN := Lib.hid (isB_no (E := E) (xs := xs) (l := l) (d := d) (fun h => by have := h.den; omega))
    go_wp2_with fail
    go_ret
    exact ⟨ret_bool HN.out.symm, (by repeat (first | exact Ext.refl _ | assumption | refine Ext.alloc ?_ _ | refine Ext.drewN ?_ _ | refine Ext.drew ?_))⟩
end Go.Proofs.Ytcngecibljgndaa

/- game and excesses: the walk. -/
namespace Go.Proofs.Ytcngecibljgndaa
open Go.RowKit Go.Shelf

/-- What is left when those outside the set have had their claims. -/
def leftP (E : Int) (xs : List Int) (s : Nat) : Nat → Int
  | 0 => E
  | k + 1 => leftP E xs s k - if s.testBit k = true then 0 else ith xs k
def gameP (E : Int) (xs : List Int) : List Int := (List.range (2 ^ xs.length)).map fun s => max (leftP E xs s xs.length) 0
theorem gameP_length (E : Int) (xs : List Int) : (gameP E xs).length = 2 ^ xs.length := by simp [gameP]
theorem leftP_bounds (E : Int) (xs : List Int) (hu : Upto 100000 xs) (s : Nat) : ∀ k, k ≤ xs.length → E - 100000 * k ≤ leftP E xs s k ∧ leftP E xs s k ≤ E
  | 0, _ => by simp [leftP]
  | k + 1, h => by
    have h1 := leftP_bounds E xs hu s k (by omega)
    have h2 := hu.at_ k (by omega)
    rw [leftP]
    split <;> omega
theorem bit_all : ∀ k : Fin 128, ∀ j : Fin 7, (bits BinOp.and IntKind.i64 (k.val : Int) (wrap64 (2 ^ j.val)) == 0) = !k.val.testBit j.val := by decide +kernel
theorem bit_test (k j : Nat) (hk : k < 128) (hj : j < 7) : (bits BinOp.and IntKind.i64 (k : Int) (wrap64 (2 ^ j)) == 0) = !k.testBit j := bit_all ⟨k, hk⟩ ⟨j, hj⟩
theorem leftP_in (E : Int) (xs : List Int) (s k : Nat) (h : s.testBit k = true) : leftP E xs s (k + 1) = leftP E xs s k := by rw [leftP, if_pos h]; omega
theorem leftP_out (E : Int) (xs : List Int) (s k : Nat) (h : s.testBit k = false) : leftP E xs s (k + 1) = leftP E xs s k - ith xs k := by rw [leftP, h]; rfl
set_option maxRecDepth 100000 in
set_option maxHeartbeats 1000000 in
theorem game_calls (w : World) (E : Int) (ao : Option Addr) (cap : Nat) (xs : List Int) (hI : IntsIn w ao xs) (hl : xs.length ≤ 7) (hu : Upto 100000 xs) (hE : 0 ≤ E ∧ E ≤ 100000) :
    Calls Try.prog 74 #[.int .i64 E, .slice ao xs.length cap] w (Made w (gameP E xs)) := by
  have HU := Lib.hid hu
  clear hu
  obtain ⟨i0, hi, hz0, hz1, hz2⟩ := info_parts info_int
  obtain ⟨W, hW⟩ : ∃ W, W ≤ w.heap.size ∧ w.heap.size ≤ W := ⟨_, Nat.le_refl _, Nat.le_refl _⟩
  obtain ⟨N, hN, HN, hNb⟩ : ∃ N : Nat, (2 : Int) ^ xs.length = N ∧ Hid (N = 2 ^ xs.length) ∧ N ≤ 128 := by
    refine ⟨2 ^ xs.length, by simp, Lib.hid rfl, ?_⟩
    have : 2 ^ xs.length ≤ 2 ^ 7 := Nat.pow_le_pow_right (by omega) hl
    omega
  go_enter Try.func74, Try.ntmps74
  go_wp2_with fail
  go_loopw [5, 13] (fun ov i wr => ∃ k : Nat, k ≤ N ∧ i = .int .i64 k ∧ Ext w wr ∧ Own wr W 1 ov (ints ((List.range k).map fun s => max (leftP E xs s xs.length) 0))) (fun _ i _ => N - (intOf i).toNat)
  case atStart => exact ⟨0, by omega, rfl, Ext.refl _, Own.nil _ _ _⟩
  case round =>
    obtain ⟨k, hk, rfl, hx, ho⟩ := hrel
    have hWr : W ≤ wr.heap.size := by have := hx.size; omega
    by_cases hlt : k < N
    · go_wp2_with fail
      go_loopw [7, 19] (fun lv i ws => ∃ j : Nat, j ≤ xs.length ∧ i = .int .i64 j ∧ lv = .int .i64 (leftP E xs k j) ∧ Ext wr ws) (fun _ i _ => xs.length - (intOf i).toNat)
      case atStart => exact ⟨0, by omega, rfl, rfl, Ext.refl _⟩
      case round =>
        obtain ⟨j, hj, rfl, rfl, hx2⟩ := hrel
        have hlb := leftP_bounds E xs HU.out k j hj
        by_cases hlt2 : j < xs.length
        · obtain ⟨b, off, rfl, hb, hc⟩ := hI.ext (hx.trans hx2) j hlt2
          have hxj := HU.out.at_ j hlt2
          have hbt := bit_test k j (by omega) (by omega)
          cases hb : k.testBit j with
          | true =>
            rw [hb, Bool.not_true] at hbt
            have HB := Lib.hid (leftP_in E xs k j hb)
            clear hb
            go_wp2_with fail
            exact ⟨⟨j + 1, by omega, rfl, by rw [HB.out], hx2⟩, by simp only [intOf]; omega⟩
          | false =>
            rw [hb, Bool.not_false] at hbt
            have HB := Lib.hid (leftP_out E xs k j hb)
            clear hb
            go_wp2_with fail
            exact ⟨⟨j + 1, by omega, rfl, by rw [HB.out], hx2⟩, by simp only [intOf]; omega⟩
        · obtain rfl : j = xs.length := by omega
          have hx3 := hx.trans hx2
          have ho3 := ho.ext hx2
          have hlow := ho3.lt
          have hs2 := hx2.size
          clear ho
          have hkl : ((List.range k).map fun s => max (leftP E xs s xs.length) 0).length = k := by simp
          by_cases h0 : 0 ≤ leftP E xs k xs.length
          · have hM : max (leftP E xs k xs.length) 0 = (leftP E xs k xs.length) := by omega
            have HM := Lib.hid hM
            go_wp2_with (at_builtin; refine wpList_append_Own _ rfl _ _ 22 rfl 3 i0 (.int .i64 0) 1 8 Try.underlying22 hi hz0 hz1 hz2 rfl (by omega) W _ _ rfl (Own.ext ho3 ((Ext.refl _).alloc _)) (by first | omega | (simp; omega)) _ 1 1 [.int .i64 ((leftP E xs k xs.length) : Int)] rfl rfl (one_cell _ _ _ _ (by first | rfl | simp)) (by simp [Value.oneCell']) (by rw [ints_length, hkl]; unfold maxLen; simp only [List.length_cons, List.length_nil]; omega) (by rw [ints_length, hkl]; simp only [List.length_cons, List.length_nil]; omega) ?_; intro v' w5 ho5 hg5 hb5)
            have e2 : ((List.range k).map fun s => max (leftP E xs s xs.length) 0) ++ [(leftP E xs k xs.length)] = (List.range (k + 1)).map fun s => max (leftP E xs s xs.length) 0 := by rw [range_snoc, HM.out]
            rw [ints_snoc, e2] at ho5
            exact ⟨⟨k + 1, by omega, rfl, (hx3.alloc _).onto hg5 (fun q hq => by have := (hlow q hq).1; omega), ho5⟩, by simp only [intOf]; omega⟩
          · have hM : max (leftP E xs k xs.length) 0 = 0 := by omega
            have HM := Lib.hid hM
            go_wp2_with (at_builtin; refine wpList_append_Own _ rfl _ _ 22 rfl 3 i0 (.int .i64 0) 1 8 Try.underlying22 hi hz0 hz1 hz2 rfl (by omega) W _ _ rfl (Own.ext ho3 ((Ext.refl _).alloc _)) (by first | omega | (simp; omega)) _ 1 1 [.int .i64 (0 : Int)] rfl rfl (one_cell _ _ _ _ (by first | rfl | simp)) (by simp [Value.oneCell']) (by rw [ints_length, hkl]; unfold maxLen; simp only [List.length_cons, List.length_nil]; omega) (by rw [ints_length, hkl]; simp only [List.length_cons, List.length_nil]; omega) ?_; intro v' w5 ho5 hg5 hb5)
            have e2 : ((List.range k).map fun s => max (leftP E xs s xs.length) 0) ++ [0] = (List.range (k + 1)).map fun s => max (leftP E xs s xs.length) 0 := by rw [range_snoc, HM.out]
            rw [ints_snoc, e2] at ho5
            exact ⟨⟨k + 1, by omega, rfl, (hx3.alloc _).onto hg5 (fun q hq => by have := (hlow q hq).1; omega), ho5⟩, by simp only [intOf]; omega⟩
    · obtain rfl : k = N := by omega
      go_wp2_with fail
      go_ret
      refine ⟨_, rfl, ?_, hx⟩
      rw [gameP, ← HN.out]
      exact ho.rebase hW.2

/-- A number, less those of a set. -/
def takeP (a : Int) (l : List Int) (s : Nat) : Nat → Int
  | 0 => a
  | k + 1 => takeP a l s k - if s.testBit k = true then ith l k else 0
theorem takeP_in (a : Int) (l : List Int) (s k : Nat) (h : s.testBit k = true) : takeP a l s (k + 1) = takeP a l s k - ith l k := by rw [takeP, if_pos h]
theorem takeP_out (a : Int) (l : List Int) (s k : Nat) (h : s.testBit k = false) : takeP a l s (k + 1) = takeP a l s k := by rw [takeP, h]; simp
theorem takeP_bounds (a : Int) (l : List Int) (hu : Upto 100000000000 l) (s : Nat) : ∀ k, k ≤ l.length → a - 100000000000 * k ≤ takeP a l s k ∧ takeP a l s k ≤ a
  | 0, _ => by simp [takeP]
  | k + 1, h => by
    have h1 := takeP_bounds a l hu s k (by omega)
    have h2 := hu.at_ k (by omega)
    rw [takeP]
    split <;> omega
def excP (E : Int) (xs l : List Int) (d : Int) : List Int := (List.range (2 ^ xs.length - 2)).map fun s => takeP (ith (gameP E xs) (s + 1) * d) l (s + 1) l.length
theorem gameP_at (E : Int) (xs : List Int) (hu : Upto 100000 xs) (hE : 0 ≤ E ∧ E ≤ 100000) (s : Nat) (h : s < 2 ^ xs.length) : 0 ≤ ith (gameP E xs) s ∧ ith (gameP E xs) s ≤ 100000 := by
  have := leftP_bounds E xs hu s xs.length (Nat.le_refl _)
  rw [gameP, ith_map_range _ _ _ h]
  omega

set_option maxRecDepth 100000 in
set_option maxHeartbeats 1000000 in
theorem excesses_calls (w : World) (E : Int) (ao lo : Option Addr) (cap lcap : Nat) (xs l : List Int) (d : Int) (hI : IntsIn w ao xs) (hJ : IntsIn w lo l) (hP : IsProb E xs) (hS : IsSh E xs l d) :
    Calls Try.prog 61 #[.int .i64 E, .slice ao xs.length cap, .agg #[.slice lo l.length lcap, .int .i64 d]] w (Made w (excP E xs l d)) := by
  have hd := hS.den
  have hE := hP.estate
  have hl := hP.seven
  have hl1 := hP.one
  have hlen := Lib.hid hS.len
  have hll : l.length ≤ 7 := by rw [hS.len]; exact hl
  have HL : Hid (Upto 100000000000 l) := by
    refine Lib.hid (fun x hx => ?_)
    obtain ⟨j, hj, rfl⟩ := List.getElem_of_mem hx
    have h4 := hS.num j (by have := hS.len; omega)
    have e : ith l j = l[j] := by simp [ith, hj]
    have hcx := hP.claims.at_ j (by have := hS.len; omega)
    have hpr : ith xs j * d ≤ 100000 * 1000000 := Int.mul_le_mul hcx.2 hd.2 (by omega) (by omega)
    rw [← e]; omega
  have HP := Lib.hid hP
  clear hP hS
  obtain ⟨i0, hi, hz0, hz1, hz2⟩ := info_parts info_int
  obtain ⟨N, HN, hNb, hN2⟩ : ∃ N : Nat, Hid (N = 2 ^ xs.length) ∧ N ≤ 128 ∧ 2 ≤ N := by
    refine ⟨2 ^ xs.length, Lib.hid rfl, ?_, ?_⟩
    · have : 2 ^ xs.length ≤ 2 ^ 7 := Nat.pow_le_pow_right (by omega) hl
      omega
    · have : 2 ^ 1 ≤ 2 ^ xs.length := Nat.pow_le_pow_right (by omega) hl1
      omega
  go_enter Try.func61, Try.ntmps61
  go_wp2_with fail
  obtain ⟨B, hB⟩ : ∃ B, B = w.heap.size := ⟨_, rfl⟩
  have hx1 : Ext w (w.alloc (Obj.cells #[.slice lo l.length lcap, .int .i64 d] 26)) := (by repeat (first | exact Ext.refl _ | assumption | refine Ext.alloc ?_ _ | refine Ext.drewN ?_ _ | refine Ext.drew ?_))
  have hc0 : (w.alloc (Obj.cells #[.slice lo l.length lcap, .int .i64 d] 26)).cell? ⟨B, 0, none⟩ = some (.slice lo l.length lcap) := by subst hB; simp [go_sem]
  have hc1 : (w.alloc (Obj.cells #[.slice lo l.length lcap, .int .i64 d] 26)).cell? ⟨B, 1, none⟩ = some (.int .i64 d) := by subst hB; simp [go_sem]
  have hBl : B < (w.alloc (Obj.cells #[.slice lo l.length lcap, .int .i64 d] 26)).heap.size := by simp [hB]
  generalize (w.alloc (Obj.cells #[.slice lo l.length lcap, .int .i64 d] 26)) = w1 at *
  rw [← hB]
  clear hB
  refine (game_calls w1 E ao cap xs (hI.ext hx1) hl HP.out.claims hE).mono ?_
  rintro e w2 ⟨v, rfl, hov, hx2⟩
  have hx02 := hx1.trans hx2
  obtain ⟨W, hW⟩ : ∃ W, W ≤ w2.heap.size ∧ w2.heap.size ≤ W := ⟨_, Nat.le_refl _, Nat.le_refl _⟩
  obtain ⟨vo, vc, rfl, hV, -⟩ := hov.intsShape
  have hvl := gameP_length E xs
  rw [← HN.out] at hvl
  clear hov
  have HG : Hid (∀ s, s < N → 0 ≤ ith (gameP E xs) s ∧ ith (gameP E xs) s ≤ 100000) := Lib.hid (fun s h => gameP_at E xs HP.out.claims hE s (by rw [← HN.out]; exact h))
  obtain ⟨vs, hvs⟩ : ∃ vs, vs = gameP E xs := ⟨_, rfl⟩
  rw [← hvs] at hV hvl HG ⊢
  have HVS := Lib.hid hvs
  clear hvs
  rw [hvl]
  have hV' : ∀ k, k < N → ∃ b off, vo = some ⟨b, off, none⟩ ∧ b < w2.heap.size ∧ w2.cell? ⟨b, off + k, none⟩ = some (.int .i64 (ith vs k)) := fun k hk => hV k (by omega)
  clear hvl hV
  go_wp2_with fail
  go_loopw [8, 9] (fun ov i wr => ∃ k : Nat, k + 2 ≤ N ∧ i = .int .i64 ((k : Int) + 1) ∧ Ext w2 wr ∧ Own wr W 1 ov (ints ((List.range k).map fun s => takeP (ith vs (s + 1) * d) l (s + 1) l.length))) (fun _ i _ => N - (intOf i).toNat)
  case atStart => exact ⟨0, by omega, rfl, Ext.refl _, Own.nil _ _ _⟩
  case round =>
    obtain ⟨k, hk, rfl, hx, ho⟩ := hrel
    have hWr : W ≤ wr.heap.size := by have := hx.size; omega
    by_cases hlt : k + 2 < N
    · obtain ⟨vb, voff, rfl, hvb, hvc⟩ := hV' (k + 1) (by omega)
      replace hvc := (hx.cell (p := ⟨vb, voff + (k + 1), none⟩) hvb).trans hvc
      have hg := HG.out (k + 1) (by omega)
      have hcr0 := (hx.cell (p := ⟨B, 0, none⟩) (Nat.lt_of_lt_of_le hBl hx2.size)).trans ((hx2.cell (p := ⟨B, 0, none⟩) hBl).trans hc0)
      have hcr1 := (hx.cell (p := ⟨B, 1, none⟩) (Nat.lt_of_lt_of_le hBl hx2.size)).trans ((hx2.cell (p := ⟨B, 1, none⟩) hBl).trans hc1)
      have hpr : ith vs (k + 1) * d ≤ 100000 * 1000000 := Int.mul_le_mul hg.2 hd.2 (by omega) (by omega)
      have hpr0 : 0 ≤ ith vs (k + 1) * d := Int.mul_nonneg hg.1 (by omega)
      have hw1 : IntKind.i64.wrap (ith vs (k + 1) * d) = ith vs (k + 1) * d := by rw [IntKind.wrap_i64]; omega
      have hk1 : (0 : Int) ≤ (k : Int) + 1 := by omega
      have hk2 : (k : Int) + 1 < (N : Int) := by omega
      have hk3 : decide ((k : Int) + 1 < (N : Int) - 1) = true := by simp; omega
      have hk4 : ((k : Int) + 1).toNat = k + 1 := by omega
      go_wp2_with fail
      go_region
      have hcd0 := (show (wr.drew).cell? ⟨B, 0, none⟩ = some (.slice lo l.length lcap) from hcr0)
      have hx3 : Ext wr wr.drew := (by repeat (first | exact Ext.refl _ | assumption | refine Ext.alloc ?_ _ | refine Ext.drewN ?_ _ | refine Ext.drew ?_))
      generalize wr.drew = w3 at *
      clear hcr0 hcr1 hvc hk1 hk2 hk4 hV'
      go_wp2_with fail
      go_loopw [10, 33] (fun nv i ws => ∃ j : Nat, j ≤ l.length ∧ i = .int .i64 j ∧ nv = .int .i64 (takeP (ith vs (k + 1) * d) l (k + 1) j) ∧ Ext w3 ws) (fun _ i _ => l.length - (intOf i).toNat)
      case atStart => exact ⟨0, by omega, rfl, rfl, Ext.refl _⟩
      case round =>
        rename World => ws
        obtain ⟨j, hj, rfl, rfl, hx4⟩ := hrel
        have htb := takeP_bounds (ith vs (k + 1) * d) l HL.out (k + 1) j hj
        by_cases hlt2 : j < l.length
        · obtain ⟨lb, lf, rfl, hlb, hlc⟩ := hJ.ext (((hx02.trans hx).trans hx3).trans hx4) j hlt2
          have hlj := HL.out.at_ j hlt2
          have hbt : (bits BinOp.and IntKind.i64 ((k : Int) + 1) (wrap64 (2 ^ j)) == 0) = !(k + 1).testBit j := by
            have := bit_test (k + 1) j (by omega) (by omega)
            simpa using this
          have hbn : (bits BinOp.and IntKind.i64 ((k : Int) + 1) (wrap64 (2 ^ j)) != 0) = (k + 1).testBit j := by
            rw [bne, hbt, Bool.not_not]
          clear hbt
          cases hb : (k + 1).testBit j with
          | true =>
            rw [hb] at hbn
            have HB := Lib.hid (takeP_in (ith vs (k + 1) * d) l (k + 1) j hb)
            clear hb
            go_wp2_with fail
            exact ⟨⟨j + 1, by omega, rfl, by rw [HB.out], hx4⟩, by simp only [intOf]; omega⟩
          | false =>
            rw [hb] at hbn
            have HB := Lib.hid (takeP_out (ith vs (k + 1) * d) l (k + 1) j hb)
            clear hb
            go_wp2_with fail
            exact ⟨⟨j + 1, by omega, rfl, by rw [HB.out], hx4⟩, by simp only [intOf]; omega⟩
        · obtain rfl : j = l.length := by omega
          have hx5 := hx3.trans hx4
          have ho3 := ho.ext hx5
          have hlow := ho3.lt
          have hs2 := hx5.size
          clear ho
          have hkl : ((List.range k).map fun s => takeP (ith vs (s + 1) * d) l (s + 1) l.length).length = k := by simp
          go_wp2_with (at_builtin; refine wpList_append_Own _ rfl _ _ 22 rfl 3 i0 (.int .i64 0) 1 8 Try.underlying22 hi hz0 hz1 hz2 rfl (by omega) W _ _ rfl (Own.ext ho3 ((Ext.refl _).alloc _)) (by first | omega | (simp; omega)) _ 1 1 [.int .i64 ((takeP (ith vs (k + 1) * d) l (k + 1) l.length) : Int)] rfl rfl (one_cell _ _ _ _ (by first | rfl | simp)) (by simp [Value.oneCell']) (by rw [ints_length, hkl]; unfold maxLen; simp only [List.length_cons, List.length_nil]; omega) (by rw [ints_length, hkl]; simp only [List.length_cons, List.length_nil]; omega) ?_; intro v' w5 ho5 hg5 hb5)
          rw [ints_snoc, ← range_snoc (fun s => takeP (ith vs (s + 1) * d) l (s + 1) l.length)] at ho5
          exact ⟨⟨k + 1, by omega, by simp, ((hx.trans hx5).alloc _).onto hg5 (fun q hq => by have := (hlow q hq).1; omega), ho5⟩, by simp only [intOf]; omega⟩
    · obtain rfl : N = k + 2 := by omega
      have hk3 : decide ((k : Int) + 1 < ((k + 2 : Nat) : Int) - 1) = false := by simp; omega
      go_wp2_with fail
      go_ret
      refine ⟨_, rfl, ?_, hx02.trans hx⟩
      have e : excP E xs l d = (List.range k).map fun s => takeP (ith vs (s + 1) * d) l (s + 1) l.length := by
        rw [excP, ← HN.out, ← HVS.out]
        simp
      rw [e]
      exact ho.rebase (Nat.le_trans hx02.size hW.2)
end Go.Proofs.Ytcngecibljgndaa
