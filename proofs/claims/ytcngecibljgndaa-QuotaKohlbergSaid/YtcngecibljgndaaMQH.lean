/- is: the walk. -/
import Derived.Test.YtcngecibljgndaaMQG
namespace Go.Proofs.Ytcngecibljgndaa
open Go.RowKit Go.Shelf

/-- Are numbers over a divisor shares? -/
structure IsSh (E : Int) (xs l : List Int) (d : Int) : Prop where
  den : 1 ≤ d ∧ d ≤ 1000000
  len : l.length = xs.length
  num : ∀ k, k < xs.length → 0 ≤ ith l k ∧ ith l k ≤ ith xs k * d
  low : gcdL d l = 1
  sum : isum l = E * d
instance (E : Int) (xs l : List Int) (d : Int) : Decidable (IsSh E xs l d) :=
  decidable_of_iff ((1 ≤ d ∧ d ≤ 1000000) ∧ l.length = xs.length ∧ (∀ k, k < xs.length → 0 ≤ ith l k ∧ ith l k ≤ ith xs k * d) ∧ gcdL d l = 1 ∧ isum l = E * d)
    ⟨fun ⟨a, b, c, e, f⟩ => ⟨a, b, c, e, f⟩, fun ⟨a, b, c, e, f⟩ => ⟨a, b, c, e, f⟩⟩
def isB (E : Int) (xs l : List Int) (d : Int) : Bool := decide (IsSh E xs l d)
theorem isB_no {E : Int} {xs l : List Int} {d : Int} (h : ¬ IsSh E xs l d) : isB E xs l d = false := by simp [isB, h]
theorem isB_yes {E : Int} {xs l : List Int} {d : Int} (h : IsSh E xs l d) : isB E xs l d = true := by simp [isB, h]

theorem Calls.after_eq {P : Program} {f : FuncId} {args : Array Value} {w : World} {s : After w} {v u : Value} (hv : v = u) (h : Calls P f args s.at_ fun e w' => e = .returned v ∧ Ext s.at_ w') :
    Calls P f args s.at_ fun e w'' => e = .returned u ∧ ∃ s' : After w, w'' = s'.at_ := by subst hv; exact Calls.after h
set_option maxRecDepth 100000 in
set_option maxHeartbeats 4000000 in
theorem is_calls (w : World) (E : Int) (ao lo : Option Addr) (cap lcap : Nat) (xs l : List Int) (d : Int) (hI : IntsIn w ao xs) (hJ : IntsIn w lo l) (hl : xs.length ≤ 7) (hu : Upto 100000 xs) (hE : 0 ≤ E ∧ E ≤ 100000) (hll : l.length ≤ 1000000) :
    Calls Try.prog 60 #[.int .i64 E, .slice ao xs.length cap, .agg #[.slice lo l.length lcap, .int .i64 d]] w fun e w' => e = .returned (.bool (isB E xs l d)) ∧ Ext w w' := by
  have HU := Lib.hid hu
  clear hu
  go_enter Try.func60, Try.ntmps60
  by_cases h1 : 1 ≤ d
  · by_cases h2 : d ≤ 1000000
    · by_cases h3 : l.length = xs.length
      · have h3b : ((l.length : Int) != (xs.length : Int)) = false := by simp; omega
        have H3 := Lib.hid h3
        clear h3
        have hD1 : decide (d < 1) = false := by simp; omega
        have hD2 : decide (1000000 < d) = false := by simp; omega
        go_wp2_with fail
        obtain ⟨B, hB⟩ : ∃ B, B = w.heap.size := ⟨_, rfl⟩
        have hx1 : Ext w (w.alloc (Obj.cells #[.slice lo l.length lcap, .int .i64 d] 26)) := (by repeat (first | exact Ext.refl _ | assumption | refine Ext.alloc ?_ _ | refine Ext.drewN ?_ _ | refine Ext.drew ?_))
        have hc0 : (w.alloc (Obj.cells #[.slice lo l.length lcap, .int .i64 d] 26)).cell? ⟨B, 0, none⟩ = some (.slice lo l.length lcap) := by subst hB; simp [go_sem]
        have hc1 : (w.alloc (Obj.cells #[.slice lo l.length lcap, .int .i64 d] 26)).cell? ⟨B, 1, none⟩ = some (.int .i64 d) := by subst hB; simp [go_sem]
        have hBl : B < (w.alloc (Obj.cells #[.slice lo l.length lcap, .int .i64 d] 26)).heap.size := by simp [hB]
        generalize (w.alloc (Obj.cells #[.slice lo l.length lcap, .int .i64 d] 26)) = w1 at *
        rw [← hB]
        clear hB
        go_loopw [7, 31] (fun g i wr => ∃ k : Nat, k ≤ l.length ∧ i = .int .i64 k ∧ g = .int .i64 (gcdL d (l.take k)) ∧ Ext w1 wr ∧ Hid (∀ j, j < k → 0 ≤ ith l j ∧ ith l j ≤ ith xs j * d)) (fun _ i _ => l.length - (intOf i).toNat)
        case atStart => exact ⟨0, by omega, rfl, by rw [List.take_zero, gcdL_nil]; exact congrArg _ (by omega), Ext.refl _, Lib.hid (fun j hj => by omega)⟩
        case round =>
          obtain ⟨k, hk, rfl, rfl, hx, HX⟩ := hrel
          have hcr0 := (hx.cell (p := ⟨B, 0, none⟩) hBl).trans hc0
          have hcr1 := (hx.cell (p := ⟨B, 1, none⟩) hBl).trans hc1
          have hBr := Nat.lt_of_lt_of_le hBl hx.size
          have hxw := hx1.trans hx
          have hgb := gcdL_bounds (l.take k) (show 0 < d by omega)
          by_cases hlt : k < l.length
          · have hlx := H3.out
            obtain ⟨jb, jf, rfl, hjb, hjc⟩ := hJ.ext hxw k hlt
            obtain ⟨xb, xf, rfl, hxb, hxc⟩ := hI.ext hxw k (by omega)
            have hcx := HU.out.at_ k (by omega)
            have hpr : ith xs k * d ≤ 100000 * 1000000 := Int.mul_le_mul hcx.2 h2 (by omega) (by omega)
            have hpr0 : 0 ≤ ith xs k * d := Int.mul_nonneg hcx.1 (by omega)
            have hw1 : IntKind.i64.wrap (ith xs k * d) = ith xs k * d := by rw [IntKind.wrap_i64]; omega
            have hkx : (k : Int) < (xs.length : Int) := by omega
            have hkx2 : k < xs.length := by omega
            clear hlx
            have hq0 : (0 : Int) ≤ (k : Int) := by omega
            have hx0 := After.cell hxc hxb
            have hx2 := After.cell hcr1 hBr
            cases hd : decide (ith l k < 0) with
            | true =>
              go_wp2_with fail
              refine wp_region_after (by kernel_rfl) (by kernel_rfl) ?_
              intro hne
              repeat (go_big_quiet_step (fail))
              refine wpQuiet_nil ?_
              intro w3 hx3
              have hx4 := hxw.trans hx3
              have HN := Lib.hid (isB_no (E := E) (xs := xs) (l := l) (d := d) (fun h => by have := h.num k hkx2; simp at hd; omega))
              go_wp2_with fail
              go_ret
              exact ⟨ret_bool HN.out.symm, (by repeat (first | exact Ext.refl _ | assumption | refine Ext.alloc ?_ _ | refine Ext.drewN ?_ _ | refine Ext.drew ?_))⟩
            | false =>
              cases hd2 : decide (ith xs k * d < ith l k) with
              | true =>
                go_wp2_with fail
                refine wp_region_after (by kernel_rfl) (by kernel_rfl) ?_
                intro hne
                repeat (go_big_quiet_step (fail))
                refine wpQuiet_nil ?_
                intro w3 hx3
                have hx4 := hxw.trans hx3
                have HN := Lib.hid (isB_no (E := E) (xs := xs) (l := l) (d := d) (fun h => by have := h.num k hkx2; simp at hd2; omega))
                go_wp2_with fail
                go_ret
                exact ⟨ret_bool HN.out.symm, (by repeat (first | exact Ext.refl _ | assumption | refine Ext.alloc ?_ _ | refine Ext.drewN ?_ _ | refine Ext.drew ?_))⟩
              | false =>
                have hlk : 0 ≤ ith l k ∧ ith l k ≤ ith xs k * d := by simp at hd hd2; omega
                go_wp2_with fail
                refine wp_region_after (by kernel_rfl) (by kernel_rfl) ?_
                intro hne
                repeat (go_big_quiet_step (fail))
                refine wpQuiet_nil ?_
                intro w3 hx3
                clear hx0 hx2
                have HLK := Lib.hid hlk
                clear hlk
                go_wp2_with fail
                refine (gcd_calls _ _ _ (by omega) (by have := HLK.out; omega)).mono ?_
                rintro e w4 ⟨rfl, hx4⟩
                go_wp2_with fail
                refine ⟨⟨k + 1, by omega, rfl, ?_, (hx.trans hx3).trans hx4, Lib.hid (fun j hj => ?_)⟩, by simp only [intOf]; omega⟩
                · rw [gcdL_take d l k hlt]
                · rcases Nat.lt_or_ge j k with h | h
                  · exact HX.out j h
                  · rw [show j = k by omega]; exact HLK.out
          · obtain rfl : k = l.length := by omega
            rw [List.take_length] at hgb ⊢
            have hx0 := After.cell hcr0 hBr
            have hx2 := After.cell hcr1 hBr
            have hEd0 : 0 ≤ E * d := Int.mul_nonneg hE.1 (by omega)
            have hEd : E * d ≤ 100000 * 1000000 := Int.mul_le_mul hE.2 h2 (by omega) (by omega)
            have hw1 : IntKind.i64.wrap (E * d) = E * d := by rw [IntKind.wrap_i64]; omega
            cases hd : ((gcdL d l : Int) == 1) with
            | false =>
              go_wp2_with fail
              refine wp_region_after (by kernel_rfl) (by kernel_rfl) ?_
              intro hne
              repeat (go_big_quiet_step (fail))
              refine wpQuiet_nil ?_
              intro w3 hx3
              have hx4 := hxw.trans hx3
              have HN := Lib.hid (isB_no (E := E) (xs := xs) (l := l) (d := d) (fun h => by have := h.low; simp at hd; omega))
              go_wp2_with fail
              go_ret
              exact ⟨ret_bool HN.out.symm, (by repeat (first | exact Ext.refl _ | assumption | refine Ext.alloc ?_ _ | refine Ext.drewN ?_ _ | refine Ext.drew ?_))⟩
            | true =>
              have hlU : Upto 100000000000 l := by
                intro x hx
                obtain ⟨j, hj, rfl⟩ := List.getElem_of_mem hx
                have h4 := HX.out j hj
                have e : ith l j = l[j] := by simp [ith, hj]
                have hcx := HU.out.at_ j (by have := H3.out; omega)
                have hpr : ith xs j * d ≤ 100000 * 1000000 := Int.mul_le_mul hcx.2 h2 (by omega) (by omega)
                rw [← e]; omega
              have hsum := fun s : After wr => sum_calls s.at_ lo lcap l (hJ.ext (hxw.trans s.ext)) (hlU.sums (by have := H3.out; omega)) hll
              by_cases hs : isum l = E * d
              · have HY := Lib.hid (isB_yes (E := E) (xs := xs) (l := l) (d := d) ⟨⟨h1, h2⟩, H3.out, fun j hj => HX.out j (by have := H3.out; omega), by simp at hd; omega, hs⟩)
                have hsb : (isum l == E * d) = true := by simp [hs]
                clear hs hlU
                go_wp2_with fail
                refine wp_region_after (by kernel_rfl) (by kernel_rfl) ?_
                intro hne
                repeat (go_big_quiet_step ((go_at_call 54; exact Calls.after (hsum _))))
                refine wpQuiet_nil ?_
                intro w3 hx3
                have hx4 := hxw.trans hx3
                go_wp2_with fail
                go_ret
                exact ⟨ret_bool HY.out.symm, (by repeat (first | exact Ext.refl _ | assumption | refine Ext.alloc ?_ _ | refine Ext.drewN ?_ _ | refine Ext.drew ?_))⟩
              · have hsb : (isum l == E * d) = false := by simp [hs]
                have HS := Lib.hid hs
                clear hs hlU
                go_wp2_with fail
                refine wp_region_after (by kernel_rfl) (by kernel_rfl) ?_
                intro hne
                repeat (go_big_quiet_step ((go_at_call 54; exact Calls.after (hsum _))))
                refine wpQuiet_nil ?_
                intro w3 hx3
                have hx4 := hxw.trans hx3
                have HN := Lib.hid (isB_no (E := E) (xs := xs) (l := l) (d := d) (fun h => HS.out h.sum))
                go_wp2_with fail
                go_ret
                exact ⟨ret_bool HN.out.symm, (by repeat (first | exact Ext.refl _ | assumption | refine Ext.alloc ?_ _ | refine Ext.drewN ?_ _ | refine Ext.drew ?_))⟩
      · have h3b : ((l.length : Int) != (xs.length : Int)) = true := by simp; omega
        have H3 := Lib.hid h3
        clear h3
        have HN := Lib.hid (isB_no (E := E) (xs := xs) (l := l) (d := d) (fun h => H3.out h.len))
        go_wp2_with fail
        go_ret
        exact ⟨ret_bool HN.out.symm, (by repeat (first | exact Ext.refl _ | assumption | refine Ext.alloc ?_ _ | refine Ext.drewN ?_ _ | refine Ext.drew ?_))⟩
    · have HN := Lib.hid (isB_no (E := E) (xs := xs) (l := l) (d := d) (fun h => by have := h.den; omega))
      go_wp2_with fail
      go_ret
      exact ⟨ret_bool HN.out.symm, (by repeat (first | exact Ext.refl _ | assumption | refine Ext.alloc ?_ _ | refine Ext.drewN ?_ _ | refine Ext.drew ?_))⟩
  · have HN := Lib.hid (isB_no (E := E) (xs := xs) (l := l) (d := d) (fun h => by have := h.den; omega))
    go_wp2_with fail
    go_ret
    exact ⟨ret_bool HN.out.symm, (by repeat (first | exact Ext.refl _ | assumption | refine Ext.alloc ?_ _ | refine Ext.drewN ?_ _ | refine Ext.drew ?_))⟩
end Go.Proofs.Ytcngecibljgndaa
