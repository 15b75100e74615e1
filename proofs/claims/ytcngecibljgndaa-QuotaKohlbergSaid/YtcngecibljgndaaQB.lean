/- scaled, less, lowest, Clone: lists that are made anew. -/
import Derived.Test.YtcngecibljgndaaQA
namespace Go.Proofs.Ytcngecibljgndaa
open Go.RowKit Go.Shelf

/-- A call hands back a list of its own. -/
def Made (w : World) (xs : List Int) (e : Ending) (w' : World) : Prop := ∃ v, e = .returned v ∧ Own w' w.heap.size 1 v (ints xs) ∧ Ext w w'

theorem map_snoc {α : Type} (f : Int → α) (xs : List Int) (k : Nat) (h : k < xs.length) : (xs.take (k + 1)).map f = (xs.take k).map f ++ [f (ith xs k)] := by
  rw [take_snoc xs k h]; simp

set_option maxRecDepth 100000 in
theorem scaled_calls (w : World) (ao : Option Addr) (cap : Nat) (xs : List Int) (c : Int) (hI : IntsIn w ao xs) (hl : xs.length ≤ 1000000)
    (hb : ∀ k, k < xs.length → -9223372036854775808 ≤ ith xs k * c ∧ ith xs k * c ≤ 9223372036854775807) :
    Calls Try.prog 56 #[.slice ao xs.length cap, .int .i64 c] w (Made w (xs.map (· * c))) := by
  have HB := Lib.hid hb
  clear hb
  obtain ⟨i0, hi, hz0, hz1, hz2⟩ := info_parts info_int
  obtain ⟨W, hW⟩ : ∃ W, W = w.heap.size := ⟨_, rfl⟩
  go_enter Try.func56, Try.ntmps56
  go_wp2_with fail
  go_loopw [5, 10] (fun ov i wr => ∃ k : Nat, k ≤ xs.length ∧ i = .int .i64 k ∧ Ext w wr ∧ Own wr W 1 ov (ints ((xs.take k).map (· * c)))) (fun _ i _ => xs.length - (intOf i).toNat)
  case atStart => exact ⟨0, by omega, rfl, Ext.refl _, Own.nil _ _ _⟩
  case round =>
    obtain ⟨k, hk, rfl, hx, ho⟩ := hrel
    have hWr : W ≤ wr.heap.size := by rw [hW]; exact hx.size
    by_cases hlt : k < xs.length
    · obtain ⟨b, off, rfl, hb, hc⟩ := hI.ext hx k hlt
      have h1 := HB.out k hlt
      have hkl : ((xs.take k).map (· * c)).length = k := by simp; omega
      have hlow := ho.lt
      go_wp2_with (at_builtin; refine wpList_append_Own _ rfl _ _ 22 rfl 3 i0 (.int .i64 0) 1 8 Try.underlying22 hi hz0 hz1 hz2 rfl (by omega) W _ _ rfl (Own.ext ho ((Ext.refl _).alloc _)) (by simp; omega) _ 1 1 [.int .i64 ((ith xs k * c) : Int)] rfl rfl (one_cell _ _ _ _ (by simp)) (by simp [Value.oneCell']) (by simp [ints_length]; unfold maxLen; omega) (by simp [ints_length]; omega) ?_; intro v' w5 ho5 hg5 hb5)
      rw [ints_snoc, ← map_snoc (· * c) xs k hlt] at ho5
      refine ⟨⟨k + 1, by omega, rfl, ((hx.alloc _).onto hg5 (fun q hq => by have := (hlow q hq).1; omega)), ho5⟩, by simp only [intOf]; omega⟩
    · obtain rfl : k = xs.length := by omega
      rw [List.take_length] at ho
      go_wp2_with fail
      go_ret
      exact ⟨_, rfl, by rw [← hW]; exact ho, hx⟩

/-- What is left of claims, times a number, by numbers. -/
def lessOf (xs : List Int) (c : Int) (l : List Int) : List Int := (List.range xs.length).map fun k => ith xs k * c - ith l k
theorem range_snoc {α : Type} (f : Nat → α) (k : Nat) : (List.range (k + 1)).map f = (List.range k).map f ++ [f k] := by simp [List.range_succ]

set_option maxRecDepth 100000 in
theorem less_calls (w : World) (ao bo : Option Addr) (cap cap2 : Nat) (xs l : List Int) (c : Int) (hI : IntsIn w ao xs) (hJ : IntsIn w bo l) (hl : xs.length ≤ 1000000) (hll : l.length = xs.length)
    (hb : ∀ k, k < xs.length → (-4611686018427387904 ≤ ith xs k * c ∧ ith xs k * c ≤ 4611686018427387904) ∧ (-4611686018427387903 ≤ ith l k ∧ ith l k ≤ 4611686018427387903)) :
    Calls Try.prog 55 #[.slice ao xs.length cap, .int .i64 c, .slice bo xs.length cap2] w (Made w (lessOf xs c l)) := by
  have HB := Lib.hid hb
  clear hb
  obtain ⟨i0, hi, hz0, hz1, hz2⟩ := info_parts info_int
  obtain ⟨W, hW⟩ : ∃ W, W = w.heap.size := ⟨_, rfl⟩
  go_enter Try.func55, Try.ntmps55
  go_wp2_with fail
  go_loopw [7, 12] (fun ov i wr => ∃ k : Nat, k ≤ xs.length ∧ i = .int .i64 k ∧ Ext w wr ∧ Own wr W 1 ov (ints ((List.range k).map fun k => ith xs k * c - ith l k))) (fun _ i _ => xs.length - (intOf i).toNat)
  case atStart => exact ⟨0, by omega, rfl, Ext.refl _, Own.nil _ _ _⟩
  case round =>
    obtain ⟨k, hk, rfl, hx, ho⟩ := hrel
    have hWr : W ≤ wr.heap.size := by rw [hW]; exact hx.size
    by_cases hlt : k < xs.length
    · obtain ⟨b, off, rfl, hb, hc⟩ := hI.ext hx k hlt
      obtain ⟨b2, off2, rfl, hb2, hc2⟩ := hJ.ext hx k (by omega)
      have h1 := HB.out k hlt
      have hlow := ho.lt
      go_wp2_with (at_builtin; refine wpList_append_Own _ rfl _ _ 22 rfl 3 i0 (.int .i64 0) 1 8 Try.underlying22 hi hz0 hz1 hz2 rfl (by omega) W _ _ rfl (Own.ext ho ((Ext.refl _).alloc _)) (by simp; omega) _ 1 1 [.int .i64 ((ith xs k * c - ith l k) : Int)] rfl rfl (one_cell _ _ _ _ (by simp)) (by simp [Value.oneCell']) (by simp [ints_length]; unfold maxLen; omega) (by simp [ints_length]; omega) ?_; intro v' w5 ho5 hg5 hb5)
      rw [ints_snoc, ← range_snoc (fun k => ith xs k * c - ith l k)] at ho5
      refine ⟨⟨k + 1, by omega, rfl, ((hx.alloc _).onto hg5 (fun q hq => by have := (hlow q hq).1; omega)), ho5⟩, by simp only [intOf]; omega⟩
    · obtain rfl : k = xs.length := by omega
      go_wp2_with fail
      go_ret
      exact ⟨_, rfl, by rw [← hW]; exact ho, hx⟩

/-- The greatest common divisor of a divisor and numbers. -/
def gcdL (den : Int) (xs : List Int) : Nat := xs.foldl (fun g n => Int.gcd g n) den.natAbs
theorem gcdL_nil (den : Int) : gcdL den [] = den.natAbs := rfl
theorem gcdL_snoc (den : Int) (xs : List Int) (x : Int) : gcdL den (xs ++ [x]) = Int.gcd (gcdL den xs) x := by simp [gcdL, List.foldl_append]
theorem gcdL_take (den : Int) (xs : List Int) (k : Nat) (h : k < xs.length) : gcdL den (xs.take (k + 1)) = Int.gcd (gcdL den (xs.take k)) (ith xs k) := by rw [take_snoc xs k h, gcdL_snoc]
theorem gcdL_dvd (den : Int) (xs : List Int) : (gcdL den xs : Int) ∣ den ∧ ∀ x ∈ xs, (gcdL den xs : Int) ∣ x := by
  have key : ∀ (xs : List Int) (g : Nat), ((xs.foldl (fun g n => Int.gcd g n) g : Nat) : Int) ∣ (g : Int) ∧ ∀ x ∈ xs, ((xs.foldl (fun g n => Int.gcd g n) g : Nat) : Int) ∣ x := by
    intro xs
    induction xs with
    | nil => intro g; exact ⟨Int.dvd_refl _, fun x hx => by simp at hx⟩
    | cons y l ih =>
      intro g
      obtain ⟨h1, h2⟩ := ih (Int.gcd g y)
      refine ⟨Int.dvd_trans h1 (Int.gcd_dvd_left _ _), fun x hx => ?_⟩
      rcases List.mem_cons.1 hx with rfl | hx
      · exact Int.dvd_trans h1 (Int.gcd_dvd_right _ _)
      · exact h2 x hx
  obtain ⟨h1, h2⟩ := key xs den.natAbs
  exact ⟨Int.dvd_trans h1 (by exact Int.natAbs_dvd_self), h2⟩
theorem gcdL_bounds {den : Int} (xs : List Int) (h : 0 < den) : 0 < gcdL den xs ∧ (gcdL den xs : Int) ≤ den := by
  have h1 := (gcdL_dvd den xs).1
  have h2 := Int.le_of_dvd h h1
  refine ⟨?_, h2⟩
  rcases Nat.eq_zero_or_pos (gcdL den xs) with h0 | h0
  · rw [h0] at h1
    simp at h1; omega
  · exact h0

/-- Parts that a call has made. -/
def MadeParts (w : World) (xs : List Int) (d : Int) (e : Ending) (w' : World) : Prop := ∃ v, e = .returned (.agg #[v, .int .i64 d]) ∧ Own w' w.heap.size 1 v (ints xs) ∧ Ext w w'

set_option maxRecDepth 100000 in
set_option maxHeartbeats 4000000 in
theorem lowest_calls (w : World) (ao : Option Addr) (cap : Nat) (xs : List Int) (den : Int) (hI : IntsIn w ao xs) (hl : xs.length ≤ 1000000) (hd : 0 < den ∧ den ≤ 4611686018427387904)
    (hb : ∀ k, k < xs.length → 0 ≤ ith xs k ∧ ith xs k ≤ 4611686018427387904) :
    Calls Try.prog 59 #[.slice ao xs.length cap, .int .i64 den] w (MadeParts w (xs.map (· / (gcdL den xs : Int))) (den / gcdL den xs)) := by
  have HB := Lib.hid hb
  clear hb
  obtain ⟨i0, hi, hz0, hz1, hz2⟩ := info_parts info_int
  go_enter Try.func59, Try.ntmps59
  go_wp2_with fail
  obtain ⟨W, hW⟩ : ∃ W, W = w.heap.size := ⟨_, rfl⟩
  have hxa : Ext w (w.alloc (Obj.cells #[Value.slice none 0 0, Value.int IntKind.i64 0] 26)) := (by repeat (first | exact Ext.refl _ | assumption | refine Ext.alloc ?_ _ | refine Ext.drewN ?_ _ | refine Ext.drew ?_))
  have hra : (w.alloc (Obj.cells #[Value.slice none 0 0, Value.int IntKind.i64 0] 26)).cell? ⟨W, 0, none⟩ = some (.slice none 0 0) ∧ (w.alloc (Obj.cells #[Value.slice none 0 0, Value.int IntKind.i64 0] 26)).cell? ⟨W, 1, none⟩ = some (.int .i64 0) ∧
      (w.alloc (Obj.cells #[Value.slice none 0 0, Value.int IntKind.i64 0] 26)).frozen? ⟨W, 0, none⟩ = false ∧ (w.alloc (Obj.cells #[Value.slice none 0 0, Value.int IntKind.i64 0] 26)).frozen? ⟨W, 1, none⟩ = false := by
    subst hW
    exact ⟨by simp [go_sem], by simp [go_sem], by simp [go_sem], by simp [go_sem]⟩
  have hs1 : (w.alloc (Obj.cells #[Value.slice none 0 0, Value.int IntKind.i64 0] 26)).heap.size = W + 1 := by simp [hW]
  have HWe : w.heap.size ≤ W := by omega
  generalize (w.alloc (Obj.cells #[Value.slice none 0 0, Value.int IntKind.i64 0] 26)) = w1 at *
  rw [← hW]
  clear hW
  go_loopw [5, 14] (fun g i wr => ∃ k : Nat, k ≤ xs.length ∧ i = .int .i64 k ∧ g = .int .i64 (gcdL den (xs.take k)) ∧ Ext w1 wr) (fun _ i _ => xs.length - (intOf i).toNat)
  case atStart => exact ⟨0, by omega, rfl, by rw [List.take_zero, gcdL_nil]; exact congrArg _ (by omega), Ext.refl _⟩
  case round =>
    obtain ⟨k, hk, rfl, rfl, hx⟩ := hrel
    by_cases hlt : k < xs.length
    · obtain ⟨b, off, rfl, hb, hc⟩ := (hI.ext hxa).ext hx k hlt
      have h1 := HB.out k hlt
      have h2 := gcdL_bounds (xs.take k) hd.1
      go_wp2_with fail
      refine (gcd_calls _ _ _ (by omega) (by omega)).mono ?_
      rintro e w2 ⟨rfl, hx2⟩
      go_wp2_with fail
      refine ⟨⟨k + 1, by omega, rfl, ?_, hx.trans hx2⟩, by simp only [intOf]; omega⟩
      rw [gcdL_take den xs k hlt]
    · obtain rfl : k = xs.length := by omega
      rw [List.take_length]
      have h2 := gcdL_bounds xs hd.1
      have htd : den.tdiv (gcdL den xs : Int) = den / (gcdL den xs : Int) := Int.tdiv_eq_ediv_of_nonneg (by omega)
      have hq1 : 0 ≤ den / (gcdL den xs : Int) := Int.ediv_nonneg (by omega) (by omega)
      have hq2 : den / (gcdL den xs : Int) ≤ den := Int.ediv_le_self _ (by omega)
      go_wp2_with fail
      generalize hdd : den / (gcdL den xs : Int) = d at *
      generalize hg : (gcdL den xs : Int) = g at *
      obtain ⟨B, hB⟩ : ∃ B, B = wr.heap.size := ⟨_, rfl⟩
      have hx2 : Ext w1 (wr.alloc (Obj.cells #[Value.slice none 0 0, Value.int IntKind.i64 d] 26)) := (by repeat (first | exact Ext.refl _ | assumption | refine Ext.alloc ?_ _ | refine Ext.drewN ?_ _ | refine Ext.drew ?_))
      have hc2 : (wr.alloc (Obj.cells #[Value.slice none 0 0, Value.int IntKind.i64 d] 26)).cell? ⟨B, 0, none⟩ = some (.slice none 0 0) ∧ (wr.alloc (Obj.cells #[Value.slice none 0 0, Value.int IntKind.i64 d] 26)).frozen? ⟨B, 0, none⟩ = false := by
        subst hB
        exact ⟨by simp [go_sem], by simp [go_sem]⟩
      have hd2 : (wr.alloc (Obj.cells #[Value.slice none 0 0, Value.int IntKind.i64 d] 26)).cell? ⟨B, 1, none⟩ = some (.int .i64 d) := by
        subst hB
        simp [go_sem]
      have hs2 : (wr.alloc (Obj.cells #[Value.slice none 0 0, Value.int IntKind.i64 d] 26)).heap.size = B + 1 := by simp [hB]
      have HW0 : w.heap.size ≤ W := HWe
      have hWB : W < B := by have := hx.size; omega
      generalize (wr.alloc (Obj.cells #[Value.slice none 0 0, Value.int IntKind.i64 d] 26)) = w2 at *
      rw [← hB]
      clear hB hx
      go_loopw [28] (fun i ws => ∃ (k : Nat) (ov : Value), k ≤ xs.length ∧ i = .int .i64 k ∧ Ext w1 ws ∧ B + 1 ≤ ws.heap.size ∧ (ws.cell? ⟨B, 0, none⟩ = some ov ∧ ws.frozen? ⟨B, 0, none⟩ = false) ∧ ws.cell? ⟨B, 1, none⟩ = some (.int .i64 d) ∧ Own ws (B + 1) 1 ov (ints ((xs.take k).map (· / g)))) (fun i _ => xs.length - (intOf i).toNat)
      case atStart => exact ⟨0, _, by omega, rfl, hx2, by omega, hc2, hd2, Own.nil _ _ _⟩
      case round =>
        obtain ⟨k, ov, hk, rfl, hx, hBs, ⟨hc, hf⟩, hd1, ho⟩ := hrel
        by_cases hlt : k < xs.length
        · obtain ⟨b, off, rfl, hb, hcx⟩ := (hI.ext hxa).ext hx k hlt
          have h1 := HB.out k hlt
          have hq3 : (ith xs k).tdiv g = ith xs k / g := Int.tdiv_eq_ediv_of_nonneg (by omega)
          have hq4 : 0 ≤ ith xs k / g := Int.ediv_nonneg (by omega) (by omega)
          have hq5 : ith xs k / g ≤ ith xs k := Int.ediv_le_self _ (by omega)
          have hg0 : ¬ g = 0 := by omega
          have hw1 : IntKind.i64.wrap (ith xs k / g) = ith xs k / g := by rw [IntKind.wrap_i64]; omega
          have hkl : ((xs.take k).map (· / g)).length = k := by simp; omega
          have hlow := ho.lt
          go_wp2_with fail
          have hBl : B < wr.heap.size := by omega
          have hcA : ∀ W2, Ext wr W2 → W2.cell? ⟨B, 0, none⟩ = some ov ∧ W2.frozen? ⟨B, 0, none⟩ = false ∧ W2.cell? ⟨B, 1, none⟩ = some (.int .i64 d) ∧ B < W2.heap.size := fun W2 h => ⟨(h.cell hBl).trans hc, (h.frozen hBl).trans hf, (h.cell hBl).trans hd1, Nat.lt_of_lt_of_le hBl h.size⟩
          have hneA : some (⟨B, 0, none⟩ : Addr).block ≠ ov.ownBlock := fun e => by have := (ho.lt B e.symm).1; omega
          go_region_law (refine step_append_Own _ (by rfl) _ _ 22 (by rfl) 3 i0 (.int .i64 0) 1 8 Try.underlying22 hi hz0 hz1 hz2 rfl (by omega) (B + 1) _ (ints ((xs.take k).map (· / g))) (by rfl) (Own.ext ho (by repeat (first | exact Ext.refl _ | assumption | refine Ext.alloc ?_ _ | refine Ext.drewN ?_ _ | refine Ext.drew ?_))) (by simp <;> omega) ⟨wr.heap.size, 0, none⟩ 1 1 [.int .i64 (ith xs k / g)] (by rfl) (by rfl) (one_cell _ _ _ _ (by simp)) (by simp [Value.oneCell']) (by simp [ints_length]; unfold maxLen; omega) (by simp [ints_length]; omega) ?_; intro v' w5 ho5 hg5 hb5; have hc5 := (grownBy_cell hg5 (p := ⟨B, 0, none⟩) (hcA _ (by repeat (first | exact Ext.refl _ | assumption | refine Ext.alloc ?_ _ | refine Ext.drewN ?_ _ | refine Ext.drew ?_))).2.2.2 (hneA)).trans (hcA _ (by repeat (first | exact Ext.refl _ | assumption | refine Ext.alloc ?_ _ | refine Ext.drewN ?_ _ | refine Ext.drew ?_))).1; have hf5 := (grownBy_frozen hg5 (p := ⟨B, 0, none⟩) (hcA _ (by repeat (first | exact Ext.refl _ | assumption | refine Ext.alloc ?_ _ | refine Ext.drewN ?_ _ | refine Ext.drew ?_))).2.2.2 (hneA)).trans (hcA _ (by repeat (first | exact Ext.refl _ | assumption | refine Ext.alloc ?_ _ | refine Ext.drewN ?_ _ | refine Ext.drew ?_))).2.1; have he5 := (grownBy_cell hg5 (p := ⟨B, 1, none⟩) (hcA _ (by repeat (first | exact Ext.refl _ | assumption | refine Ext.alloc ?_ _ | refine Ext.drewN ?_ _ | refine Ext.drew ?_))).2.2.2 (hneA)).trans (hcA _ (by repeat (first | exact Ext.refl _ | assumption | refine Ext.alloc ?_ _ | refine Ext.drewN ?_ _ | refine Ext.drew ?_))).2.2.1; obtain ⟨no, nn, nc, rfl, -⟩ := ho5.shapeCap)
          all_goals go_wp2_with fail
          all_goals
            rw [ints_snoc, ← map_snoc (· / g) xs k hlt] at ho5
            have hs5 := hg5.size
            simp only [World.size_drew, World.size_alloc] at hs5
            have hx5 : Ext w1 w5 := (show Ext w1 _ from (by repeat (first | exact Ext.refl _ | assumption | refine Ext.alloc ?_ _ | refine Ext.drewN ?_ _ | refine Ext.drew ?_))).onto hg5 (fun q hq => by have := (hlow q hq).1; omega)
            refine ⟨⟨k + 1, .slice no nn nc, by omega, rfl, hx5.setOwn _ _ (by simp; omega), by simp [World.setCell]; omega, ⟨World.cell?_setCell_same _ _ _ hc5, by rw [World.frozen?_setCell]; exact hf5⟩, by rw [World.cell?_setCell_other _ _ _ _ (by simp)]; exact he5, ho5.keep (grownBy_setCell w5 ⟨B, 0, none⟩ (.slice no nn nc)) (by
              right
              intro e
              have := (ho5.lt B e).1
              omega)⟩, by simp only [intOf]; omega⟩
        · obtain rfl : k = xs.length := by omega
          rw [List.take_length] at ho
          have hWl : W < w1.heap.size := by omega
          have e0 := (hx.cell (p := ⟨W, 0, none⟩) hWl).trans hra.1
          have e1 := (hx.cell (p := ⟨W, 1, none⟩) hWl).trans hra.2.1
          have f0 := (hx.frozen (p := ⟨W, 0, none⟩) hWl).trans hra.2.2.1
          have f1 := (hx.frozen (p := ⟨W, 1, none⟩) hWl).trans hra.2.2.2
          obtain ⟨no, nn, nc, rfl, -⟩ := ho.shapeCap
          go_wp2_with fail
          have q0 : ((wr.setCell ⟨W, 0, none⟩ (.slice no nn nc)).setCell ⟨W, 1, none⟩ (.int .i64 d)).cell? ⟨W, 0, none⟩ = some (.slice no nn nc) := by
            rw [World.cell?_setCell_other _ _ _ _ (by simp)]; exact World.cell?_setCell_same _ _ _ e0
          have q1 : ((wr.setCell ⟨W, 0, none⟩ (.slice no nn nc)).setCell ⟨W, 1, none⟩ (.int .i64 d)).cell? ⟨W, 1, none⟩ = some (.int .i64 d) :=
            World.cell?_setCell_same _ _ _ (by rw [World.cell?_setCell_other _ _ _ _ (by simp)]; exact e1)
          have ho2 := (ho.keep (grownBy_setCell wr ⟨W, 0, none⟩ (.slice no nn nc)) (by right; intro e; have := (ho.lt W e).1; omega)).keep (grownBy_setCell _ ⟨W, 1, none⟩ (.int .i64 d)) (by right; intro e; have := (ho.lt W e).1; omega)
          refine bodyPost_ret (v := .agg #[.slice no nn nc, .int .i64 d]) (by simp [results, Try.results59, go_sem, q0, q1]) rfl ?_
          rw [hg, hdd]
          have hxw := ((hxa.trans hx).setOwn ⟨W, 0, none⟩ (.slice no nn nc) (by simp; omega)).setOwn ⟨W, 1, none⟩ (.int .i64 d) (by simp; omega)
          exact ⟨_, rfl, ho2.rebase (by omega), hxw⟩
end Go.Proofs.Ytcngecibljgndaa
