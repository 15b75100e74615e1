/- Those who are left, in their order; what run adds; plain. -/
import Derived.Test.YtcngecibljgndaaMQPB
import Derived.Test.YtcngecibljgndaaMBJ
namespace Go.Proofs.Ytcngecibljgndaa
open Go.RowKit Go.Shelf

/-- Those who have not come. -/
def lft (came : List Bool) (n : Nat) : List Nat := (List.range n).filter fun j => !bth came j
theorem lft_length (came : List Bool) (n : Nat) : (lft came n).length = wait came n := rfl
theorem lft_nodup (came : List Bool) (n : Nat) : (lft came n).Nodup := List.Pairwise.filter _ List.nodup_range
theorem lft_mem (came : List Bool) (n j : Nat) : j ∈ lft came n ↔ j < n ∧ bth came j = false := by simp [lft]
theorem filter_ne {l : List Nat} (hn : l.Nodup) {i a : Nat} (hi : i < l.length) (ha : l[i] = a) : (l.filter fun j => !(j == a)) = l.take i ++ l.drop (i + 1) := by
  have e : l = l.take i ++ a :: l.drop (i + 1) := by
    rw [← ha, List.getElem_cons_drop, List.take_append_drop]
  generalize l.take i = A at *
  generalize l.drop (i + 1) = B at *
  subst e
  have hp : ∀ C : List Nat, a ∉ C → C.filter (fun j => !(j == a)) = C := fun C hC => List.filter_eq_self.2 (fun x hx => by
    have : x ≠ a := fun e => hC (e ▸ hx)
    simp [this])
  rw [List.nodup_append] at hn
  obtain ⟨h1, h2, h3⟩ := hn
  rw [List.nodup_cons] at h2
  rw [List.filter_append, List.filter_cons]
  simp only [beq_self_eq_true, Bool.not_true, Bool.false_eq_true, if_false]
  rw [hp A (fun hA => h3 a hA a (by simp) rfl), hp B h2.1]
theorem lft_set {came : List Bool} {n i a : Nat} (hl : came.length = n) (hi : i < (lft came n).length) (ha : (lft came n)[i] = a) : lft (came.set a true) n = (lft came n).take i ++ (lft came n).drop (i + 1) := by
  have han : a < n := ((lft_mem came n a).1 (ha ▸ List.getElem_mem _)).1
  rw [← filter_ne (lft_nodup came n) hi ha]
  unfold lft
  rw [List.filter_filter]
  refine List.filter_congr (fun j _ => ?_)
  rw [bth_set _ _ _ _ (by omega)]
  by_cases e : j = a
  · subst e; simp
  · rw [if_neg e]; simp [e]
theorem sumW_lft (came : List Bool) (t : Nat → Int) : ∀ n, sumW came n t = isum ((lft came n).map t)
  | 0 => by simp [sumW_zero, lft, isum_nil]
  | n + 1 => by
    rw [sumW_succ, sumW_lft came t n]
    unfold lft
    rw [List.range_succ, List.filter_append, List.map_append, isum_append]
    cases h : bth came n <;> simp [h, isum_nil, isum_cons]
theorem gets_came (xs : List Int) : ∀ (f : Nat) (left : Int) (came : List Bool) (i : Nat), came.length = xs.length → bth came i = true → gets xs f left came i = 0
  | 0, _, _, _, _, _ => rfl
  | f + 1, left, came, i, hl, h => by
    rw [gets, sumW_lft]
    have : ∀ l : List Nat, (∀ j ∈ l, j < xs.length ∧ bth came j = false) → isum (l.map fun j => if j = i then min (ith xs j) left * fact f else gets xs f (left - min (ith xs j) left) (came.set j true) i) = 0 := by
      intro l
      induction l with
      | nil => intro _; simp [isum_nil]
      | cons j l ih =>
        intro hj
        rw [List.map_cons, isum_cons, ih (fun k hk => hj k (List.mem_cons_of_mem _ hk))]
        have h1 := hj j (by simp)
        have h2 : j ≠ i := fun e => by rw [← e, h1.2] at h; simp at h
        rw [if_neg h2, gets_came xs f _ _ i (by simp [hl]) (by
          rw [bth_set _ _ _ _ (by omega)]
          split
          · rfl
          · exact h)]
        rfl
    exact this _ (fun j hj => (lft_mem _ _ _).1 hj)
theorem isum_nonneg {l : List Int} (h : ∀ x ∈ l, 0 ≤ x) : 0 ≤ isum l := by
  induction l with
  | nil => simp [isum_nil]
  | cons x l ih =>
    rw [isum_cons]
    have := h x (by simp)
    have := ih (fun y hy => h y (List.mem_cons_of_mem _ hy))
    omega
theorem gets_nonneg (xs : List Int) (h0 : ∀ i, i < xs.length → 0 ≤ ith xs i) : ∀ (f : Nat) (left : Int) (came : List Bool) (i : Nat), 0 ≤ left → 0 ≤ gets xs f left came i
  | 0, _, _, _, _ => Int.le_refl _
  | f + 1, left, came, i, hl => by
    rw [gets, sumW_lft]
    refine isum_nonneg (fun x hx => ?_)
    obtain ⟨j, hj, rfl⟩ := List.mem_map.1 hx
    have h1 := h0 j ((lft_mem _ _ _).1 hj).1
    split
    · exact Int.mul_nonneg (by omega) (by omega)
    · exact gets_nonneg xs h0 f _ _ i (by omega)
/-- What the first k of those who are left add. -/
def runTo (xs : List Int) (f : Nat) (left : Int) (came : List Bool) (k i : Nat) : Int :=
  isum (((lft came xs.length).take k).map fun j => if j = i then min (ith xs j) left * fact f else gets xs f (left - min (ith xs j) left) (came.set j true) i)
theorem runTo_zero (xs : List Int) (f : Nat) (left : Int) (came : List Bool) (i : Nat) : runTo xs f left came 0 i = 0 := by simp [runTo, isum_nil]
theorem runTo_all (xs : List Int) (f : Nat) (left : Int) (came : List Bool) (k i : Nat) (hk : (lft came xs.length).length ≤ k) : runTo xs f left came k i = gets xs (f + 1) left came i := by
  rw [runTo, List.take_of_length_le hk, gets, sumW_lft]
theorem runTo_succ (xs : List Int) (f : Nat) (left : Int) (came : List Bool) (k i a : Nat) (hl : came.length = xs.length) (hk : k < (lft came xs.length).length) (ha : (lft came xs.length)[k] = a) :
    runTo xs f left came (k + 1) i = runTo xs f left came k i + (if i = a then min (ith xs a) left * fact f else 0) + gets xs f (left - min (ith xs a) left) (came.set a true) i := by
  have ham := (lft_mem came xs.length a).1 (ha ▸ List.getElem_mem _)
  unfold runTo
  rw [List.take_succ_eq_append_getElem hk, ha, List.map_append, isum_append]
  simp only [List.map_cons, List.map_nil, isum_cons, isum_nil]
  by_cases e : i = a
  · subst e
    rw [if_pos rfl, if_pos rfl, gets_came xs f _ _ i (by simp [hl]) (by rw [bth_set _ _ _ _ (by omega), if_pos rfl])]
    omega
  · rw [if_neg (Ne.symm e), if_neg e]; omega
theorem runTo_le (xs : List Int) (h0 : ∀ i, i < xs.length → 0 ≤ ith xs i) (f : Nat) (left : Int) (came : List Bool) (hl : 0 ≤ left) (k i : Nat) : 0 ≤ runTo xs f left came k i ∧ runTo xs f left came k i ≤ gets xs (f + 1) left came i := by
  have key : ∀ l : List Nat, (∀ j ∈ l, j < xs.length) → 0 ≤ isum (l.map fun j => if j = i then min (ith xs j) left * fact f else gets xs f (left - min (ith xs j) left) (came.set j true) i) := fun l hl2 => isum_nonneg (fun x hx => by
    obtain ⟨j, hj, rfl⟩ := List.mem_map.1 hx
    have h1 := h0 j (hl2 j hj)
    split
    · exact Int.mul_nonneg (by omega) (by omega)
    · exact gets_nonneg xs h0 f _ _ i (by omega))
  refine ⟨key _ (fun j hj => ((lft_mem _ _ _).1 (List.mem_of_mem_take hj)).1), ?_⟩
  rw [gets, sumW_lft]
  conv => rhs; rw [← List.take_append_drop k (lft came xs.length), List.map_append, isum_append]
  have := key ((lft came xs.length).drop k) (fun j hj => ((lft_mem _ _ _).1 (List.mem_of_mem_drop hj)).1)
  unfold runTo
  omega
/-- The list of those who are left, as numbers. -/
def lftI (came : List Bool) (n : Nat) : List Int := (lft came n).map fun (j : Nat) => (j : Int)
theorem lftI_length (came : List Bool) (n : Nat) : (lftI came n).length = wait came n := by simp [lftI, lft_length]
theorem lftI_at (came : List Bool) (n k : Nat) (hk : k < (lft came n).length) : ith (lftI came n) k = ((lft came n)[k] : Int) := by
  unfold lftI
  simp [ith, hk]
theorem lftI_set {came : List Bool} {n i a : Nat} (hl : came.length = n) (hi : i < (lft came n).length) (ha : (lft came n)[i] = a) : lftI (came.set a true) n = (lftI came n).take i ++ (lftI came n).drop (i + 1) := by
  unfold lftI
  rw [lft_set hl hi ha, List.map_append, List.map_take, List.map_drop]
end Go.Proofs.Ytcngecibljgndaa

/- The specification's Within. -/
namespace Go.Proofs.Ytcngecibljgndaa
open Go.RowKit Go.Shelf

theorem field_D (w : World) (b : Bool) (o : Option Addr) (n c : Nat) : (Instr.field 39 (.agg #[.bool b, .slice o n c]) 1).run Try.prog w = .ok (.slice o n c) w := by kernel_rfl
theorem div_next (n i : Nat) : n / 10000 ^ i = n / 10000 ^ (i + 1) * 10000 + dig n i := by
  have h := Nat.div_add_mod (n / 10000 ^ i) 10000
  rw [Nat.div_div_eq_div_mul, ← Nat.pow_succ] at h
  have h2 : dig n i = n / 10000 ^ i % 10000 := rfl
  rw [h2, Nat.mul_comm]
  exact h.symm
/-- A whole number, and whether it is within a limit. -/
def withinV (z most : Int) : Int := if (z.natAbs : Int) ≤ most then z else 0
def withinB (z most : Int) : Bool := decide ((z.natAbs : Int) ≤ most)
set_option maxRecDepth 100000 in
set_option maxHeartbeats 2000000 in
theorem within_calls (w : World) (nb : Bool) (zo : Option Addr) (A zc : Nat) (z most : Int) (hZ : Num w z nb zo A) (hA : A ≤ 100000) (hm : 0 ≤ most ∧ most ≤ 4611686018427387904) :
    Calls Try.prog 84 #[.agg #[.bool nb, .slice zo A zc], .int .i64 most] w fun e w' => e = .returned (.tuple #[.int .i64 (withinV z most), .bool (withinB z most)]) ∧ Ext w w' := by
  have hfd := field_D
  go_enter Try.func84, Try.ntmps84
  go_wp2_with fail
  have hx1 : Ext w (w.alloc (.cells #[.bool nb, .slice zo A zc] 39)) := (by repeat (first | exact Ext.refl _ | assumption | refine Ext.alloc ?_ _ | refine Ext.drewN ?_ _ | refine Ext.drew ?_))
  have hb1 := NBox.new w 39 (.bool nb) (.slice zo A zc)
  generalize (w.alloc (.cells #[.bool nb, .slice zo A zc] 39)) = w1 at *
  obtain ⟨R, hR⟩ : ∃ R, R = w.heap.size := ⟨_, rfl⟩
  rw [← hR] at hb1 ⊢
  clear hR
  have hZ1 := hZ.ext hx1
  have HN := Lib.hid hZ.neg
  have hmz := hZ.digs.many
  obtain ⟨m, hm'⟩ : ∃ m : Nat, (m : Int) = most := ⟨most.toNat, by omega⟩
  subst hm'
  obtain ⟨q0, q1, q2⟩ := id hb1
  have hcm := fun W bo c2 B h h' hB => cmpD_digs W zo bo zc c2 A B z.natAbs m h h' hA hB
  by_cases hle : z.natAbs ≤ m
  · have hcz : ¬ (0 < cmpZ z.natAbs m) := by unfold cmpZ; split <;> (try split) <;> omega
    have hcb : decide (0 < cmpZ z.natAbs m) = false := by simpa using hcz
    obtain ⟨cz, hcze⟩ : ∃ cz, cmpZ z.natAbs m = cz := ⟨_, rfl⟩
    rw [hcze] at hcz hcb
    simp only [hcze] at hcm
    clear hcze
    go_wp2_with fail
    go_region_held3 (fun w' => (w'.cell? ⟨R, 1, none⟩ = some (.slice zo A zc)))
      (exact (hb1.ext (by repeat (first | exact Ext.refl _ | with_reducible assumption | refine Ext.alloc ?_ _ | refine Ext.drew ?_ | (refine Ext.setOwn ?_ _ _ (by first | exact Nat.le_refl _ | exact hxk1.size | exact hxk2.size))))).c1)
      ((first
        | (go_at_call 109; refine (hcm _ bo1 bc1 B1 (hZ1.digs.ext (hxk1.trans (by repeat (first | exact Ext.refl _ | with_reducible assumption | refine Ext.alloc ?_ _ | refine Ext.drew ?_ | (refine Ext.setOwn ?_ _ _ (by first | exact Nat.le_refl _ | exact hxk1.size | exact hxk2.size)))))) (hB1.digs.ext (by repeat (first | exact Ext.refl _ | with_reducible assumption | refine Ext.alloc ?_ _ | refine Ext.drew ?_ | (refine Ext.setOwn ?_ _ _ (by first | exact Nat.le_refl _ | exact hxk1.size | exact hxk2.size))))) (by have := hB1.digs.many; have := many_i64 (n := (m : Int)) (by omega); omega)).mono ?_; rintro e v2 ⟨rfl, hx12⟩; have hxk2 : Ext w1 v2 := hxk1.trans (Ext.trans (by repeat (first | exact Ext.refl _ | with_reducible assumption | refine Ext.alloc ?_ _ | refine Ext.drew ?_ | (refine Ext.setOwn ?_ _ _ (by first | exact Nat.le_refl _ | exact hxk1.size | exact hxk2.size)))) hx12))
        | (go_at_call 73; refine (of_calls _ m (by omega)).mono ?_; intro e v1 hr1; obtain ⟨nb1, bo1, B1, bc1, rfl, hB1, hbk1, hx11⟩ := hr1.res; have hxk1 : Ext w1 v1 := Ext.trans (by repeat (first | exact Ext.refl _ | with_reducible assumption | refine Ext.alloc ?_ _ | refine Ext.drew ?_ | (refine Ext.setOwn ?_ _ _ (by first | exact Nat.le_refl _ | exact hxk1.size | exact hxk2.size)))) hx11)))
    have hbx2 := hb1.ext hxk2
    have hZ2 := hZ1.ext hxk2
    have hx02 := hx1.trans hxk2
    clear hr1 hB1 hx11 hx12 hxk1 hcz hcb hcm q0 q1 q2
    obtain ⟨q0, q1, q2⟩ := id hbx2
    have hw0 : IntKind.i64.wrap ((A : Int) - 1) = (A : Int) - 1 := by rw [IntKind.wrap_i64]; omega
    go_wp2_with fail
    go_loopw [6, 7] (fun n i wr => ∃ k : Nat, k ≤ A ∧ i = .int .i64 ((k : Int) - 1) ∧ n = .int .i64 ((z.natAbs / 10000 ^ k : Nat) : Int) ∧ Ext v2 wr) (fun _ i _ => (intOf i + 1).toNat)
    case atStart => exact ⟨A, by omega, rfl, by rw [Nat.div_eq_of_lt (by rw [← hmz]; exact lt_many _)]; rfl, Ext.refl _⟩
    case round =>
      rename World => wr
      obtain ⟨k, hk, rfl, rfl, hx⟩ := hrel
      obtain ⟨q0, q1, q2⟩ := hbx2.ext hx
      by_cases hk0 : k = 0
      · subst hk0
        rw [Nat.pow_zero, Nat.div_one]
        have h1 : ((z.natAbs : Int) ≤ (m : Int)) := by omega
        have HE : Hid (withinV z m = z ∧ withinB z m = true) := Lib.hid ⟨if_pos h1, decide_eq_true h1⟩
        cases hnb : nb with
        | true =>
          have hz : z < 0 := by have := HN.out; rw [hnb] at this; simpa using this.symm
          have HZ : Hid (-(z.natAbs : Int) = z) := Lib.hid (by omega)
          have hw1 : IntKind.i64.wrap (-(z.natAbs : Int)) = -(z.natAbs : Int) := by rw [IntKind.wrap_i64]; omega
          obtain ⟨y, hy⟩ : ∃ y, z.natAbs = y := ⟨_, rfl⟩
          rw [hy] at HZ hw1 ⊢
          subst hnb
          clear hy h1
          go_wp2_with fail
          go_ret2
          exact ⟨by rw [HE.out.1, HE.out.2, HZ.out]; rfl, hx02.trans hx⟩
        | false =>
          have hz : ¬ z < 0 := by have := HN.out; rw [hnb] at this; simpa using this.symm
          have HZ : Hid ((z.natAbs : Int) = z) := Lib.hid (by omega)
          obtain ⟨y, hy⟩ : ∃ y, z.natAbs = y := ⟨_, rfl⟩
          rw [hy] at HZ ⊢
          subst hnb
          clear hy h1
          go_wp2_with fail
          go_ret2
          exact ⟨by rw [HE.out.1, HE.out.2, HZ.out]; rfl, hx02.trans hx⟩
      · obtain ⟨j, rfl⟩ : ∃ j, k = j + 1 := ⟨k - 1, by omega⟩
        have hdn := div_next z.natAbs j
        have hdl := Nat.div_le_self z.natAbs (10000 ^ j)
        have hdg := dig_lt z.natAbs j
        obtain ⟨b5, o5, rfl, hb5, hc5⟩ := (hZ2.digs.ext hx).at_ j (by omega)
        obtain ⟨p, hp⟩ : ∃ p, z.natAbs / 10000 ^ j = p := ⟨_, rfl⟩
        obtain ⟨r, hr⟩ : ∃ r, z.natAbs / 10000 ^ (j + 1) = r := ⟨_, rfl⟩
        obtain ⟨g, hg⟩ : ∃ g, dig z.natAbs j = g := ⟨_, rfl⟩
        rw [hp, hr, hg] at hdn
        rw [hp] at hdl
        rw [hg] at hdg hc5
        rw [hr]
        have HP := Lib.hid hp
        have HDN : Hid ((r : Int) * 10000 + (g : Int) = ((p : Nat) : Int)) := Lib.hid (by omega)
        have hw1 : IntKind.i64.wrap ((r : Int) * 10000) = (r : Int) * 10000 := by rw [IntKind.wrap_i64]; omega
        have hw2 : IntKind.i64.wrap ((r : Int) * 10000 + (g : Int)) = (r : Int) * 10000 + (g : Int) := by rw [IntKind.wrap_i64]; omega
        have hj1 : ((j + 1 : Nat) : Int) - 1 = (j : Int) := by omega
        rw [hj1]
        have hj2 : (j : Int) < (A : Int) := by omega
        have hj3 : (0 : Int) ≤ (j : Int) := by omega
        clear hp hr hg hdn hj1
        go_wp2_with fail
        exact ⟨⟨j, by omega, rfl, by rw [HP.out]; exact congrArg (Value.int .i64) HDN.out, hx⟩, by simp only [intOf]; omega⟩
  · have hcz : 0 < cmpZ z.natAbs m := by unfold cmpZ; split <;> (try split) <;> omega
    have hcb : decide (0 < cmpZ z.natAbs m) = true := by simpa using hcz
    obtain ⟨cz, hcze⟩ : ∃ cz, cmpZ z.natAbs m = cz := ⟨_, rfl⟩
    rw [hcze] at hcz hcb
    simp only [hcze] at hcm
    clear hcze
    have HL := Lib.hid hle
    clear hle
    go_wp2_with fail
    go_region_held3 (fun w' => (w'.cell? ⟨R, 1, none⟩ = some (.slice zo A zc)))
      (exact (hb1.ext (by repeat (first | exact Ext.refl _ | with_reducible assumption | refine Ext.alloc ?_ _ | refine Ext.drew ?_ | (refine Ext.setOwn ?_ _ _ (by first | exact Nat.le_refl _ | exact hxk1.size | exact hxk2.size))))).c1)
      ((first
        | (go_at_call 109; refine (hcm _ bo1 bc1 B1 (hZ1.digs.ext (hxk1.trans (by repeat (first | exact Ext.refl _ | with_reducible assumption | refine Ext.alloc ?_ _ | refine Ext.drew ?_ | (refine Ext.setOwn ?_ _ _ (by first | exact Nat.le_refl _ | exact hxk1.size | exact hxk2.size)))))) (hB1.digs.ext (by repeat (first | exact Ext.refl _ | with_reducible assumption | refine Ext.alloc ?_ _ | refine Ext.drew ?_ | (refine Ext.setOwn ?_ _ _ (by first | exact Nat.le_refl _ | exact hxk1.size | exact hxk2.size))))) (by have := hB1.digs.many; have := many_i64 (n := (m : Int)) (by omega); omega)).mono ?_; rintro e v2 ⟨rfl, hx12⟩; have hxk2 : Ext w1 v2 := hxk1.trans (Ext.trans (by repeat (first | exact Ext.refl _ | with_reducible assumption | refine Ext.alloc ?_ _ | refine Ext.drew ?_ | (refine Ext.setOwn ?_ _ _ (by first | exact Nat.le_refl _ | exact hxk1.size | exact hxk2.size)))) hx12))
        | (go_at_call 73; refine (of_calls _ m (by omega)).mono ?_; intro e v1 hr1; obtain ⟨nb1, bo1, B1, bc1, rfl, hB1, hbk1, hx11⟩ := hr1.res; have hxk1 : Ext w1 v1 := Ext.trans (by repeat (first | exact Ext.refl _ | with_reducible assumption | refine Ext.alloc ?_ _ | refine Ext.drew ?_ | (refine Ext.setOwn ?_ _ _ (by first | exact Nat.le_refl _ | exact hxk1.size | exact hxk2.size)))) hx11)))
    have h1 : ¬ ((z.natAbs : Int) ≤ (m : Int)) := by have := HL.out; omega
    have HE : Hid (withinV z m = 0 ∧ withinB z m = false) := Lib.hid ⟨if_neg h1, decide_eq_false h1⟩
    clear h1
    go_wp2_with fail
    go_ret2
    refine ⟨?_, hx1.trans hxk2⟩
    rw [HE.out.1, HE.out.2]
    rfl
end Go.Proofs.Ytcngecibljgndaa
