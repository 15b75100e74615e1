/- Those who are left, in their order; what run adds; plain. -/
import Derived.Test.YtcngecibljgndaaMQPB
import Derived.Test.YtcngecibljgndaaMQPC
import Derived.Test.YtcngecibljgndaaMBJ
import Derived.Test.YtcngecibljgndaaMQW
namespace Go.Proofs.Ytcngecibljgndaa
open Go.RowKit Go.Shelf

/-- Those who have not come. -/
def lft (came : List Bool) (n : Nat) : List Nat := (List.range n).filter fun j => !bth came j
theorem lft_length (came : List Bool) (n : Nat) : (lft came n).length = wait came n := rfl
theorem lft_nodup (came : List Bool) (n : Nat) : (lft came n).Nodup := List.Pairwise.filter _ List.nodup_range
theorem lft_mem (came : List Bool) (n j : Nat) : j ∈ lft came n ↔ j < n ∧ bth came j = false := by simp [lft]
theorem filter_ne {l : List Nat} (hn : l.Nodup) {i a : Nat} (hi : i < l.length) (ha : l[i] = a) : (l.filter fun j => !(j == a)) = l.take i ++ l.drop (i + 1) := by
  have e : l = l.take i ++ a :: l.drop (i + 1) := by
    rw [← ha, List.getElem_cons_drop, List.take_append_drop]
  generalize l.take i = A at *
  generalize l.drop (i + 1) = B at *
  subst e
  have hp : ∀ C : List Nat, a ∉ C → C.filter (fun j => !(j == a)) = C := fun C hC => List.filter_eq_self.2 (fun x hx => by
    have : x ≠ a := fun e => hC (e ▸ hx)
    simp [this])
  rw [List.nodup_append] at hn
  obtain ⟨h1, h2, h3⟩ := hn
  rw [List.nodup_cons] at h2
  rw [List.filter_append, List.filter_cons]
  simp only [beq_self_eq_true, Bool.not_true, Bool.false_eq_true, if_false]
  rw [hp A (fun hA => h3 a hA a (by simp) rfl), hp B h2.1]
theorem lft_set {came : List Bool} {n i a : Nat} (hl : came.length = n) (hi : i < (lft came n).length) (ha : (lft came n)[i] = a) : lft (came.set a true) n = (lft came n).take i ++ (lft came n).drop (i + 1) := by
  have han : a < n := ((lft_mem came n a).1 (ha ▸ List.getElem_mem _)).1
  rw [← filter_ne (lft_nodup came n) hi ha]
  unfold lft
  rw [List.filter_filter]
  refine List.filter_congr (fun j _ => ?_)
  rw [bth_set _ _ _ _ (by omega)]
  by_cases e : j = a
  · subst e; simp
  · rw [if_neg e]; simp [e]
theorem sumW_lft (came : List Bool) (t : Nat → Int) : ∀ n, sumW came n t = isum ((lft came n).map t)
  | 0 => by simp [sumW_zero, lft, isum_nil]
  | n + 1 => by
    rw [sumW_succ, sumW_lft came t n]
    unfold lft
    rw [List.range_succ, List.filter_append, List.map_append, isum_append]
    cases h : bth came n <;> simp [h, isum_nil, isum_cons]
theorem gets_came (xs : List Int) : ∀ (f : Nat) (left : Int) (came : List Bool) (i : Nat), came.length = xs.length → bth came i = true → gets xs f left came i = 0
  | 0, _, _, _, _, _ => rfl
  | f + 1, left, came, i, hl, h => by
    rw [gets, sumW_lft]
    have : ∀ l : List Nat, (∀ j ∈ l, j < xs.length ∧ bth came j = false) → isum (l.map fun j => if j = i then min (ith xs j) left * fact f else gets xs f (left - min (ith xs j) left) (came.set j true) i) = 0 := by
      intro l
      induction l with
      | nil => intro _; simp [isum_nil]
      | cons j l ih =>
        intro hj
        rw [List.map_cons, isum_cons, ih (fun k hk => hj k (List.mem_cons_of_mem _ hk))]
        have h1 := hj j (by simp)
        have h2 : j ≠ i := fun e => by rw [← e, h1.2] at h; simp at h
        rw [if_neg h2, gets_came xs f _ _ i (by simp [hl]) (by
          rw [bth_set _ _ _ _ (by omega)]
          split
          · rfl
          · exact h)]
        rfl
    exact this _ (fun j hj => (lft_mem _ _ _).1 hj)
theorem isum_nonneg {l : List Int} (h : ∀ x ∈ l, 0 ≤ x) : 0 ≤ isum l := by
  induction l with
  | nil => simp [isum_nil]
  | cons x l ih =>
    rw [isum_cons]
    have := h x (by simp)
    have := ih (fun y hy => h y (List.mem_cons_of_mem _ hy))
    omega
theorem gets_nonneg (xs : List Int) (h0 : ∀ i, i < xs.length → 0 ≤ ith xs i) : ∀ (f : Nat) (left : Int) (came : List Bool) (i : Nat), 0 ≤ left → 0 ≤ gets xs f left came i
  | 0, _, _, _, _ => Int.le_refl _
  | f + 1, left, came, i, hl => by
    rw [gets, sumW_lft]
    refine isum_nonneg (fun x hx => ?_)
    obtain ⟨j, hj, rfl⟩ := List.mem_map.1 hx
    have h1 := h0 j ((lft_mem _ _ _).1 hj).1
    split
    · exact Int.mul_nonneg (by omega) (by omega)
    · exact gets_nonneg xs h0 f _ _ i (by omega)
/-- What the first k of those who are left add. -/
def runTo (xs : List Int) (f : Nat) (left : Int) (came : List Bool) (k i : Nat) : Int :=
  isum (((lft came xs.length).take k).map fun j => if j = i then min (ith xs j) left * fact f else gets xs f (left - min (ith xs j) left) (came.set j true) i)
theorem runTo_zero (xs : List Int) (f : Nat) (left : Int) (came : List Bool) (i : Nat) : runTo xs f left came 0 i = 0 := by simp [runTo, isum_nil]
theorem runTo_all (xs : List Int) (f : Nat) (left : Int) (came : List Bool) (k i : Nat) (hk : (lft came xs.length).length ≤ k) : runTo xs f left came k i = gets xs (f + 1) left came i := by
  rw [runTo, List.take_of_length_le hk, gets, sumW_lft]
theorem runTo_succ (xs : List Int) (f : Nat) (left : Int) (came : List Bool) (k i a : Nat) (hl : came.length = xs.length) (hk : k < (lft came xs.length).length) (ha : (lft came xs.length)[k] = a) :
    runTo xs f left came (k + 1) i = runTo xs f left came k i + (if i = a then min (ith xs a) left * fact f else 0) + gets xs f (left - min (ith xs a) left) (came.set a true) i := by
  have ham := (lft_mem came xs.length a).1 (ha ▸ List.getElem_mem _)
  unfold runTo
  rw [List.take_succ_eq_append_getElem hk, ha, List.map_append, isum_append]
  simp only [List.map_cons, List.map_nil, isum_cons, isum_nil]
  by_cases e : i = a
  · subst e
    rw [if_pos rfl, if_pos rfl, gets_came xs f _ _ i (by simp [hl]) (by rw [bth_set _ _ _ _ (by omega), if_pos rfl])]
    omega
  · rw [if_neg (Ne.symm e), if_neg e]; omega
theorem runTo_le (xs : List Int) (h0 : ∀ i, i < xs.length → 0 ≤ ith xs i) (f : Nat) (left : Int) (came : List Bool) (hl : 0 ≤ left) (k i : Nat) : 0 ≤ runTo xs f left came k i ∧ runTo xs f left came k i ≤ gets xs (f + 1) left came i := by
  have key : ∀ l : List Nat, (∀ j ∈ l, j < xs.length) → 0 ≤ isum (l.map fun j => if j = i then min (ith xs j) left * fact f else gets xs f (left - min (ith xs j) left) (came.set j true) i) := fun l hl2 => isum_nonneg (fun x hx => by
    obtain ⟨j, hj, rfl⟩ := List.mem_map.1 hx
    have h1 := h0 j (hl2 j hj)
    split
    · exact Int.mul_nonneg (by omega) (by omega)
    · exact gets_nonneg xs h0 f _ _ i (by omega))
  refine ⟨key _ (fun j hj => ((lft_mem _ _ _).1 (List.mem_of_mem_take hj)).1), ?_⟩
  rw [gets, sumW_lft]
  conv => rhs; rw [← List.take_append_drop k (lft came xs.length), List.map_append, isum_append]
  have := key ((lft came xs.length).drop k) (fun j hj => ((lft_mem _ _ _).1 (List.mem_of_mem_drop hj)).1)
  unfold runTo
  omega
/-- The list of those who are left, as numbers. -/
def lftI (came : List Bool) (n : Nat) : List Int := (lft came n).map fun (j : Nat) => (j : Int)
theorem lftI_length (came : List Bool) (n : Nat) : (lftI came n).length = wait came n := by simp [lftI, lft_length]
theorem lftI_at (came : List Bool) (n k : Nat) (hk : k < (lft came n).length) : ith (lftI came n) k = ((lft came n)[k] : Int) := by
  unfold lftI
  simp [ith, hk]
theorem lftI_set {came : List Bool} {n i a : Nat} (hl : came.length = n) (hi : i < (lft came n).length) (ha : (lft came n)[i] = a) : lftI (came.set a true) n = (lftI came n).take i ++ (lftI came n).drop (i + 1) := by
  unfold lftI
  rw [lft_set hl hi ha, List.map_append, List.map_take, List.map_drop]
end Go.Proofs.Ytcngecibljgndaa

/- The specification's Within. -/
namespace Go.Proofs.Ytcngecibljgndaa
open Go.RowKit Go.Shelf

theorem field_D (w : World) (b : Bool) (o : Option Addr) (n c : Nat) : (Instr.field 39 (.agg #[.bool b, .slice o n c]) 1).run Try.prog w = .ok (.slice o n c) w := by kernel_rfl
theorem div_next (n i : Nat) : n / 10000 ^ i = n / 10000 ^ (i + 1) * 10000 + dig n i := by
  have h := Nat.div_add_mod (n / 10000 ^ i) 10000
  rw [Nat.div_div_eq_div_mul, ← Nat.pow_succ] at h
  have h2 : dig n i = n / 10000 ^ i % 10000 := rfl
  rw [h2, Nat.mul_comm]
  exact h.symm
/-- A whole number, and whether it is within a limit. -/
def withinV (z most : Int) : Int := if (z.natAbs : Int) ≤ most then z else 0
def withinB (z most : Int) : Bool := decide ((z.natAbs : Int) ≤ most)
set_option maxRecDepth 100000 in
set_option maxHeartbeats 2000000 in
theorem within_calls (w : World) (nb : Bool) (zo : Option Addr) (A zc : Nat) (z most : Int) (hZ : Num w z nb zo A) (hA : A ≤ 100000) (hm : 0 ≤ most ∧ most ≤ 4611686018427387904) :
    Calls Try.prog 84 #[.agg #[.bool nb, .slice zo A zc], .int .i64 most] w fun e w' => e = .returned (.tuple #[.int .i64 (withinV z most), .bool (withinB z most)]) ∧ Ext w w' := by
  have hfd := field_D
  go_enter Try.func84, Try.ntmps84
  go_wp2_with fail
  have hx1 : Ext w (w.alloc (.cells #[.bool nb, .slice zo A zc] 39)) := (by repeat (first | exact Ext.refl _ | assumption | refine Ext.alloc ?_ _ | refine Ext.drewN ?_ _ | refine Ext.drew ?_))
  have hb1 := NBox.new w 39 (.bool nb) (.slice zo A zc)
  generalize (w.alloc (.cells #[.bool nb, .slice zo A zc] 39)) = w1 at *
  obtain ⟨R, hR⟩ : ∃ R, R = w.heap.size := ⟨_, rfl⟩
  rw [← hR] at hb1 ⊢
  clear hR
  have hZ1 := hZ.ext hx1
  have HN := Lib.hid hZ.neg
  have hmz := hZ.digs.many
  obtain ⟨m, hm'⟩ : ∃ m : Nat, (m : Int) = most := ⟨most.toNat, by omega⟩
  subst hm'
  obtain ⟨q0, q1, q2⟩ := id hb1
  have hcm := fun W bo c2 B h h' hB => cmpD_digs W zo bo zc c2 A B z.natAbs m h h' hA hB
  by_cases hle : z.natAbs ≤ m
  · have hcz : ¬ (0 < cmpZ z.natAbs m) := by unfold cmpZ; split <;> (try split) <;> omega
    have hcb : decide (0 < cmpZ z.natAbs m) = false := by simpa using hcz
    obtain ⟨cz, hcze⟩ : ∃ cz, cmpZ z.natAbs m = cz := ⟨_, rfl⟩
    rw [hcze] at hcz hcb
    simp only [hcze] at hcm
    clear hcze
    go_wp2_with fail
    go_region_held3 (fun w' => (w'.cell? ⟨R, 1, none⟩ = some (.slice zo A zc)))
      (exact (hb1.ext (by repeat (first | exact Ext.refl _ | with_reducible assumption | refine Ext.alloc ?_ _ | refine Ext.drew ?_ | (refine Ext.setOwn ?_ _ _ (by first | exact Nat.le_refl _ | exact hxk1.size | exact hxk2.size))))).c1)
      ((first
        | (go_at_call 109; refine (hcm _ bo1 bc1 B1 (hZ1.digs.ext (hxk1.trans (by repeat (first | exact Ext.refl _ | with_reducible assumption | refine Ext.alloc ?_ _ | refine Ext.drew ?_ | (refine Ext.setOwn ?_ _ _ (by first | exact Nat.le_refl _ | exact hxk1.size | exact hxk2.size)))))) (hB1.digs.ext (by repeat (first | exact Ext.refl _ | with_reducible assumption | refine Ext.alloc ?_ _ | refine Ext.drew ?_ | (refine Ext.setOwn ?_ _ _ (by first | exact Nat.le_refl _ | exact hxk1.size | exact hxk2.size))))) (by have := hB1.digs.many; have := many_i64 (n := (m : Int)) (by omega); omega)).mono ?_; rintro e v2 ⟨rfl, hx12⟩; have hxk2 : Ext w1 v2 := hxk1.trans (Ext.trans (by repeat (first | exact Ext.refl _ | with_reducible assumption | refine Ext.alloc ?_ _ | refine Ext.drew ?_ | (refine Ext.setOwn ?_ _ _ (by first | exact Nat.le_refl _ | exact hxk1.size | exact hxk2.size)))) hx12))
        | (go_at_call 73; refine (of_calls _ m (by omega)).mono ?_; intro e v1 hr1; obtain ⟨nb1, bo1, B1, bc1, rfl, hB1, hbk1, hx11⟩ := hr1.res; have hxk1 : Ext w1 v1 := Ext.trans (by repeat (first | exact Ext.refl _ | with_reducible assumption | refine Ext.alloc ?_ _ | refine Ext.drew ?_ | (refine Ext.setOwn ?_ _ _ (by first | exact Nat.le_refl _ | exact hxk1.size | exact hxk2.size)))) hx11)))
    have hbx2 := hb1.ext hxk2
    have hZ2 := hZ1.ext hxk2
    have hx02 := hx1.trans hxk2
    clear hr1 hB1 hx11 hx12 hxk1 hcz hcb hcm q0 q1 q2
    obtain ⟨q0, q1, q2⟩ := id hbx2
    have hw0 : IntKind.i64.wrap ((A : Int) - 1) = (A : Int) - 1 := by rw [IntKind.wrap_i64]; omega
    go_wp2_with fail
    go_loopw [6, 7] (fun n i wr => ∃ k : Nat, k ≤ A ∧ i = .int .i64 ((k : Int) - 1) ∧ n = .int .i64 ((z.natAbs / 10000 ^ k : Nat) : Int) ∧ Ext v2 wr) (fun _ i _ => (intOf i + 1).toNat)
    case atStart => exact ⟨A, by omega, rfl, by rw [Nat.div_eq_of_lt (by rw [← hmz]; exact lt_many _)]; rfl, Ext.refl _⟩
    case round =>
      rename World => wr
      obtain ⟨k, hk, rfl, rfl, hx⟩ := hrel
      obtain ⟨q0, q1, q2⟩ := hbx2.ext hx
      by_cases hk0 : k = 0
      · subst hk0
        rw [Nat.pow_zero, Nat.div_one]
        have h1 : ((z.natAbs : Int) ≤ (m : Int)) := by omega
        have HE : Hid (withinV z m = z ∧ withinB z m = true) := Lib.hid ⟨if_pos h1, decide_eq_true h1⟩
        cases hnb : nb with
        | true =>
          have hz : z < 0 := by have := HN.out; rw [hnb] at this; simpa using this.symm
          have HZ : Hid (-(z.natAbs : Int) = z) := Lib.hid (by omega)
          have hw1 : IntKind.i64.wrap (-(z.natAbs : Int)) = -(z.natAbs : Int) := by rw [IntKind.wrap_i64]; omega
          obtain ⟨y, hy⟩ : ∃ y, z.natAbs = y := ⟨_, rfl⟩
          rw [hy] at HZ hw1 ⊢
          subst hnb
          clear hy h1
          go_wp2_with fail
          go_ret2
          exact ⟨by rw [HE.out.1, HE.out.2, HZ.out]; rfl, hx02.trans hx⟩
        | false =>
          have hz : ¬ z < 0 := by have := HN.out; rw [hnb] at this; simpa using this.symm
          have HZ : Hid ((z.natAbs : Int) = z) := Lib.hid (by omega)
          obtain ⟨y, hy⟩ : ∃ y, z.natAbs = y := ⟨_, rfl⟩
          rw [hy] at HZ ⊢
          subst hnb
          clear hy h1
          go_wp2_with fail
          go_ret2
          exact ⟨by rw [HE.out.1, HE.out.2, HZ.out]; rfl, hx02.trans hx⟩
      · obtain ⟨j, rfl⟩ : ∃ j, k = j + 1 := ⟨k - 1, by omega⟩
        have hdn := div_next z.natAbs j
        have hdl := Nat.div_le_self z.natAbs (10000 ^ j)
        have hdg := dig_lt z.natAbs j
        obtain ⟨b5, o5, rfl, hb5, hc5⟩ := (hZ2.digs.ext hx).at_ j (by omega)
        obtain ⟨p, hp⟩ : ∃ p, z.natAbs / 10000 ^ j = p := ⟨_, rfl⟩
        obtain ⟨r, hr⟩ : ∃ r, z.natAbs / 10000 ^ (j + 1) = r := ⟨_, rfl⟩
        obtain ⟨g, hg⟩ : ∃ g, dig z.natAbs j = g := ⟨_, rfl⟩
        rw [hp, hr, hg] at hdn
        rw [hp] at hdl
        rw [hg] at hdg hc5
        rw [hr]
        have HP := Lib.hid hp
        have HDN : Hid ((r : Int) * 10000 + (g : Int) = ((p : Nat) : Int)) := Lib.hid (by omega)
        have hw1 : IntKind.i64.wrap ((r : Int) * 10000) = (r : Int) * 10000 := by rw [IntKind.wrap_i64]; omega
        have hw2 : IntKind.i64.wrap ((r : Int) * 10000 + (g : Int)) = (r : Int) * 10000 + (g : Int) := by rw [IntKind.wrap_i64]; omega
        have hj1 : ((j + 1 : Nat) : Int) - 1 = (j : Int) := by omega
        rw [hj1]
        have hj2 : (j : Int) < (A : Int) := by omega
        have hj3 : (0 : Int) ≤ (j : Int) := by omega
        clear hp hr hg hdn hj1
        go_wp2_with fail
        exact ⟨⟨j, by omega, rfl, by rw [HP.out]; exact congrArg (Value.int .i64) HDN.out, hx⟩, by simp only [intOf]; omega⟩
  · have hcz : 0 < cmpZ z.natAbs m := by unfold cmpZ; split <;> (try split) <;> omega
    have hcb : decide (0 < cmpZ z.natAbs m) = true := by simpa using hcz
    obtain ⟨cz, hcze⟩ : ∃ cz, cmpZ z.natAbs m = cz := ⟨_, rfl⟩
    rw [hcze] at hcz hcb
    simp only [hcze] at hcm
    clear hcze
    have HL := Lib.hid hle
    clear hle
    go_wp2_with fail
    go_region_held3 (fun w' => (w'.cell? ⟨R, 1, none⟩ = some (.slice zo A zc)))
      (exact (hb1.ext (by repeat (first | exact Ext.refl _ | with_reducible assumption | refine Ext.alloc ?_ _ | refine Ext.drew ?_ | (refine Ext.setOwn ?_ _ _ (by first | exact Nat.le_refl _ | exact hxk1.size | exact hxk2.size))))).c1)
      ((first
        | (go_at_call 109; refine (hcm _ bo1 bc1 B1 (hZ1.digs.ext (hxk1.trans (by repeat (first | exact Ext.refl _ | with_reducible assumption | refine Ext.alloc ?_ _ | refine Ext.drew ?_ | (refine Ext.setOwn ?_ _ _ (by first | exact Nat.le_refl _ | exact hxk1.size | exact hxk2.size)))))) (hB1.digs.ext (by repeat (first | exact Ext.refl _ | with_reducible assumption | refine Ext.alloc ?_ _ | refine Ext.drew ?_ | (refine Ext.setOwn ?_ _ _ (by first | exact Nat.le_refl _ | exact hxk1.size | exact hxk2.size))))) (by have := hB1.digs.many; have := many_i64 (n := (m : Int)) (by omega); omega)).mono ?_; rintro e v2 ⟨rfl, hx12⟩; have hxk2 : Ext w1 v2 := hxk1.trans (Ext.trans (by repeat (first | exact Ext.refl _ | with_reducible assumption | refine Ext.alloc ?_ _ | refine Ext.drew ?_ | (refine Ext.setOwn ?_ _ _ (by first | exact Nat.le_refl _ | exact hxk1.size | exact hxk2.size)))) hx12))
        | (go_at_call 73; refine (of_calls _ m (by omega)).mono ?_; intro e v1 hr1; obtain ⟨nb1, bo1, B1, bc1, rfl, hB1, hbk1, hx11⟩ := hr1.res; have hxk1 : Ext w1 v1 := Ext.trans (by repeat (first | exact Ext.refl _ | with_reducible assumption | refine Ext.alloc ?_ _ | refine Ext.drew ?_ | (refine Ext.setOwn ?_ _ _ (by first | exact Nat.le_refl _ | exact hxk1.size | exact hxk2.size)))) hx11)))
    have h1 : ¬ ((z.natAbs : Int) ≤ (m : Int)) := by have := HL.out; omega
    have HE : Hid (withinV z m = 0 ∧ withinB z m = false) := Lib.hid ⟨if_neg h1, decide_eq_false h1⟩
    clear h1
    go_wp2_with fail
    go_ret2
    refine ⟨?_, hx1.trans hxk2⟩
    rw [HE.out.1, HE.out.2]
    rfl
end Go.Proofs.Ytcngecibljgndaa

/- The Talmud's shares are fair for every pair, and no others are; of two they are the contest's: plain. -/
namespace Go.Proofs.Ytcngecibljgndaa
open Go.RowKit Go.Shelf

theorem contP_scale (k E a b : Int) (hk : 0 ≤ k) : contP (E * k) (a * k) (b * k) = contP E a b * k := by
  have h : ∀ x y : Int, max (x * k - y * k) 0 = max (x - y) 0 * k := fun x y => by
    rw [← Int.sub_mul]
    rcases Int.le_total 0 (x - y) with h | h
    · rw [Int.max_eq_left h, Int.max_eq_left (Int.mul_nonneg h hk)]
    · rw [Int.max_eq_right h, Int.max_eq_right (Int.mul_nonpos_of_nonpos_of_nonneg h hk), Int.zero_mul]
  unfold contP
  rw [h, h, Int.sub_mul, Int.sub_mul, Int.add_mul, Int.mul_assoc]
theorem contP_mono {E F a b : Int} (h : E ≤ F) : contP E a b ≤ contP F a b := by unfold contP; omega
theorem contP_other (E a b : Int) : contP E b a = 2 * E - contP E a b := by unfold contP; omega
/-- All pairs are fair. -/
def AllFair (xs l : List Int) (d : Int) : Prop := ∀ i j, i < j → j < xs.length → contP (ith l i + ith l j) (ith xs i * d) (ith xs j * d) = 2 * ith l i
theorem allFair_iff (xs l : List Int) (d : Int) : AllFair xs l d ↔ FairTo xs l d xs.length 0 := by
  constructor
  · intro h a b hab hb _
    have := h a b hab hb
    unfold offP; rw [this]; simp
  · intro h i j hij hj
    have := h i j hij hj (.inl (by omega))
    unfold offP at this; simpa using this
theorem AllFair.both {xs l : List Int} {d : Int} (h : AllFair xs l d) {i j : Nat} (hi : i < xs.length) (hj : j < xs.length) (hij : i ≠ j) : contP (ith l i + ith l j) (ith xs i * d) (ith xs j * d) = 2 * ith l i := by
  rcases Nat.lt_or_gt_of_ne hij with h1 | h1
  · exact h i j h1 hj
  · have h2 := h j i h1 hi
    rw [contP_other, Int.add_comm (ith l i), h2]; omega
theorem AllFair.low {E : Int} {xs : List Int} {p : List Int × Int} (hs : Shares E xs p) (h : AllFair xs p.1 p.2) : AllFair xs (lowP p).1 (lowP p).2 := by
  obtain ⟨g, hg, hd, hk⟩ := lowP_at hs
  intro i j hij hj
  have h1 := h i j hij hj
  rw [← hk i (by omega), ← hk j hj, ← hd, ← Int.add_mul, ← Int.mul_assoc, ← Int.mul_assoc, contP_scale _ _ _ _ (by omega), ← Int.mul_assoc] at h1
  exact Int.eq_of_mul_eq_mul_right (show g ≠ 0 by omega) h1
theorem talmud_allFair {E : Int} {xs : List Int} (h : IsProb E xs) : AllFair xs (talmudP E xs).1 (talmudP E xs).2 := by
  have h0 : ∀ x ∈ xs, 0 ≤ x := fun x hx => (h.claims x hx).1
  have e1 := h.estate
  have e2 := h.enough
  intro i j hij hj
  unfold talmudP
  have hmul : ∀ c m : Int, c * (2 * m) = 2 * (c * m) := fun c m => by rw [Int.mul_left_comm]
  split
  · obtain ⟨m, L, hm⟩ := equal_is h0 (show 0 ≤ 2 * E by omega) (show 2 * E ≤ isum xs by omega)
    have hl := hm.low
    have h1 := Int.mul_nonneg (h0 _ (ith_mem (show i < xs.length by omega))) (show 0 ≤ m by have := hm.den; omega)
    have h2 := Int.mul_nonneg (h0 _ (ith_mem hj)) (show 0 ≤ m by have := hm.den; omega)
    rw [hm.val]
    simp only []
    rw [ith_map _ _ _ (show i < xs.length by omega), ith_map _ _ _ hj, hmul, hmul]
    generalize ith xs i * m = a at *
    generalize ith xs j * m = b at *
    unfold contP
    omega
  · obtain ⟨m, L, hm⟩ := equal_is h0 (show 0 ≤ 2 * (isum xs - E) by omega) (show 2 * (isum xs - E) ≤ isum xs by omega)
    have hl := hm.low
    have h1 := Int.mul_nonneg (h0 _ (ith_mem (show i < xs.length by omega))) (show 0 ≤ m by have := hm.den; omega)
    have h2 := Int.mul_nonneg (h0 _ (ith_mem hj)) (show 0 ≤ m by have := hm.den; omega)
    rw [hm.val]
    simp only []
    rw [lessOf_at _ _ _ _ (show i < xs.length by omega), lessOf_at _ _ _ _ hj, ith_map _ _ _ (show i < xs.length by omega), ith_map _ _ _ hj, hmul, hmul]
    generalize ith xs i * m = a at *
    generalize ith xs j * m = b at *
    unfold contP
    omega
/-- Where two lists have the same sum and one is less somewhere, it is greater elsewhere. -/
theorem isum_greater (f g : Nat → Int) : ∀ n : Nat, isum ((List.range n).map f) = isum ((List.range n).map g) → ∀ i, i < n → f i < g i → ∃ j, j < n ∧ g j < f j := by
  intro n h i hi hlt
  refine Classical.byContradiction fun hno => ?_
  have hle : ∀ j, j < n → f j ≤ g j := fun j hj => by
    rcases Int.lt_or_le (g j) (f j) with h1 | h1
    · exact absurd ⟨j, hj, h1⟩ hno
    · exact h1
  have key : ∀ k, k ≤ n → isum ((List.range k).map f) + (if i < k then 1 else 0) ≤ isum ((List.range k).map g) := by
    intro k
    induction k with
    | zero => intro _; simp [isum_nil]
    | succ k ih =>
      intro hk
      have h1 := ih (by omega)
      have h2 := hle k (by omega)
      rw [range_snoc, range_snoc, isum_append, isum_append]
      simp only [isum_cons, isum_nil]
      by_cases e : k = i
      · subst e
        rw [if_neg (by omega)] at h1
        rw [if_pos (by omega)]
        omega
      · by_cases h3 : i < k
        · rw [if_pos h3] at h1; rw [if_pos (by omega)]; omega
        · rw [if_neg h3] at h1; rw [if_neg (by omega)]; omega
  have := key n (Nat.le_refl _)
  rw [if_pos hi] at this
  omega
theorem isum_take_range (l : List Int) (d : Int) (n : Nat) (h : l.length = n) : isum ((List.range n).map fun i => ith l i * d) = isum l * d := by
  subst h; rw [isum_range_mul, ← isum_eq_range]
theorem fair_only {E d d' : Int} {xs l l' : List Int} (hl : l.length = xs.length) (hl' : l'.length = xs.length) (hd : 0 < d) (hd' : 0 < d') (hs : isum l = E * d) (hs' : isum l' = E * d') (h : AllFair xs l d) (h' : AllFair xs l' d') :
    ∀ k, k < xs.length → ith l k * d' = ith l' k * d := by
  have hsum : isum ((List.range xs.length).map fun i => ith l i * d') = isum ((List.range xs.length).map fun i => ith l' i * d) := by
    rw [isum_take_range _ _ _ hl, isum_take_range _ _ _ hl', hs, hs', Int.mul_right_comm]
  have no : ∀ (p q : List Int) (u v : Int), 0 < u → 0 < v → AllFair xs p u → AllFair xs q v → ∀ i j, i < xs.length → j < xs.length → ith p i * v < ith q i * u → ith q j * u < ith p j * v → False := by
    intro p q u v hu hv hp hq i j hi hj h1 h2
    have hij : i ≠ j := fun e => by subst e; omega
    have f1 := hp.both hi hj hij
    have f2 := hq.both hi hj hij
    have f3 := hp.both hj hi (Ne.symm hij)
    have f4 := hq.both hj hi (Ne.symm hij)
    have g1 := contP_scale v (ith p i + ith p j) (ith xs i * u) (ith xs j * u) (by omega)
    have g2 := contP_scale u (ith q i + ith q j) (ith xs i * v) (ith xs j * v) (by omega)
    have g3 := contP_scale v (ith p j + ith p i) (ith xs j * u) (ith xs i * u) (by omega)
    have g4 := contP_scale u (ith q j + ith q i) (ith xs j * v) (ith xs i * v) (by omega)
    rw [f1, Int.add_mul, Int.mul_assoc 2] at g1
    rw [f2, Int.add_mul, Int.mul_assoc 2, Int.mul_right_comm, Int.mul_right_comm (ith xs j)] at g2
    rw [f3, Int.add_mul, Int.mul_assoc 2] at g3
    rw [f4, Int.add_mul, Int.mul_assoc 2, Int.mul_right_comm, Int.mul_right_comm (ith xs i)] at g4
    generalize ith p i * v = a at *
    generalize ith p j * v = b at *
    generalize ith q i * u = a' at *
    generalize ith q j * u = b' at *
    generalize ith xs i * u * v = c at *
    generalize ith xs j * u * v = e at *
    rcases Int.le_total (a + b) (a' + b') with hle | hle
    · have := contP_mono (a := e) (b := c) (show b + a ≤ b' + a' by omega); omega
    · have := contP_mono (a := c) (b := e) hle; omega
  intro k hk
  rcases Int.lt_trichotomy (ith l k * d') (ith l' k * d) with h1 | h1 | h1
  · obtain ⟨j, hj, h2⟩ := isum_greater _ _ _ hsum k hk h1
    exact (no l l' d d' hd hd' h h' k j hk hj h1 h2).elim
  · exact h1
  · obtain ⟨j, hj, h2⟩ := isum_greater _ _ _ hsum.symm k hk h1
    exact (no l' l d' d hd' hd h' h k j hk hj h1 h2).elim
theorem gcdL_scale (g : Nat) : ∀ (l : List Int) (d : Int), gcdL (d * g) (l.map (· * (g : Int))) = gcdL d l * g := by
  have key : ∀ (l : List Int) (a : Nat), (l.map (· * (g : Int))).foldl (fun b n => Int.gcd b n) (a * g) = l.foldl (fun b n => Int.gcd b n) a * g := by
    intro l
    induction l with
    | nil => intro a; rfl
    | cons x l ih =>
      intro a
      simp only [List.map_cons, List.foldl_cons]
      rw [Int.natCast_mul, Int.gcd_mul_right, Int.natAbs_natCast, ih]
  intro l d
  unfold gcdL
  rw [Int.natAbs_mul, Int.natAbs_natCast]
  exact key l d.natAbs
theorem dvd_gcdL {c : Int} (l : List Int) (d : Int) (hd : c ∣ d) (hl : ∀ x ∈ l, c ∣ x) : c ∣ (gcdL d l : Int) := by
  have key : ∀ (l : List Int) (a : Nat), c ∣ (a : Int) → (∀ x ∈ l, c ∣ x) → c ∣ ((l.foldl (fun b n => Int.gcd b n) a : Nat) : Int) := by
    intro l
    induction l with
    | nil => intro a h _; exact h
    | cons x l ih =>
      intro a h hx
      exact ih _ (Int.dvd_coe_gcd h (hx x (by simp))) (fun y hy => hx y (by simp [hy]))
  exact key l _ (by rw [Int.dvd_natAbs]; exact hd) hl
/-- Two in lowest terms that stand for the same are the same. -/
theorem low_same {d d' : Int} {l l' : List Int} (hl : l.length = l'.length) (hd : 0 < d) (hd' : 0 < d') (hg : gcdL d l = 1) (hg' : gcdL d' l' = 1) (h : ∀ k, k < l.length → ith l k * d' = ith l' k * d) : l = l' ∧ d = d' := by
  have half : ∀ (d d' : Int) (l l' : List Int), 0 < d → 0 < d' → gcdL d l = 1 → (∀ k, k < l.length → ith l k * d' = ith l' k * d) → d ∣ d' := by
    intro d d' l l' hd hd' hg h
    have e : (d'.toNat : Int) = d' := Int.toNat_of_nonneg (by omega)
    have h1 := gcdL_scale d'.toNat l d
    rw [hg, Nat.one_mul] at h1
    rw [← e, ← h1]
    refine dvd_gcdL _ _ (Int.dvd_mul_right _ _) (fun x hx => ?_)
    obtain ⟨y, hy, rfl⟩ := List.mem_map.1 hx
    obtain ⟨k, hk, rfl⟩ := List.getElem_of_mem hy
    have := h k hk
    rw [show ith l k = l[k] by simp [ith, hk]] at this
    rw [e, this]
    exact Int.dvd_mul_left _ _
  have h1 := half d d' l l' hd hd' hg h
  have h2 := half d' d l' l hd' hd hg' (fun k hk => (h k (by omega)).symm)
  have e := Int.dvd_antisymm (by omega) (by omega) h1 h2
  subst e
  refine ⟨?_, rfl⟩
  refine List.ext_getElem hl fun k h3 h4 => ?_
  have := h k h3
  rw [show ith l k = l[k] by simp [ith, h3], show ith l' k = l'[k] by simp [ith, h4]] at this
  exact Int.eq_of_mul_eq_mul_right (show d ≠ 0 by omega) this
theorem share_three {E : Int} {xs : List Int} {q : List Int × Int} (h : shareP 3 E xs = some q) : IsProb E xs ∧ q = lowP (talmudP E xs) ∧ IsSh E xs q.1 q.2 ∧ AllFair xs q.1 q.2 := by
  obtain ⟨hP, hS⟩ := share_is h
  unfold shareP at h
  split at h
  · rw [Option.some.injEq] at h
    subst h
    have hr : ruleP 3 E xs = talmudP E xs := by simp [ruleP]
    have hsh := rule_shares (rule := 3) hP
    rw [hr] at hsh hS ⊢
    exact ⟨hP, rfl, hS, (talmud_allFair hP).low hsh⟩
  · simp at h
theorem is_only {E d d' : Int} {xs l l' : List Int} (h : IsSh E xs l d) (h' : IsSh E xs l' d') (hf : AllFair xs l d) (hf' : AllFair xs l' d') : l = l' ∧ d = d' := by
  have hd := h.den
  have hd' := h'.den
  refine low_same (by rw [h.len, h'.len]) (by omega) (by omega) h.low h'.low (fun k hk => ?_)
  exact fair_only h.len h'.len (by omega) (by omega) h.sum h'.sum hf hf' k (by rw [← h.len]; exact hk)
/-- Of two claims the Talmud's shares are those of the contest. -/
theorem contest_talmud {E a b : Int} {q : List Int × Int} (h : shareP 3 E [a, b] = some q) : contestP E a b = some q := by
  obtain ⟨hP, hq, hS, hF⟩ := share_three h
  obtain ⟨p1, p2, p3, p4, p5, p6, p7⟩ := prob_two hP
  have hin := contP_in p1 p3 p5 p7
  have hsh : Shares E [a, b] ([contP E a b, 2 * E - contP E a b], 2) := by
    refine ⟨rfl, ⟨by simp, by simp⟩, fun k hk => ?_, ?_⟩
    · match k, hk with
      | 0, _ => simp [ith]; omega
      | 1, _ => simp [ith]; omega
      | k + 2, hk => exact absurd hk (by simp)
    · simp only [isum_cons, isum_nil]; omega
  have hfa : AllFair [a, b] ([contP E a b, 2 * E - contP E a b]) 2 := by
    intro i j hij hj
    have hj2 : j < 2 := hj
    obtain rfl : i = 0 := by omega
    obtain rfl : j = 1 := by omega
    simp only [ith, List.getD_cons_zero, List.getD_cons_succ]
    have e : contP E a b + (2 * E - contP E a b) = E * 2 := by omega
    rw [e, contP_scale _ _ _ _ (by omega)]
    omega
  obtain ⟨e1, e2⟩ := is_only (low_is hsh) hS (hfa.low hsh) hF
  have e3 : contestP E a b = some (lowP ([contP E a b, 2 * E - contP E a b], 2)) := by
    unfold contestP; rw [if_pos ((probB_true E [a, b]).2 hP)]
  rw [e3]
  exact congrArg some (Prod.ext e1 e2)
end Go.Proofs.Ytcngecibljgndaa
