/- The specification's Within. -/
import Derived.Test.YtcngecibljgndaaBJ
namespace Go.Proofs.Ytcngecibljgndaa
open Go.RowKit Go.Shelf

theorem field_D (w : World) (b : Bool) (o : Option Addr) (n c : Nat) : (Instr.field 39 (.agg #[.bool b, .slice o n c]) 1).run Try.prog w = .ok (.slice o n c) w := by kernel_rfl
theorem div_next (n i : Nat) : n / 10000 ^ i = n / 10000 ^ (i + 1) * 10000 + dig n i := by
  have h := Nat.div_add_mod (n / 10000 ^ i) 10000
  rw [Nat.div_div_eq_div_mul, ← Nat.pow_succ] at h
  have h2 : dig n i = n / 10000 ^ i % 10000 := rfl
  rw [h2, Nat.mul_comm]
  exact h.symm
/-- A whole number, and whether it is within a limit. -/
def withinV (z most : Int) : Int := if (z.natAbs : Int) ≤ most then z else 0
def withinB (z most : Int) : Bool := decide ((z.natAbs : Int) ≤ most)
set_option maxRecDepth 100000 in
set_option maxHeartbeats 2000000 in
theorem within_calls (w : World) (nb : Bool) (zo : Option Addr) (A zc : Nat) (z most : Int) (hZ : Num w z nb zo A) (hA : A ≤ 100000) (hm : 0 ≤ most ∧ most ≤ 4611686018427387904) :
    Calls Try.prog 84 #[.agg #[.bool nb, .slice zo A zc], .int .i64 most] w fun e w' => e = .returned (.tuple #[.int .i64 (withinV z most), .bool (withinB z most)]) ∧ Ext w w' := by
  have hfd := field_D
  go_enter Try.func84, Try.ntmps84
  go_wp2_with fail
  have hx1 : Ext w (w.alloc (.cells #[.bool nb, .slice zo A zc] 39)) := (by repeat (first | exact Ext.refl _ | assumption | refine Ext.alloc ?_ _ | refine Ext.drewN ?_ _ | refine Ext.drew ?_))
  have hb1 := NBox.new w 39 (.bool nb) (.slice zo A zc)
  generalize (w.alloc (.cells #[.bool nb, .slice zo A zc] 39)) = w1 at *
  obtain ⟨R, hR⟩ : ∃ R, R = w.heap.size := ⟨_, rfl⟩
  rw [← hR] at hb1 ⊢
  clear hR
  have hZ1 := hZ.ext hx1
  have HN := Lib.hid hZ.neg
  have hmz := hZ.digs.many
  obtain ⟨m, hm'⟩ : ∃ m : Nat, (m : Int) = most := ⟨most.toNat, by omega⟩
  subst hm'
  obtain ⟨q0, q1, q2⟩ := id hb1
  have hcm := fun W bo c2 B h h' hB => cmpD_digs W zo bo zc c2 A B z.natAbs m h h' hA hB
  by_cases hle : z.natAbs ≤ m
  · have hcz : ¬ (0 < cmpZ z.natAbs m) := by unfold cmpZ; split <;> (try split) <;> omega
    have hcb : decide (0 < cmpZ z.natAbs m) = false := by simpa using hcz
    obtain ⟨cz, hcze⟩ : ∃ cz, cmpZ z.natAbs m = cz := ⟨_, rfl⟩
    rw [hcze] at hcz hcb
    simp only [hcze] at hcm
    clear hcze
    go_wp2_with fail
    go_region_held3 (fun w' => (w'.cell? ⟨R, 1, none⟩ = some (.slice zo A zc)))
      (exact (hb1.ext (by repeat (first | exact Ext.refl _ | with_reducible assumption | refine Ext.alloc ?_ _ | refine Ext.drew ?_ | (refine Ext.setOwn ?_ _ _ (by first | exact Nat.le_refl _ | exact hxk1.size | exact hxk2.size))))).c1)
      ((first
        | (go_at_call 109; refine (hcm _ bo1 bc1 B1 (hZ1.digs.ext (hxk1.trans (by repeat (first | exact Ext.refl _ | with_reducible assumption | refine Ext.alloc ?_ _ | refine Ext.drew ?_ | (refine Ext.setOwn ?_ _ _ (by first | exact Nat.le_refl _ | exact hxk1.size | exact hxk2.size)))))) (hB1.digs.ext (by repeat (first | exact Ext.refl _ | with_reducible assumption | refine Ext.alloc ?_ _ | refine Ext.drew ?_ | (refine Ext.setOwn ?_ _ _ (by first | exact Nat.le_refl _ | exact hxk1.size | exact hxk2.size))))) (by have := hB1.digs.many; have := many_i64 (n := (m : Int)) (by omega); omega)).mono ?_; rintro e v2 ⟨rfl, hx12⟩; have hxk2 : Ext w1 v2 := hxk1.trans (Ext.trans (by repeat (first | exact Ext.refl _ | with_reducible assumption | refine Ext.alloc ?_ _ | refine Ext.drew ?_ | (refine Ext.setOwn ?_ _ _ (by first | exact Nat.le_refl _ | exact hxk1.size | exact hxk2.size)))) hx12))
        | (go_at_call 73; refine (of_calls _ m (by omega)).mono ?_; intro e v1 hr1; obtain ⟨nb1, bo1, B1, bc1, rfl, hB1, hbk1, hx11⟩ := hr1.res; have hxk1 : Ext w1 v1 := Ext.trans (by repeat (first | exact Ext.refl _ | with_reducible assumption | refine Ext.alloc ?_ _ | refine Ext.drew ?_ | (refine Ext.setOwn ?_ _ _ (by first | exact Nat.le_refl _ | exact hxk1.size | exact hxk2.size)))) hx11)))
    have hbx2 := hb1.ext hxk2
    have hZ2 := hZ1.ext hxk2
    have hx02 := hx1.trans hxk2
    clear hr1 hB1 hx11 hx12 hxk1 hcz hcb hcm q0 q1 q2
    obtain ⟨q0, q1, q2⟩ := id hbx2
    have hw0 : IntKind.i64.wrap ((A : Int) - 1) = (A : Int) - 1 := by rw [IntKind.wrap_i64]; omega
    go_wp2_with fail
    go_loopw [6, 7] (fun n i wr => ∃ k : Nat, k ≤ A ∧ i = .int .i64 ((k : Int) - 1) ∧ n = .int .i64 ((z.natAbs / 10000 ^ k : Nat) : Int) ∧ Ext v2 wr) (fun _ i _ => (intOf i + 1).toNat)
    case atStart => exact ⟨A, by omega, rfl, by rw [Nat.div_eq_of_lt (by rw [← hmz]; exact lt_many _)]; rfl, Ext.refl _⟩
    case round =>
      rename World => wr
      obtain ⟨k, hk, rfl, rfl, hx⟩ := hrel
      obtain ⟨q0, q1, q2⟩ := hbx2.ext hx
      by_cases hk0 : k = 0
      · subst hk0
        rw [Nat.pow_zero, Nat.div_one]
        have h1 : ((z.natAbs : Int) ≤ (m : Int)) := by omega
        have HE : Hid (withinV z m = z ∧ withinB z m = true) := Lib.hid ⟨if_pos h1, decide_eq_true h1⟩
        cases hnb : nb with
        | true =>
          have hz : z < 0 := by have := HN.out; rw [hnb] at this; simpa using this.symm
          have HZ : Hid (-(z.natAbs : Int) = z) := Lib.hid (by omega)
          have hw1 : IntKind.i64.wrap (-(z.natAbs : Int)) = -(z.natAbs : Int) := by rw [IntKind.wrap_i64]; omega
          obtain ⟨y, hy⟩ : ∃ y, z.natAbs = y := ⟨_, rfl⟩
          rw [hy] at HZ hw1 ⊢
          subst hnb
          clear hy h1
          go_wp2_with fail
          go_ret2
          exact ⟨by rw [HE.out.1, HE.out.2, HZ.out]; rfl, hx02.trans hx⟩
        | false =>
          have hz : ¬ z < 0 := by have := HN.out; rw [hnb] at this; simpa using this.symm
          have HZ : Hid ((z.natAbs : Int) = z) := Lib.hid (by omega)
          obtain ⟨y, hy⟩ : ∃ y, z.natAbs = y := ⟨_, rfl⟩
          rw [hy] at HZ ⊢
          subst hnb
          clear hy h1
          go_wp2_with fail
          go_ret2
          exact ⟨by rw [HE.out.1, HE.out.2, HZ.out]; rfl, hx02.trans hx⟩
      · obtain ⟨j, rfl⟩ : ∃ j, k = j + 1 := ⟨k - 1, by omega⟩
        have hdn := div_next z.natAbs j
        have hdl := Nat.div_le_self z.natAbs (10000 ^ j)
        have hdg := dig_lt z.natAbs j
        obtain ⟨b5, o5, rfl, hb5, hc5⟩ := (hZ2.digs.ext hx).at_ j (by omega)
        obtain ⟨p, hp⟩ : ∃ p, z.natAbs / 10000 ^ j = p := ⟨_, rfl⟩
        obtain ⟨r, hr⟩ : ∃ r, z.natAbs / 10000 ^ (j + 1) = r := ⟨_, rfl⟩
        obtain ⟨g, hg⟩ : ∃ g, dig z.natAbs j = g := ⟨_, rfl⟩
        rw [hp, hr, hg] at hdn
        rw [hp] at hdl
        rw [hg] at hdg hc5
        rw [hr]
        have HP := Lib.hid hp
        have HDN : Hid ((r : Int) * 10000 + (g : Int) = ((p : Nat) : Int)) := Lib.hid (by omega)
        have hw1 : IntKind.i64.wrap ((r : Int) * 10000) = (r : Int) * 10000 := by rw [IntKind.wrap_i64]; omega
        have hw2 : IntKind.i64.wrap ((r : Int) * 10000 + (g : Int)) = (r : Int) * 10000 + (g : Int) := by rw [IntKind.wrap_i64]; omega
        have hj1 : ((j + 1 : Nat) : Int) - 1 = (j : Int) := by omega
        rw [hj1]
        have hj2 : (j : Int) < (A : Int) := by omega
        have hj3 : (0 : Int) ≤ (j : Int) := by omega
        clear hp hr hg hdn hj1
        go_wp2_with fail
        exact ⟨⟨j, by omega, rfl, by rw [HP.out]; exact congrArg (Value.int .i64) HDN.out, hx⟩, by simp only [intOf]; omega⟩
  · have hcz : 0 < cmpZ z.natAbs m := by unfold cmpZ; split <;> (try split) <;> omega
    have hcb : decide (0 < cmpZ z.natAbs m) = true := by simpa using hcz
    obtain ⟨cz, hcze⟩ : ∃ cz, cmpZ z.natAbs m = cz := ⟨_, rfl⟩
    rw [hcze] at hcz hcb
    simp only [hcze] at hcm
    clear hcze
    have HL := Lib.hid hle
    clear hle
    go_wp2_with fail
    go_region_held3 (fun w' => (w'.cell? ⟨R, 1, none⟩ = some (.slice zo A zc)))
      (exact (hb1.ext (by repeat (first | exact Ext.refl _ | with_reducible assumption | refine Ext.alloc ?_ _ | refine Ext.drew ?_ | (refine Ext.setOwn ?_ _ _ (by first | exact Nat.le_refl _ | exact hxk1.size | exact hxk2.size))))).c1)
      ((first
        | (go_at_call 109; refine (hcm _ bo1 bc1 B1 (hZ1.digs.ext (hxk1.trans (by repeat (first | exact Ext.refl _ | with_reducible assumption | refine Ext.alloc ?_ _ | refine Ext.drew ?_ | (refine Ext.setOwn ?_ _ _ (by first | exact Nat.le_refl _ | exact hxk1.size | exact hxk2.size)))))) (hB1.digs.ext (by repeat (first | exact Ext.refl _ | with_reducible assumption | refine Ext.alloc ?_ _ | refine Ext.drew ?_ | (refine Ext.setOwn ?_ _ _ (by first | exact Nat.le_refl _ | exact hxk1.size | exact hxk2.size))))) (by have := hB1.digs.many; have := many_i64 (n := (m : Int)) (by omega); omega)).mono ?_; rintro e v2 ⟨rfl, hx12⟩; have hxk2 : Ext w1 v2 := hxk1.trans (Ext.trans (by repeat (first | exact Ext.refl _ | with_reducible assumption | refine Ext.alloc ?_ _ | refine Ext.drew ?_ | (refine Ext.setOwn ?_ _ _ (by first | exact Nat.le_refl _ | exact hxk1.size | exact hxk2.size)))) hx12))
        | (go_at_call 73; refine (of_calls _ m (by omega)).mono ?_; intro e v1 hr1; obtain ⟨nb1, bo1, B1, bc1, rfl, hB1, hbk1, hx11⟩ := hr1.res; have hxk1 : Ext w1 v1 := Ext.trans (by repeat (first | exact Ext.refl _ | with_reducible assumption | refine Ext.alloc ?_ _ | refine Ext.drew ?_ | (refine Ext.setOwn ?_ _ _ (by first | exact Nat.le_refl _ | exact hxk1.size | exact hxk2.size)))) hx11)))
    have h1 : ¬ ((z.natAbs : Int) ≤ (m : Int)) := by have := HL.out; omega
    have HE : Hid (withinV z m = 0 ∧ withinB z m = false) := Lib.hid ⟨if_neg h1, decide_eq_false h1⟩
    clear h1
    go_wp2_with fail
    go_ret2
    refine ⟨?_, hx1.trans hxk2⟩
    rw [HE.out.1, HE.out.2]
    rfl
end Go.Proofs.Ytcngecibljgndaa
