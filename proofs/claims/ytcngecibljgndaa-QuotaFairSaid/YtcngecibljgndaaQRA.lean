/- The specification's Gcd, Problem, Lowest, IsShares, Is. -/
import Derived.Test.YtcngecibljgndaaQH
namespace Go.Proofs.Ytcngecibljgndaa
open Go.RowKit Go.Shelf

theorem refGcd_calls (w : World) (a b : Int) (ha : -4611686018427387904 ≤ a ∧ a ≤ 4611686018427387904) (hb : -4611686018427387904 ≤ b ∧ b ≤ 4611686018427387904) :
    Calls Try.prog 85 #[.int .i64 a, .int .i64 b] w fun e w' => e = .returned (.int .i64 (Int.gcd a b)) ∧ Ext w w' := by
  go_enter Try.func85, Try.ntmps85
  go_wp2_with fail
  go_loopw [0, 1] (fun x y wr => ∃ p q : Int, x = .int .i64 p ∧ y = .int .i64 q ∧ Hid (Int.gcd p q = Int.gcd a b) ∧ (-4611686018427387904 ≤ p ∧ p ≤ 4611686018427387904) ∧ (-4611686018427387904 ≤ q ∧ q ≤ 4611686018427387904) ∧ Ext w wr) (fun _ y _ => (intOf y).natAbs)
  case atStart => exact ⟨a, b, rfl, rfl, Lib.hid rfl, ha, hb, Ext.refl _⟩
  case round =>
    obtain ⟨p, q, rfl, rfl, HG, hp, hq, hx⟩ := hrel
    by_cases h0 : q = 0
    · subst h0
      have hg := HG.out
      by_cases hn : p < 0
      · go_wp2_with fail
        go_ret
        refine ⟨ret_int ?_, hx⟩
        rw [← hg, Int.gcd_zero]
        omega
      · go_wp2_with fail
        go_ret
        refine ⟨ret_int ?_, hx⟩
        rw [← hg, Int.gcd_zero]
        omega
    · have hm := Int.tmod_lt_of_pos
      have h1 : (p.tmod q).natAbs < q.natAbs := by
        rw [Int.natAbs_tmod]; exact Nat.mod_lt _ (by omega)
      go_wp2_with fail
      go_region
      go_wp2_with fail
      refine ⟨⟨q, p.tmod q, rfl, rfl, Lib.hid ?_, hq, by omega, (by repeat (first | exact Ext.refl _ | assumption | refine Ext.alloc ?_ _ | refine Ext.drewN ?_ _ | refine Ext.drew ?_))⟩, by simp only [intOf]; omega⟩
      rw [← HG.out, Int.gcd, Int.gcd, Int.natAbs_tmod, Nat.gcd_comm, ← Nat.gcd_rec, Nat.gcd_comm]

theorem probB_est {E : Int} {xs : List Int} (h : ¬ (0 ≤ E ∧ E ≤ 100000)) : probB E xs = false := by
  cases hp : probB E xs with
  | false => rfl
  | true => exact absurd ((probB_true E xs).1 hp).estate h
theorem probB_len {E : Int} {xs : List Int} (h : ¬ (1 ≤ xs.length ∧ xs.length ≤ 7)) : probB E xs = false := by
  cases hp : probB E xs with
  | false => rfl
  | true => exact absurd ⟨((probB_true E xs).1 hp).one, ((probB_true E xs).1 hp).seven⟩ h
theorem probB_claim {E : Int} {xs : List Int} {k : Nat} (hk : k < xs.length) (h : ¬ (0 ≤ ith xs k ∧ ith xs k ≤ 100000)) : probB E xs = false := by
  cases hp : probB E xs with
  | false => rfl
  | true => exact absurd (((probB_true E xs).1 hp).claims.at_ k hk) h
theorem probB_sum {E : Int} {xs : List Int} (h1 : 0 ≤ E ∧ E ≤ 100000) (h2 : 1 ≤ xs.length ∧ xs.length ≤ 7) (h3 : ∀ k, k < xs.length → 0 ≤ ith xs k ∧ ith xs k ≤ 100000) : probB E xs = decide (E ≤ isum xs) := by
  have hu : Upto 100000 xs := fun x hx => by
    obtain ⟨j, hj, rfl⟩ := List.getElem_of_mem hx
    have := h3 j hj
    rw [show ith xs j = xs[j] by simp [ith, hj]] at this
    exact this
  by_cases h : E ≤ isum xs
  · rw [decide_eq_true h]; exact (probB_true E xs).2 ⟨h1, h2.1, h2.2, hu, h⟩
  · rw [decide_eq_false h]
    cases hp : probB E xs with
    | false => rfl
    | true => exact absurd ((probB_true E xs).1 hp).enough h
set_option maxRecDepth 100000 in
theorem refProblem_calls (w : World) (E : Int) (ao : Option Addr) (cap : Nat) (xs : List Int) (hI : IntsIn w ao xs) :
    Calls Try.prog 49 #[.int .i64 E, .slice ao xs.length cap] w fun e w' => e = .returned (.bool (probB E xs)) ∧ Ext w w' := by
  go_enter Try.func49, Try.ntmps49
  by_cases h1 : 0 ≤ E
  · by_cases h2 : E ≤ 100000
    · by_cases h3 : 1 ≤ xs.length
      · by_cases h4 : xs.length ≤ 7
        · go_wp2_with fail
          go_loopw [5, 6] (fun s i wr => ∃ k : Nat, k ≤ xs.length ∧ i = .int .i64 k ∧ s = .int .i64 (isum (xs.take k)) ∧ (0 ≤ isum (xs.take k) ∧ isum (xs.take k) ≤ 100000 * k) ∧ Hid (∀ j, j < k → 0 ≤ ith xs j ∧ ith xs j ≤ 100000) ∧ Ext w wr) (fun _ i _ => xs.length - (intOf i).toNat)
          case atStart => exact ⟨0, by omega, rfl, rfl, by simp [isum_nil], Lib.hid (fun j hj => by omega), Ext.refl _⟩
          case round =>
            obtain ⟨k, hk, rfl, rfl, hb, HX, hx⟩ := hrel
            by_cases hlt : k < xs.length
            · obtain ⟨b, off, rfl, hb2, hc⟩ := hI.ext hx k hlt
              have hst := isum_take xs k hlt
              by_cases h5 : 0 ≤ ith xs k
              · by_cases h6 : ith xs k ≤ 100000
                · have HST := Lib.hid hst
                  clear hst
                  go_wp2_with fail
                  refine ⟨⟨k + 1, by omega, rfl, by rw [HST.out], by rw [HST.out]; omega, Lib.hid (fun j hj => ?_), hx⟩, by simp only [intOf]; omega⟩
                  rcases Nat.lt_or_ge j k with h | h
                  · exact HX.out j h
                  · rw [show j = k by omega]; exact ⟨h5, h6⟩
                · have HN := Lib.hid (probB_claim (E := E) hlt (by omega))
                  go_wp2_with fail
                  go_ret
                  exact ⟨ret_bool HN.out.symm, (by repeat (first | exact Ext.refl _ | assumption | refine Ext.alloc ?_ _ | refine Ext.drewN ?_ _ | refine Ext.drew ?_))⟩
              · have HN := Lib.hid (probB_claim (E := E) hlt (by omega))
                go_wp2_with fail
                go_ret
                exact ⟨ret_bool HN.out.symm, (by repeat (first | exact Ext.refl _ | assumption | refine Ext.alloc ?_ _ | refine Ext.drewN ?_ _ | refine Ext.drew ?_))⟩
            · obtain rfl : k = xs.length := by omega
              rw [List.take_length] at hb ⊢
              have HP := Lib.hid (probB_sum (E := E) (xs := xs) (by omega) (by omega) HX.out)
              go_wp2_with fail
              go_ret
              refine ⟨ret_bool ?_, hx⟩
              rw [HP.out]
        · have HN := Lib.hid (probB_len (E := E) (xs := xs) (by omega))
          go_wp2_with fail
          go_ret
          exact ⟨ret_bool HN.out.symm, (by repeat (first | exact Ext.refl _ | assumption | refine Ext.alloc ?_ _ | refine Ext.drewN ?_ _ | refine Ext.drew ?_))⟩
      · have HN := Lib.hid (probB_len (E := E) (xs := xs) (by omega))
        go_wp2_with fail
        go_ret
        exact ⟨ret_bool HN.out.symm, (by repeat (first | exact Ext.refl _ | assumption | refine Ext.alloc ?_ _ | refine Ext.drewN ?_ _ | refine Ext.drew ?_))⟩
    · have HN := Lib.hid (probB_est (E := E) (xs := xs) (by omega))
      go_wp2_with fail
      go_ret
      exact ⟨ret_bool HN.out.symm, (by repeat (first | exact Ext.refl _ | assumption | refine Ext.alloc ?_ _ | refine Ext.drewN ?_ _ | refine Ext.drew ?_))⟩
  · have HN := Lib.hid (probB_est (E := E) (xs := xs) (by omega))
    go_wp2_with fail
    go_ret
    exact ⟨ret_bool HN.out.symm, (by repeat (first | exact Ext.refl _ | assumption | refine Ext.alloc ?_ _ | refine Ext.drewN ?_ _ | refine Ext.drew ?_))⟩
end Go.Proofs.Ytcngecibljgndaa
