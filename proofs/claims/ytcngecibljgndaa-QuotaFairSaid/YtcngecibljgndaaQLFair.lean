/- QuotaFair: the walk. -/
import Derived.Test.YtcngecibljgndaaRF
import Derived.Test.YtcngecibljgndaaQW
import Derived.Test.YtcngecibljgndaaQOpen
namespace Go.Proofs.Ytcngecibljgndaa
open Go.RowKit Go.Shelf

/-- What both Fair say. -/
def FairIs (E : Int) (xs l : List Int) (d : Int) (L : List Int) (er : Int) : Prop :=
  (¬ (IsProb E xs ∧ IsSh E xs l d) ∧ L = [] ∧ er = 2) ∨ ((IsProb E xs ∧ IsSh E xs l d) ∧ FairTo xs l d xs.length 0 ∧ L = [] ∧ er = 0) ∨
  ((IsProb E xs ∧ IsSh E xs l d) ∧ ∃ i j : Nat, i < j ∧ j < xs.length ∧ FairTo xs l d i j ∧ offP xs l d i j = true ∧ L = [(i : Int), (j : Int)] ∧ er = 0)
theorem FairIs.one {E : Int} {xs l : List Int} {d : Int} {L L' : List Int} {er er' : Int} (h : FairIs E xs l d L er) (h' : FairIs E xs l d L' er') : L = L' ∧ er = er' := by
  rcases h with ⟨hn, rfl, rfl⟩ | ⟨hy, hf, rfl, rfl⟩ | ⟨hy, i, j, hij, hj, hf, ho, rfl, rfl⟩ <;> rcases h' with ⟨hn', rfl, rfl⟩ | ⟨hy', hf', rfl, rfl⟩ | ⟨hy', i', j', hij', hj', hf', ho', rfl, rfl⟩
  · exact ⟨rfl, rfl⟩
  · exact absurd hy' hn
  · exact absurd hy' hn
  · exact absurd hy hn'
  · exact ⟨rfl, rfl⟩
  · have := hf i' j' hij' hj' (.inl (by omega))
    rw [ho'] at this; simp at this
  · exact absurd hy hn'
  · have := hf' i j hij hj (.inl (by omega))
    rw [ho] at this; simp at this
  · have h1 : ¬ (i < i' ∨ (i = i' ∧ j < j')) := fun h => by
      have := hf' i j hij hj h
      rw [ho] at this; simp at this
    have h2 : ¬ (i' < i ∨ (i' = i ∧ j' < j)) := fun h => by
      have := hf i' j' hij' hj' h
      rw [ho'] at this; simp at this
    obtain rfl : i = i' := by omega
    obtain rfl : j = j' := by omega
    exact ⟨rfl, rfl⟩
theorem fair_shape {w w' : World} {E : Int} {xs l : List Int} {d : Int} {e : Ending} (h : FairRes w E xs l d e w') : ∃ o c L er, e = .returned (.tuple #[.slice o L.length c, .int .i64 er]) ∧ IntsIn w' o L ∧ L.length ≤ 2 ∧ FairIs E xs l d L er ∧ Ext w w' := by
  rcases h with ⟨hn, rfl, hx⟩ | ⟨hP, hS, hf, rfl, hx⟩ | ⟨hP, hS, i, j, hij, hj, hf, ho, v, rfl, hw, hx⟩
  · exact ⟨none, 0, [], 2, rfl, fun k hk => by simp at hk, by simp, .inl ⟨hn, rfl, rfl⟩, hx⟩
  · exact ⟨none, 0, [], 0, rfl, fun k hk => by simp at hk, by simp, .inr (.inl ⟨⟨hP, hS⟩, hf, rfl, rfl⟩), hx⟩
  · obtain ⟨o, c, rfl, hI, -⟩ := hw.intsShape
    exact ⟨o, c, _, 0, rfl, hI, by simp, .inr (.inr ⟨⟨hP, hS⟩, i, j, hij, hj, hf, ho, rfl, rfl⟩), hx⟩
set_option maxRecDepth 100000 in
theorem quotaFair_law (hA : AliveOK) (w : World) (E : Int) (ao lo : Option Addr) (cap lcap : Nat) (xs l : List Int) (d : Int) (hI : IntsIn w ao xs) (hJ : IntsIn w lo l) :
    Calls Try.prog 13 #[.int .i64 E, .slice ao xs.length cap, .agg #[.slice lo l.length lcap, .int .i64 d]] w (TrueRes w) := by
  go_enter Try.func13, Try.ntmps13
  go_wp2_with fail
  have hx1 : Ext w (w.alloc (Obj.cells #[.slice lo l.length lcap, .int .i64 d] 26)) := (by repeat (first | exact Ext.refl _ | assumption | refine Ext.alloc ?_ _ | refine Ext.drewN ?_ _ | refine Ext.drew ?_))
  have hbx := PBox.new w 26 (.slice lo l.length lcap) d
  obtain ⟨B, hB⟩ : ∃ B, B = w.heap.size := ⟨_, rfl⟩
  generalize (w.alloc (Obj.cells #[.slice lo l.length lcap, .int .i64 d] 26)) = w1 at *
  rw [← hB] at hbx ⊢
  clear hB
  refine (few_calls _ ao xs.length cap).mono ?_
  rintro e w2 ⟨rfl, hx2⟩
  have hx12 := hx1.trans hx2
  have hb2 := hbx.ext hx2
  obtain ⟨q0, q1, q2⟩ := id hb2
  cases hd : decide (xs.length ≤ 40) with
  | false =>
    go_wp2_with fail
    refine (hA w _ hx12).mono ?_
    rintro e w9 ⟨rfl, hx9⟩
    go_wp2_with fail
    go_ret
    exact ⟨rfl, hx9⟩
  | true =>
    go_wp2_with fail
    refine (few_calls _ lo l.length lcap).mono ?_
    rintro e w3 ⟨rfl, hx3⟩
    have hx13 := hx12.trans hx3
    have hb3 := hb2.ext hx3
    clear q0 q1 q2
    obtain ⟨q0, q1, q2⟩ := id hb3
    cases hd2 : decide (l.length ≤ 40) with
    | false =>
      go_wp2_with fail
      refine (hA w _ hx13).mono ?_
      rintro e w9 ⟨rfl, hx9⟩
      go_wp2_with fail
      go_ret
      exact ⟨rfl, hx9⟩
    | true =>
      have hl1 : xs.length ≤ 40 := by simpa using hd
      have hl2 : l.length ≤ 40 := by simpa using hd2
      have k1 := fun W h1 h2 => fair_calls W E ao lo cap lcap xs l d h1 h2 (by omega) (by omega)
      have k2 := fun W h1 h2 => refFair_calls W E ao lo cap lcap xs l d h1 h2 (by omega)
      clear hd hd2
      go_wp2_with fail
      refine (k1 _ (hI.ext hx13) (hJ.ext hx13)).mono ?_
      rintro e w4 h4
      obtain ⟨o4, c4, L, er, rfl, hI4, hL4, hF4, hx4⟩ := fair_shape h4
      have HF := Lib.hid hF4
      have hx14 := hx13.trans hx4
      have hb4 := hb3.ext hx4
      clear q0 q1 q2 h4 hF4 k1
      obtain ⟨q0, q1, q2⟩ := id hb4
      go_wp2_with fail
      refine (k2 _ (hI.ext hx14) (hJ.ext hx14)).mono ?_
      rintro e w5 h5
      obtain ⟨o5, c5, L', er', rfl, hI5, hL5, hF5, hx5⟩ := fair_shape h5
      obtain ⟨rfl, rfl⟩ := HF.out.one hF5
      have hx15 := hx14.trans hx5
      clear h5 hF5 HF k2 q0 q1 q2
      go_wp2_with fail
      refine (same_calls _ o4 o5 c4 c5 L L (hI4.ext hx5) hI5 (by omega) (by omega)).mono ?_
      rintro e w6 ⟨rfl, hx6⟩
      have hx16 := hx15.trans hx6
      rw [show decide (L = L) = true by simp]
      go_wp2_with fail
      refine (hA w _ hx16).mono ?_
      rintro e w9 ⟨rfl, hx9⟩
      go_wp2_with fail
      go_ret
      exact ⟨rfl, hx9⟩
end Go.Proofs.Ytcngecibljgndaa
