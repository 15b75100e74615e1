/- QuotaIs: the walk. -/
import Derived.Test.YtcngecibljgndaaQRB
import Derived.Test.YtcngecibljgndaaQOpen
namespace Go.Proofs.Ytcngecibljgndaa
open Go.RowKit Go.Shelf

set_option maxRecDepth 100000 in
theorem quotaIs_law (hA : AliveOK) (w : World) (E : Int) (ao lo : Option Addr) (cap lcap : Nat) (xs l : List Int) (d : Int) (hI : IntsIn w ao xs) (hJ : IntsIn w lo l) :
    Calls Try.prog 8 #[.int .i64 E, .slice ao xs.length cap, .agg #[.slice lo l.length lcap, .int .i64 d]] w (TrueRes w) := by
  go_enter Try.func8, Try.ntmps8
  go_wp2_with fail
  have hx1 : Ext w (w.alloc (Obj.cells #[.slice lo l.length lcap, .int .i64 d] 26)) := (by repeat (first | exact Ext.refl _ | assumption | refine Ext.alloc ?_ _ | refine Ext.drewN ?_ _ | refine Ext.drew ?_))
  have hbx := PBox.new w 26 (.slice lo l.length lcap) d
  obtain ⟨B, hB⟩ : ∃ B, B = w.heap.size := ⟨_, rfl⟩
  generalize (w.alloc (Obj.cells #[.slice lo l.length lcap, .int .i64 d] 26)) = w1 at *
  rw [← hB] at hbx ⊢
  clear hB
  refine (few_calls _ ao xs.length cap).mono ?_
  rintro e w2 ⟨rfl, hx2⟩
  have hx12 := hx1.trans hx2
  have hb2 := hbx.ext hx2
  obtain ⟨q0, q1, q2⟩ := id hb2
  cases hd : decide (xs.length ≤ 40) with
  | false =>
    go_wp2_with fail
    refine (hA w _ hx12).mono ?_
    rintro e w9 ⟨rfl, hx9⟩
    go_wp2_with fail
    go_ret
    exact ⟨rfl, hx9⟩
  | true =>
    go_wp2_with fail
    refine (few_calls _ lo l.length lcap).mono ?_
    rintro e w3 ⟨rfl, hx3⟩
    have hx13 := hx12.trans hx3
    have hb3 := hb2.ext hx3
    clear q0 q1 q2
    obtain ⟨q0, q1, q2⟩ := id hb3
    cases hd2 : decide (l.length ≤ 40) with
    | false =>
      go_wp2_with fail
      refine (hA w _ hx13).mono ?_
      rintro e w9 ⟨rfl, hx9⟩
      go_wp2_with fail
      go_ret
      exact ⟨rfl, hx9⟩
    | true =>
      have hl1 : xs.length ≤ 40 := by simpa using hd
      have hl2 : l.length ≤ 40 := by simpa using hd2
      obtain ⟨b, hb⟩ : ∃ b, (probB E xs && isB E xs l d) = b := ⟨_, rfl⟩
      obtain ⟨er, her⟩ : ∃ er, errI (probB E xs) = er := ⟨_, rfl⟩
      have k1 := fun W h1 h2 => quotaIs_calls W E ao lo cap lcap xs l d h1 h2 (by omega) (by omega)
      have k2 := fun W h1 h2 => refIs_calls W E ao lo cap lcap xs l d h1 h2 (by omega)
      unfold IsRes at k1 k2
      rw [hb, her] at k1 k2
      clear hb her
      go_wp2_with fail
      refine (k1 _ (hI.ext hx13) (hJ.ext hx13)).mono ?_
      rintro e w4 ⟨rfl, hx4⟩
      have hx14 := hx13.trans hx4
      have hb4 := hb3.ext hx4
      clear q0 q1 q2
      obtain ⟨q0, q1, q2⟩ := id hb4
      go_wp2_with fail
      refine (k2 _ (hI.ext hx14) (hJ.ext hx14)).mono ?_
      rintro e w5 ⟨rfl, hx5⟩
      have hx15 := hx14.trans hx5
      go_wp2_with fail
      refine (hA w _ hx15).mono ?_
      rintro e w9 ⟨rfl, hx9⟩
      go_wp2_with fail
      go_ret
      exact ⟨rfl, hx9⟩
end Go.Proofs.Ytcngecibljgndaa
