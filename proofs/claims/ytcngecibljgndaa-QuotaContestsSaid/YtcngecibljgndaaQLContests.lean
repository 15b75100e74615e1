/- QuotaContests: the walk. -/
import Derived.Test.YtcngecibljgndaaRE
import Derived.Test.YtcngecibljgndaaQW
import Derived.Test.YtcngecibljgndaaQOpen
namespace Go.Proofs.Ytcngecibljgndaa
open Go.RowKit Go.Shelf

theorem parted_shape {w w' : World} {p : Option (List Int × Int)} {e : Ending} (h : Parted w p e w') : ∃ o c, e = .returned (.tuple #[.agg #[.slice o (p.getD ([], 0)).1.length c, .int .i64 (p.getD ([], 0)).2], .int .i64 (if p.isSome then 0 else 2)]) ∧ IntsIn w' o (p.getD ([], 0)).1 ∧ Ext w w' := by
  rcases h with ⟨rfl, rfl, hx⟩ | ⟨q, v, rfl, rfl, ho, hx⟩
  · exact ⟨none, 0, rfl, fun k hk => by simp at hk, hx⟩
  · obtain ⟨o, c, rfl, hI, -⟩ := ho.intsShape
    exact ⟨o, c, rfl, hI, hx⟩
set_option maxRecDepth 100000 in
set_option maxHeartbeats 4000000 in
theorem quotaContests_law (hA : AliveOK) (w : World) (E a b : Int) (hE : -9223372036854775808 ≤ E ∧ E ≤ 9223372036854775807) :
    Calls Try.prog 12 #[.int .i64 E, .int .i64 a, .int .i64 b] w (TrueRes w) := by
  obtain ⟨p, hp⟩ : ∃ p, contestP E a b = p := ⟨_, rfl⟩
  obtain ⟨l, hl⟩ : ∃ l, (p.getD ([], 0)).1 = l := ⟨_, rfl⟩
  obtain ⟨d, hd⟩ : ∃ d, (p.getD ([], 0)).2 = d := ⟨_, rfl⟩
  obtain ⟨er, her⟩ : ∃ er : Int, (if p.isSome then 0 else 2) = er := ⟨_, rfl⟩
  have hll : l.length ≤ 2 := by
    rw [← hl, ← hp]
    unfold contestP
    split <;> simp [lowP]
  have k1 := fun W => contest_calls W E a b
  have k2 := fun W => refContest_calls W E a b hE
  rw [hp] at k1 k2
  clear hp
  go_enter Try.func12, Try.ntmps12
  go_wp2_with fail
  refine (k1 _).mono ?_
  rintro e w1 h1
  obtain ⟨o1, c1, rfl, hI1, hx1⟩ := parted_shape h1
  rw [hl] at hI1
  rw [hl, hd, her]
  clear h1 k1
  go_wp2_with fail
  have hx2 : Ext w1 (w1.alloc (Obj.cells #[.slice o1 l.length c1, .int .i64 d] 26)) := (by repeat (first | exact Ext.refl _ | assumption | refine Ext.alloc ?_ _ | refine Ext.drewN ?_ _ | refine Ext.drew ?_))
  have hb1 := PBox.new w1 26 (.slice o1 l.length c1) d
  obtain ⟨B, hB⟩ : ∃ B, B = w1.heap.size := ⟨_, rfl⟩
  generalize (w1.alloc (Obj.cells #[.slice o1 l.length c1, .int .i64 d] 26)) = w2 at *
  rw [← hB] at hb1 ⊢
  clear hB
  refine (k2 _).mono ?_
  rintro e w3 h3
  obtain ⟨o3, c3, rfl, hI3, hx3⟩ := parted_shape h3
  rw [hl] at hI3
  rw [hl, hd, her]
  clear h3 k2 hl hd her
  obtain ⟨q0, q1, q2⟩ := hb1.ext hx3
  replace hI1 := (hI1.ext hx2).ext hx3
  have hx03 := (hx1.trans hx2).trans hx3
  have hpc := fun W h1 h2 => parts_calls W o1 o3 c1 c3 l l d d h1 h2 (by omega) (by omega)
  rw [show partsB d l d l = true by simp [partsB]] at hpc
  go_wp2_with fail
  have hx4 : Ext w3 (w3.alloc (Obj.cells #[.slice o3 l.length c3, .int .i64 d] 26)) := (by repeat (first | exact Ext.refl _ | assumption | refine Ext.alloc ?_ _ | refine Ext.drewN ?_ _ | refine Ext.drew ?_))
  refine (hpc _ (hI1.ext hx4) (hI3.ext hx4)).mono ?_
  rintro e w5 ⟨rfl, hx5⟩
  have hx05 := (hx03.trans hx4).trans hx5
  clear q0 q1 q2
  go_wp2_with fail
  refine (hA w _ hx05).mono ?_
  rintro e w9 ⟨rfl, hx9⟩
  go_wp2_with fail
  go_ret
  exact ⟨rfl, hx9⟩
end Go.Proofs.Ytcngecibljgndaa
