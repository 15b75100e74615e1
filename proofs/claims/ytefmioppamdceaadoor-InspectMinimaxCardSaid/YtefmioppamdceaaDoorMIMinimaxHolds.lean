/- The tied card of InspectMinimax: it returns true for all inputs and leaves its arguments as they were, where the package's three fractions read as the text lays them (the condition 'laid', tied by the card). -/
import Derived.Test.YtefmioppamdceaaDoorMKP
import Derived.Test.YtefmioppamdceaaDoorMIOpen
import Derived.Test.YtefmioppamdceaaDoorMKF
import Derived.Test.YtefmioppamdceaaDoorChecked
import Derived.Test.YtefmioppamdceaaDoorCards
import Derived.Test.YtefmioppamdceaaDoorTie
import Derived.SevenTiedAt
namespace Go.Proofs.YtefmioppamdceaaDoor
open Go.ChangeShapes Go.WideShapes Go.ChangeAt Go.RowKit

set_option maxRecDepth 100000 in
theorem inspectMinimax_lifted (os : Os) (started : os.Started) (H : Type) (enc : TypeId × Value → H) :
    ReturnsInHanded {} Tryd.checked os 8 .any (fun w args => (Rows.inspectMinimaxSpec.pre enc Tryd.prog Tryd.f8 [] false w args ∧ laidMetH Tryd.prog laidI3 w) ∧ sizedMet enc Tryd.prog Tryd.f8 (OpenSpec.ofChange Rows.inspectMinimaxSpec) false w args) (Rows.inspectMinimaxSpec.post enc Tryd.prog Tryd.f8 false true false false) := by
  refine returnsInHanded_of_change_and (C := Tryd.checked) (X := fun w _ => laidMetH Tryd.prog laidI3 w) (fun _ _ _ hh h => h.of_heap hh) own_any started (by kernel_rfl) Tryd.func8
    (ChangeSpec.witness_shaped (enc := enc) (C := Tryd.checked) (os := os) (X := fun w _ => laidMetH Tryd.prog laidI3 w) false (World.doorLaid Tryd.prog 400 os) #[.slice none 0 0, .agg #[.int .i64 0, .int .i64 0, .slice none 0 0, .int .i64 0, .slice none 0 0, .int .i64 0]] 8 rfl (World.shaped_of_RefB (by kernel_rfl) (by kernel_rfl)) (by kernel_rfl) (by kernel_rfl) (by kernel_rfl) (door_met os _)) ?_
  intro W base args ds gs before hval0 hW _ _ hL _
  have hG := glob_of_laid hL
  have hval : ∀ (j : Nat) t v, Tryd.f8.params[j]? = some t → args[j]? = some v → Value.okWide Tryd.prog W .any base t v := hval0
  have hW' := hW
  obtain ⟨p, q, hA0, hV, rfl, hfz, hnd⟩ := hW
  have hA : DataW.TrodAll enc Tryd.prog W 0 (fun _ => true) true Tryd.f8.params.toList args.toList ds p := hA0
  rw [Tryd.params8] at hA hval
  obtain ⟨al⟩ := args
  obtain ⟨v0, vs, d0, ds, p0, q0, e0, rfl, rfl, h0, hA⟩ := trodAll_cons hA
  obtain ⟨v1, vs, d1, ds, p1, q1, rfl, rfl, rfl, h1, hA⟩ := trodAll_cons hA
  obtain ⟨rfl, rfl, rfl⟩ := trodAll_nil hA
  simp only at e0
  subst e0
  obtain ⟨o0, cap0, g0, rfl, hg0, hc0, hlen0, hr0⟩ := open_game (hval 0 _ v0 rfl rfl) h0
  obtain ⟨s1, hs1⟩ := open_saddle (hval 1 _ v1 rfl rfl) h1
  refine (inspectMinimax_law W hG o0 cap0 g0 hg0 hc0 _ s1 hs1).mono fun e W' ⟨he, hx⟩ => ?_
  exact ⟨_, he, post_true hW' rfl (by kernel_rfl) rfl (by rw [Tryd.params8]; decide +kernel) hx⟩

theorem inspectMinimax_row : Rows.InspectMinimaxSaid :=
  OpenClaim.holds_of_wide 8 Tryd.f8 rfl rfl rfl rfl rfl rfl rfl ⟨rfl, rfl, rfl, rfl, rfl⟩ rfl rfl rfl rfl rfl (by kernel_rfl) Tryd.func8 (by kernel_rfl)
    (of_decide_eq_true (by kernel_rfl)) (by unfold Func.isWrapper; first | (rw [if_pos (by decide +kernel)]; kernel_rfl) | (rw [if_neg (by decide +kernel)]; exact ⟨rfl, rfl⟩))
    (fun os started H enc _ => inspectMinimax_lifted os started H enc)
theorem inspectMinimax_holds : Rows.InspectMinimaxCardSaid :=
  Claim7.holds_tied_plain_at .later [] [.data, .data, .data] true (true, "15b8968ca702c8cdce08a5137e5607781bf723db84a917bc730bf53d94e1a440") false
    inspectMinimax_row (fun _ h => by cases h) (by kernel_rfl) (fun _ h => by cases h) inspectMinimax_row_tie rfl ⟨rfl, rfl⟩ (by kernel_rfl) rfl
    (fun f fn hf hfn => by
      obtain rfl : f = 8 := Option.some.inj ((show Tryd.prog.funcNamed "cocket/cocketlaw06.InspectMinimax" = some 8 by kernel_rfl).symm.trans hf) |>.symm
      obtain rfl : fn = Tryd.f8 := (Option.some.inj (Tryd.func8.symm.trans hfn)).symm
      exact ⟨by kernel_rfl, fun j t ht => by
        have hm : t ∈ Tryd.f8.params.toList := by simpa using Array.mem_of_getElem? ht
        have hall : (Tryd.f8.params.toList.all fun u => !Tryd.prog.wantsStandIn u) = true := by kernel_rfl
        exact (show Tryd.prog.wantsStandIn t = false by simpa using List.all_eq_true.1 hall t hm)⟩)
    (by kernel_rfl)
end Go.Proofs.YtefmioppamdceaaDoor
