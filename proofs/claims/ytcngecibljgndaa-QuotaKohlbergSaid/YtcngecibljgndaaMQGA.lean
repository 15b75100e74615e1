/- The specification's Game. -/
import Derived.Test.YtcngecibljgndaaMQCA
namespace Go.Proofs.Ytcngecibljgndaa
open Go.RowKit Go.Shelf

theorem rem0_all : ∀ s : Fin 128, ∀ c : Fin 7, (Int.tmod ((s.val : Int) / 2 ^ c.val) 2 == 0) = !s.val.testBit c.val := by decide +kernel
theorem rem0_test (s c : Nat) (hs : s < 128) (hc : c < 7) : (Int.tmod ((s : Int) / 2 ^ c) 2 == 0) = !s.testBit c := rem0_all ⟨s, hs⟩ ⟨c, hc⟩
set_option maxRecDepth 100000 in
set_option maxHeartbeats 1000000 in
theorem refGame_calls (w : World) (E : Int) (ao : Option Addr) (cap : Nat) (xs : List Int) (hI : IntsIn w ao xs) :
    Calls Try.prog 46 #[.int .i64 E, .slice ao xs.length cap] w (GameRes w E xs) := by
  obtain ⟨i0, hi, hz0, hz1, hz2⟩ := info_parts info_int
  go_enter Try.func46, Try.ntmps46
  go_wp2_with fail
  refine (refProblem_calls _ E ao cap xs hI).mono ?_
  rintro e w2 ⟨rfl, hx2⟩
  cases hp : probB E xs with
  | false =>
    have HP := Lib.hid hp
    clear hp
    go_wp2_with fail
    go_ret2
    exact .inl ⟨HP.out, rfl, hx2⟩
  | true =>
    have hP := (probB_true E xs).1 hp
    have HP := Lib.hid hp
    clear hp
    have HU := Lib.hid hP.claims
    have hl := hP.seven
    have hE := hP.estate
    clear hP
    obtain ⟨W, hW⟩ : ∃ W, W ≤ w2.heap.size ∧ w2.heap.size ≤ W := ⟨_, Nat.le_refl _, Nat.le_refl _⟩
    obtain ⟨N, hN, HN, hNb⟩ : ∃ N : Nat, (2 : Int) ^ xs.length = N ∧ Hid (N = 2 ^ xs.length) ∧ N ≤ 128 := by
      refine ⟨2 ^ xs.length, by simp, Lib.hid rfl, ?_⟩
      have : 2 ^ xs.length ≤ 2 ^ 7 := Nat.pow_le_pow_right (by omega) hl
      omega
    go_wp2_with fail
    go_loopw [6, 7] (fun ov i wr => ∃ k : Nat, k ≤ N ∧ i = .int .i64 k ∧ Ext w2 wr ∧ Own wr W 1 ov (ints ((List.range k).map fun s => max (leftP E xs s xs.length) 0))) (fun _ i _ => N - (intOf i).toNat)
    case atStart => exact ⟨0, by omega, rfl, Ext.refl _, Own.nil _ _ _⟩
    case round =>
      obtain ⟨k, hk, rfl, hx, ho⟩ := hrel
      have hWr : W ≤ wr.heap.size := by have := hx.size; omega
      by_cases hlt : k < N
      · go_wp2_with fail
        go_loopw [8, 9] (fun lv i ws => ∃ j : Nat, j ≤ xs.length ∧ i = .int .i64 j ∧ lv = .int .i64 (leftP E xs k j) ∧ Ext wr ws) (fun _ i _ => xs.length - (intOf i).toNat)
        case atStart => exact ⟨0, by omega, rfl, rfl, Ext.refl _⟩
        case round =>
          obtain ⟨j, hj, rfl, rfl, hx3⟩ := hrel
          have hlb := leftP_bounds E xs HU.out k j hj
          by_cases hlt2 : j < xs.length
          · obtain ⟨b, off, rfl, hb, hc⟩ := hI.ext ((hx2.trans hx).trans hx3) j hlt2
            have hxj := HU.out.at_ j hlt2
            have hbt := rem0_test k j (by omega) (by omega)
            cases hb : k.testBit j with
            | true =>
              rw [hb, Bool.not_true] at hbt
              have HB := Lib.hid (leftP_in E xs k j hb)
              clear hb
              go_wp2_with fail
              exact ⟨⟨j + 1, by omega, rfl, by rw [HB.out], hx3⟩, by simp only [intOf]; omega⟩
            | false =>
              rw [hb, Bool.not_false] at hbt
              have HB := Lib.hid (leftP_out E xs k j hb)
              clear hb
              go_wp2_with fail
              exact ⟨⟨j + 1, by omega, rfl, by rw [HB.out], hx3⟩, by simp only [intOf]; omega⟩
          · obtain rfl : j = xs.length := by omega
            have ho3 := ho.ext hx3
            have hs2 := hx3.size
            replace hx3 := hx.trans hx3
            have hlow := ho3.lt
            clear ho
            have hkl : ((List.range k).map fun s => max (leftP E xs s xs.length) 0).length = k := by simp
            by_cases h0 : 0 ≤ leftP E xs k xs.length
            · have HM : Hid (max (leftP E xs k xs.length) 0 = (leftP E xs k xs.length)) := Lib.hid (by omega)
              have hM : max 0 (leftP E xs k xs.length) = (leftP E xs k xs.length) := by omega
              go_wp2_with (at_builtin; refine wpList_append_Own _ rfl _ _ 22 rfl 3 i0 (.int .i64 0) 1 8 Try.underlying22 hi hz0 hz1 hz2 rfl (by omega) W _ _ rfl (Own.ext ho3 ((Ext.refl _).alloc _)) (by first | omega | (simp; omega)) _ 1 1 [.int .i64 ((leftP E xs k xs.length) : Int)] rfl rfl (one_cell _ _ _ _ rfl) (by simp [Value.oneCell']) (by simp [ints_length, hkl]; unfold maxLen; omega) (by simp [ints_length, hkl]; omega) ?_; intro v5 w5 ho5 hg5 hb5)
              have e2 : ((List.range k).map fun s => max (leftP E xs s xs.length) 0) ++ [(leftP E xs k xs.length)] = (List.range (k + 1)).map fun s => max (leftP E xs s xs.length) 0 := by rw [range_snoc, HM.out]
              rw [ints_snoc, e2] at ho5
              exact ⟨⟨k + 1, by omega, rfl, (hx3.alloc _).onto hg5 (fun q hq => by have := (hlow q hq).1; omega), ho5⟩, by simp only [intOf]; omega⟩
            · have HM : Hid (max (leftP E xs k xs.length) 0 = 0) := Lib.hid (by omega)
              have hM : max 0 (leftP E xs k xs.length) = 0 := by omega
              go_wp2_with (at_builtin; refine wpList_append_Own _ rfl _ _ 22 rfl 3 i0 (.int .i64 0) 1 8 Try.underlying22 hi hz0 hz1 hz2 rfl (by omega) W _ _ rfl (Own.ext ho3 ((Ext.refl _).alloc _)) (by first | omega | (simp; omega)) _ 1 1 [.int .i64 (0 : Int)] rfl rfl (one_cell _ _ _ _ rfl) (by simp [Value.oneCell']) (by simp [ints_length, hkl]; unfold maxLen; omega) (by simp [ints_length, hkl]; omega) ?_; intro v5 w5 ho5 hg5 hb5)
              have e2 : ((List.range k).map fun s => max (leftP E xs s xs.length) 0) ++ [0] = (List.range (k + 1)).map fun s => max (leftP E xs s xs.length) 0 := by rw [range_snoc, HM.out]
              rw [ints_snoc, e2] at ho5
              exact ⟨⟨k + 1, by omega, rfl, (hx3.alloc _).onto hg5 (fun q hq => by have := (hlow q hq).1; omega), ho5⟩, by simp only [intOf]; omega⟩
      · obtain rfl : k = N := by omega
        go_wp2_with fail
        go_ret2
        refine .inr ⟨HP.out, _, rfl, ?_, hx2.trans hx⟩
        rw [gameP, ← HN.out]
        exact ho.rebase (by have := hx2.size; omega)
end Go.Proofs.Ytcngecibljgndaa
