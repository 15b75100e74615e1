/- quota.Game, shaped; the core, plain. -/
import Derived.Test.YtcngecibljgndaaQI
import Derived.Test.YtcngecibljgndaaQPB
import Derived.Test.YtcngecibljgndaaQRB
namespace Go.Proofs.Ytcngecibljgndaa
open Go.RowKit Go.Shelf

/-- What both Game return. -/
def GameRes (w : World) (E : Int) (xs : List Int) (e : Ending) (w' : World) : Prop :=
  (probB E xs = false ∧ e = .returned (.tuple #[.slice none 0 0, .int .i64 2]) ∧ Ext w w') ∨
  (probB E xs = true ∧ ∃ v, e = .returned (.tuple #[v, .int .i64 0]) ∧ Own w' w.heap.size 1 v (ints (gameP E xs)) ∧ Ext w w')
theorem quotaGame_calls (w : World) (E : Int) (ao : Option Addr) (cap : Nat) (xs : List Int) (hI : IntsIn w ao xs) (hl : xs.length ≤ 1000000) :
    Calls Try.prog 34 #[.int .i64 E, .slice ao xs.length cap] w (GameRes w E xs) := by
  go_enter Try.func34, Try.ntmps34
  go_wp2_with fail
  refine (problem_calls _ E ao cap xs hI hl).mono ?_
  rintro e w2 ⟨rfl, hx2⟩
  cases hp : probB E xs with
  | false =>
    have HP := Lib.hid hp
    clear hp
    simp only [errI]
    go_wp2_with fail
    go_ret2
    exact .inl ⟨HP.out, rfl, hx2⟩
  | true =>
    have hP := (probB_true E xs).1 hp
    have HP := Lib.hid hp
    clear hp
    simp only [errI]
    go_wp2_with fail
    refine (game_calls _ E ao cap xs (hI.ext hx2) hP.seven hP.claims hP.estate).mono ?_
    rintro e w3 ⟨v, rfl, ho, hx3⟩
    go_wp2_with fail
    go_ret2
    exact .inr ⟨HP.out, v, rfl, ho.rebase hx2.size, hx2.trans hx3⟩
theorem shaped_calls (w : World) (lo : Option Addr) (lcap : Nat) (l : List Int) (d : Int) (n : Nat) :
    Calls Try.prog 27 #[.agg #[.slice lo l.length lcap, .int .i64 d], .int .i64 n] w fun e w' => e = .returned (.bool (decide (l.length = n ∧ 0 < d))) ∧ Ext w w' := by
  go_enter Try.func27, Try.ntmps27
  have hx1 : Ext w (w.alloc (Obj.cells #[.slice lo l.length lcap, .int .i64 d] 26)) := (by repeat (first | exact Ext.refl _ | assumption | refine Ext.alloc ?_ _ | refine Ext.drewN ?_ _ | refine Ext.drew ?_))
  have hbx := PBox.new w 26 (.slice lo l.length lcap) d
  by_cases h1 : l.length = n
  · have h1b : ((l.length : Int) == (n : Int)) = true := by simp; omega
    by_cases h2 : 0 < d
    · have HN := Lib.hid (show decide (l.length = n ∧ 0 < d) = true by simp; omega)
      clear h1
      go_wp2_with fail
      go_ret
      exact ⟨ret_bool HN.out.symm, hx1⟩
    · have HN := Lib.hid (show decide (l.length = n ∧ 0 < d) = false by simp; omega)
      clear h1
      go_wp2_with fail
      go_ret
      exact ⟨ret_bool (by rw [← HN.out, Bool.decide_and]), hx1⟩
  · have h1b : ((l.length : Int) == (n : Int)) = false := by simp; omega
    have HN := Lib.hid (show decide (l.length = n ∧ 0 < d) = false by simp; omega)
    clear h1
    go_wp2_with fail
    go_ret
    exact ⟨ret_bool (by rw [← HN.out, Bool.decide_and]), hx1⟩

/-- The sum of those of a set. -/
def setP (l : List Int) (s : Nat) : Nat → Int
  | 0 => 0
  | k + 1 => setP l s k + if s.testBit k = true then ith l k else 0
theorem setP_in (l : List Int) (s k : Nat) (h : s.testBit k = true) : setP l s (k + 1) = setP l s k + ith l k := by rw [setP, if_pos h]
theorem setP_out (l : List Int) (s k : Nat) (h : s.testBit k = false) : setP l s (k + 1) = setP l s k := by rw [setP, h]; simp
theorem setP_bounds (l : List Int) (hu : Upto 100000000000 l) (s : Nat) : ∀ k, k ≤ l.length → 0 ≤ setP l s k ∧ setP l s k ≤ 100000000000 * k
  | 0, _ => by simp [setP]
  | k + 1, h => by
    have h1 := setP_bounds l hu s k (by omega)
    have h2 := hu.at_ k (by omega)
    rw [setP]
    split <;> omega
theorem is_upto {E d : Int} {xs l : List Int} (h : IsSh E xs l d) (hu : Upto 100000 xs) : Upto 100000000000 l := by
  intro x hx
  obtain ⟨j, hj, rfl⟩ := List.getElem_of_mem hx
  have h4 := h.num j (by rw [← h.len]; exact hj)
  have e : ith l j = l[j] := by simp [ith, hj]
  have hcx := hu.at_ j (by rw [← h.len]; exact hj)
  have hd := h.den
  have hpr : ith xs j * d ≤ 100000 * 1000000 := Int.mul_le_mul hcx.2 hd.2 (by omega) (by omega)
  rw [← e]; omega
theorem core_le {E d : Int} {xs l : List Int} (h : IsSh E xs l d) (s : Nat) : ∀ k, k ≤ xs.length → leftP E xs s k * d + isum (l.take k) ≤ E * d + setP l s k
  | 0, _ => by simp [leftP, isum_nil, setP]
  | k + 1, hk => by
    have ih := core_le h s k (by omega)
    have hn := h.num k (by omega)
    rw [isum_take l k (by rw [h.len]; omega)]
    cases hb : s.testBit k with
    | true => rw [leftP_in _ _ _ _ hb, setP_in _ _ _ hb]; omega
    | false => rw [leftP_out _ _ _ _ hb, setP_out _ _ _ hb, Int.sub_mul]; omega
theorem core_ok {E d : Int} {xs l : List Int} (h : IsSh E xs l d) (hu : Upto 100000 xs) (s : Nat) (hs : s < 2 ^ xs.length) : ith (gameP E xs) s * d ≤ setP l s xs.length := by
  have h1 := core_le h s xs.length (Nat.le_refl _)
  have h2 := (setP_bounds l (is_upto h hu) s xs.length (by rw [h.len]; omega)).1
  have h3 : l.take xs.length = l := by rw [← h.len, List.take_length]
  rw [h3, h.sum] at h1
  rw [gameP, ith_map_range _ _ _ hs]
  rcases Int.le_total 0 (leftP E xs s xs.length) with h4 | h4
  · rw [Int.max_eq_left h4]; omega
  · rw [Int.max_eq_right h4]; omega
theorem rem_all : ∀ s : Fin 128, ∀ c : Fin 7, (Int.tmod ((s.val : Int) / 2 ^ c.val) 2 == 1) = s.val.testBit c.val := by decide +kernel
theorem rem_test (s c : Nat) (hs : s < 128) (hc : c < 7) : (Int.tmod ((s : Int) / 2 ^ c) 2 == 1) = s.testBit c := rem_all ⟨s, hs⟩ ⟨c, hc⟩
end Go.Proofs.Ytcngecibljgndaa
