/- inTurn: what it makes. -/
import Derived.Test.YtcngecibljgndaaQE
import Derived.Test.YtcngecibljgndaaQC
namespace Go.Proofs.Ytcngecibljgndaa
open Go.RowKit Go.Shelf
attribute [local go_sem] run_store_fn

theorem made_ints (n : Nat) : madeCells (Value.int .i64 0).cells n = Array.replicate n (.int .i64 0) := by
  refine Array.ext (by simp [madeCells]) (fun i h1 h2 => ?_)
  simp [madeCells, Value.cells, Nat.mod_one]
theorem make_ints (n : Nat) (hn : n ≤ 100000) (W : World) : (Instr.makeSlice 22 (.int .i64 n) (.int .i64 n)).run Try.prog W = .ok (.slice (some ⟨W.heap.size, 0, none⟩) n n) (W.alloc (.cells (Array.replicate n (.int .i64 0)) 3)) := by
  obtain ⟨i0, hi, hz0, hz1, hz2⟩ := info_parts info_int
  have := run_make (P := Try.prog) W 22 3 i0 (.int .i64 0) Try.underlying22 hi hz0 .i64 .i64 n n (by omega) (Int.le_refl _) (by rw [hz2]; omega) (by omega)
  rw [hz1, Nat.mul_one, made_ints] at this
  simpa using this
theorem made_bools (n : Nat) : madeCells (Value.bool false).cells n = Array.replicate n (.bool false) := by
  refine Array.ext (by simp [madeCells]) (fun i h1 h2 => ?_)
  simp [madeCells, Value.cells, Nat.mod_one]
theorem make_bools (n : Nat) (hn : n ≤ 100000) (W : World) : (Instr.makeSlice 88 (.int .i64 n) (.int .i64 n)).run Try.prog W = .ok (.slice (some ⟨W.heap.size, 0, none⟩) n n) (W.alloc (.cells (Array.replicate n (.bool false)) 4)) := by
  obtain ⟨i0, hi, hz0, hz1, hz2⟩ := info_parts info_bool
  have := run_make (P := Try.prog) W 88 4 i0 (.bool false) Try.underlying88 hi hz0 .i64 .i64 n n (by omega) (Int.le_refl _) (by rw [hz2]; omega) (by omega)
  rw [hz1, Nat.mul_one, made_bools] at this
  simpa using this

set_option maxRecDepth 100000 in
set_option maxHeartbeats 4000000 in
theorem inTurn_calls (w : World) (E : Int) (ao : Option Addr) (cap : Nat) (xs : List Int) (hI : IntsIn w ao xs) (hl : xs.length ≤ 7) (hu : Upto 100000 xs) (hE : 0 ≤ E ∧ E ≤ 1000000) :
    Calls Try.prog 58 #[.int .i64 E, .slice ao xs.length cap] w (MadeTwo w (inTurnP E xs)) := by
  have hm1 := make_ints xs.length (by omega)
  have hm2 := make_bools xs.length (by omega)
  have hent := enters_next
  go_enter Try.func58, Try.ntmps58
  go_wp2_with fail
  refine (next_calls w w.heap.size ao cap xs hI (Nat.le_refl _) hl hu xs.length _ 0 E 0 (List.replicate xs.length false) ⟨List.replicate xs.length 0, List.replicate xs.length 0, 0⟩ ?_ (by repeat (first | exact Ext.refl _ | assumption | refine Ext.alloc ?_ _ | refine Ext.drewN ?_ _ | refine Ext.drew ?_)) (by omega) (by omega) ?_ ?_ (by simp) hE).mono ?_
  · constructor
    · simp
    · simp [go_sem]
    · simp [go_sem]
    · simp [go_sem]
    · simp [go_sem]
    · simp [go_sem]
    · simp [go_sem]
    · intro k hk; simp [go_sem, hk, ith]
    · intro k hk; simp [go_sem, hk, bth]
    · intro k hk; simp [go_sem, hk, ith]
  · exact ⟨by simp, by simp, fun k hk => by simp [ith, hk], fun k hk => by simp [ith, hk], by simp⟩
  · have : (7 : Int) ^ xs.length ≤ 7 ^ 7 := by
      have : 7 ^ xs.length ≤ 7 ^ 7 := Nat.pow_le_pow_right (by omega) hl
      exact_mod_cast this
    omega
  · rintro e w5 ⟨⟨v5, rfl⟩, hT5, hx5⟩
    have hok := (next_ok xs hu hl xs.length E (List.replicate xs.length false) ⟨List.replicate xs.length 0, List.replicate xs.length 0, 0⟩ 0 hE.1 ⟨by simp, by simp, fun k hk => by simp [ith, hk], fun k hk => by simp [ith, hk], by simp⟩).1
    have hP : inTurnP E xs = ((nextP xs xs.length E (List.replicate xs.length false) ⟨List.replicate xs.length 0, List.replicate xs.length 0, 0⟩).out, (nextP xs xs.length E (List.replicate xs.length false) ⟨List.replicate xs.length 0, List.replicate xs.length 0, 0⟩).ord) := rfl
    generalize nextP xs xs.length E (List.replicate xs.length false) ⟨List.replicate xs.length 0, List.replicate xs.length 0, 0⟩ = s at *
    have hq1 : w5.cell? ⟨w.heap.size + 1 + 1, 0, none⟩ = some (.slice (some ⟨w.heap.size + 1, 0, none⟩) xs.length xs.length) := hT5.bout
    have hq2 : w5.cell? ⟨w.heap.size + 1 + 1 + 1, 0, none⟩ = some (.int .i64 s.ord) := hT5.bord.1
    have HP := Lib.hid hP
    clear hP
    go_wp2_with fail
    go_region
    go_wp2_with fail
    go_ret2
    rw [HP.out]
    have hol := hok.out
    have hsz := hT5.size
    refine ⟨_, rfl, ⟨xs.length, by simp [ints_length, hol], .inr ⟨w.heap.size + 1, 0, xs.length, rfl, by omega, by simp; omega, Nat.le_refl _, by unfold maxLen; omega, fun j hj => ?_, fun j hj => ?_⟩⟩, hx5.drew⟩
    · have := hT5.out j (by omega)
      simp only [Nat.zero_add, World.cell?_drew, World.frozen?_drew]
      exact ⟨by rw [this.1]; rfl, this.2⟩
    · have := hT5.out j (by omega)
      simp only [Nat.zero_add, World.cell?_drew]
      rw [this.1, ints_at _ _ (by omega)]
end Go.Proofs.Ytcngecibljgndaa
