/- Nucleolus of one claimant: there are no levels. -/
import Derived.Test.YtcngecibljgndaaMNB
namespace Go.Proofs.Ytcngecibljgndaa
open Go.RowKit Go.Shelf

set_option maxRecDepth 100000 in
theorem compact0_calls (w : World) (ao : Option Addr) (cap : Nat) : Calls Try.prog 62 #[.slice ao (0 : Nat) cap] w (fun e w' => e = .returned (.slice ao (0 : Nat) cap) ∧ Ext w w') := by
  go_enter Try.func62, Try.ntmps62
  go_wp2_with fail
  go_ret
  exact ⟨rfl, Ext.refl _⟩
set_option maxRecDepth 100000 in
theorem reverse0_calls (w : World) (ao : Option Addr) (cap : Nat) : Calls Try.prog 65 #[.slice ao (0 : Nat) cap] w (fun e w' => e = .returned (.tuple #[]) ∧ Ext w w') := by
  go_enter Try.func65, Try.ntmps65
  go_wp2_with fail
  go_loopw [2, 3] (fun i j wr => i = .int .i64 0 ∧ j = .int .i64 (-1) ∧ Ext w wr) (fun _ _ _ => 0)
  case atStart => exact ⟨rfl, rfl, Ext.refl _⟩
  case round =>
    obtain ⟨rfl, rfl, hx⟩ := hrel
    go_wp2_with fail
    exact bodyPost_end (v := .tuple #[]) (by simp [results, Try.results65, go_sem]) rfl ⟨rfl, hx⟩
set_option maxRecDepth 100000 in
set_option maxHeartbeats 4000000 in
theorem nucleolus1_calls (w : World) (E : Int) (ao lo : Option Addr) (cap lcap : Nat) (xs l : List Int) (d : Int) (hI : IntsIn w ao xs) (hJ : IntsIn w lo l) (hP : IsProb E xs) (h2 : xs.length = 1) (hS : IsSh E xs l d) :
    Calls Try.prog 25 #[.int .i64 E, .slice ao xs.length cap, .agg #[.slice lo l.length lcap, .int .i64 d]] w (NucR w true) := by
  have HP := Lib.hid hP
  have HS := Lib.hid hS
  have hprob := (probB_true E xs).2 hP
  have his := isB_yes hS
  have hE := hP.estate
  have hl7 := hP.seven
  have hl1 := hP.one
  have hll : l.length ≤ 7 := by rw [hS.len]; exact hl7
  have hxl : (excP E xs l d).length ≤ 126 := by
    have : 2 ^ xs.length ≤ 2 ^ 7 := Nat.pow_le_pow_right (by omega) hl7
    simp only [excP, List.length_map, List.length_range]; omega
  have hel : (excP E xs l d).length = 0 := by rw [show (excP E xs l d).length = 2 ^ xs.length - 2 by simp [excP], h2]
  have HEL := Lib.hid hel
  clear hP hS hel h2
  go_enter Try.func25, Try.ntmps25
  go_wp2_with fail
  obtain ⟨bx, hbx⟩ : ∃ bx, bx = w.heap.size := ⟨_, rfl⟩
  have hx1 : Ext w (w.alloc (Obj.cells #[.slice lo l.length lcap, .int .i64 d] 26)) := (by repeat (first | exact Ext.refl _ | assumption | refine Ext.alloc ?_ _ | refine Ext.drewN ?_ _ | refine Ext.drew ?_))
  have hc0 : (w.alloc (Obj.cells #[.slice lo l.length lcap, .int .i64 d] 26)).cell? ⟨bx, 0, none⟩ = some (.slice lo l.length lcap) := by subst hbx; simp [go_sem]
  have hc1 : (w.alloc (Obj.cells #[.slice lo l.length lcap, .int .i64 d] 26)).cell? ⟨bx, 1, none⟩ = some (.int .i64 d) := by subst hbx; simp [go_sem]
  have hbl : bx < (w.alloc (Obj.cells #[.slice lo l.length lcap, .int .i64 d] 26)).heap.size := by simp [hbx]
  generalize (w.alloc (Obj.cells #[.slice lo l.length lcap, .int .i64 d] 26)) = w1 at *
  rw [← hbx]
  clear hbx
  refine (problem_calls _ E ao cap xs (hI.ext hx1) (by omega)).mono ?_
  rintro e w2 ⟨rfl, hx2⟩
  rw [hprob]
  simp only [errI, if_true]
  have hx02 := hx1.trans hx2
  have hc02 := (hx2.cell (p := ⟨bx, 0, none⟩) hbl).trans hc0
  have hc12 := (hx2.cell (p := ⟨bx, 1, none⟩) hbl).trans hc1
  have hbl2 := Nat.lt_of_lt_of_le hbl hx2.size
  clear hc0 hc1 hbl
  go_wp2_with fail
  refine (is_calls _ E ao lo cap lcap xs l d (hI.ext hx02) (hJ.ext hx02) hl7 HP.out.claims hE (by omega)).mono ?_
  rintro e w3 ⟨rfl, hx3⟩
  rw [his]
  have hx03 := hx02.trans hx3
  have hc03 := (hx3.cell (p := ⟨bx, 0, none⟩) hbl2).trans hc02
  have hc13 := (hx3.cell (p := ⟨bx, 1, none⟩) hbl2).trans hc12
  clear hc02 hc12 hbl2
  go_wp2_with fail
  refine (excesses_calls _ E ao lo cap lcap xs l d (hI.ext hx03) (hJ.ext hx03) HP.out HS.out).mono ?_
  rintro e w4 ⟨v4, rfl, ho4, hx4⟩
  have hx04 := hx03.trans hx4
  clear hc03 hc13
  obtain ⟨xl, hxe⟩ : ∃ xl, xl = excP E xs l d := ⟨_, rfl⟩
  have hel := HEL.out
  clear HEL
  rw [← hxe] at ho4 hxl hel
  have HXE := Lib.hid hxe
  clear hxe
  obtain rfl : xl = [] := List.length_eq_zero_iff.1 hel
  obtain ⟨a4, c4, rfl⟩ : ∃ a4 c4, v4 = .slice a4 (0 : Nat) c4 := by
    obtain ⟨a, c, h, -, -⟩ := ho4.intsShape
    exact ⟨a, c, h⟩
  have hI4 : IntsIn w4 a4 [] := fun k hk => by simp at hk
  clear ho4 hel
  go_wp2_with fail
  refine (values_calls _ _ _ _).mono ?_
  rintro e w5 ⟨rfl, hw5⟩
  have hx5 : Ext w4 w5 := by rw [hw5]; exact (by repeat (first | exact Ext.refl _ | assumption | refine Ext.alloc ?_ _ | refine Ext.drewN ?_ _ | refine Ext.drew ?_))
  have hb5 : w4.heap.size < w5.heap.size := by rw [hw5]; simp
  have hc5 : w5.cell? ⟨w4.heap.size, 0, none⟩ = some (.slice a4 (0 : Nat) c4) := by rw [hw5]; simp [go_sem]
  clear hw5
  go_wp2_with fail
  refine (sorts w5 _ c4 w4.heap.size [] (hI4.ext hx5) (by simp) hb5 hc5).mono ?_
  rintro e w6 ⟨v6, rfl, ho6, hx6⟩
  obtain ⟨a6, c6, rfl⟩ : ∃ a6 c6, v6 = .slice a6 (0 : Nat) c6 := by
    obtain ⟨a, c, h, -, -⟩ := ho6.intsShape
    exact ⟨a, c, by simpa [sortI] using h⟩
  go_wp2_with fail
  refine (compact0_calls w6 a6 c6).mono ?_
  rintro e w7 ⟨rfl, hx7⟩
  go_wp2_with fail
  refine (reverse0_calls w7 a6 c6).mono ?_
  rintro e w8 ⟨rfl, hx8⟩
  have hx08 := (hx04.trans hx5).trans ((hx6.trans hx7).trans hx8)
  clear ho6
  go_wp2_with fail
  go_loopw [44] (fun iv wr => iv = .int .i64 0 ∧ Ext w8 wr) (fun _ _ => 0)
  case atStart => exact ⟨rfl, Ext.refl _⟩
  case round =>
    obtain ⟨rfl, hx⟩ := hrel
    go_wp2_with fail
    go_ret2
    exact ⟨rfl, hx08.trans hx⟩
end Go.Proofs.Ytcngecibljgndaa
