/- Nucleolus of one claimant: there are no levels. -/
import Derived.Test.YtcngecibljgndaaMNB
import Derived.Test.YtcngecibljgndaaMNE
import Derived.Test.YtcngecibljgndaaMRPB
import Derived.Test.YtcngecibljgndaaMQW
import Derived.Test.YtcngecibljgndaaMRQG
import Derived.Test.YtcngecibljgndaaKit
import Derived.Test.YtcngecibljgndaaRows
import Derived.ProofKit
import Derived.Deep.Slices
import Derived.Deep.Fields
import Derived.Below
import Derived.Carry
import Derived.Test.YtcngecibljgndaaMQT
namespace Go.Proofs.Ytcngecibljgndaa
open Go.RowKit Go.Shelf

set_option maxRecDepth 100000 in
theorem compact0_calls (w : World) (ao : Option Addr) (cap : Nat) : Calls Try.prog 62 #[.slice ao (0 : Nat) cap] w (fun e w' => e = .returned (.slice ao (0 : Nat) cap) ∧ Ext w w') := by
  go_enter Try.func62, Try.ntmps62
  go_wp2_with fail
  go_ret
  exact ⟨rfl, Ext.refl _⟩
set_option maxRecDepth 100000 in
theorem reverse0_calls (w : World) (ao : Option Addr) (cap : Nat) : Calls Try.prog 65 #[.slice ao (0 : Nat) cap] w (fun e w' => e = .returned (.tuple #[]) ∧ Ext w w') := by
  go_enter Try.func65, Try.ntmps65
  go_wp2_with fail
  go_loopw [2, 3] (fun i j wr => i = .int .i64 0 ∧ j = .int .i64 (-1) ∧ Ext w wr) (fun _ _ _ => 0)
  case atStart => exact ⟨rfl, rfl, Ext.refl _⟩
  case round =>
    obtain ⟨rfl, rfl, hx⟩ := hrel
    go_wp2_with fail
    exact bodyPost_end (v := .tuple #[]) (by simp [results, Try.results65, go_sem]) rfl ⟨rfl, hx⟩
set_option maxRecDepth 100000 in
set_option maxHeartbeats 4000000 in
theorem nucleolus1_calls (w : World) (E : Int) (ao lo : Option Addr) (cap lcap : Nat) (xs l : List Int) (d : Int) (hI : IntsIn w ao xs) (hJ : IntsIn w lo l) (hP : IsProb E xs) (h2 : xs.length = 1) (hS : IsSh E xs l d) :
    Calls Try.prog 25 #[.int .i64 E, .slice ao xs.length cap, .agg #[.slice lo l.length lcap, .int .i64 d]] w (NucR w true) := by
  have HP := Lib.hid hP
  have HS := Lib.hid hS
  have hprob := (probB_true E xs).2 hP
  have his := isB_yes hS
  have hE := hP.estate
  have hl7 := hP.seven
  have hl1 := hP.one
  have hll : l.length ≤ 7 := by rw [hS.len]; exact hl7
  have hxl : (excP E xs l d).length ≤ 126 := by
    have : 2 ^ xs.length ≤ 2 ^ 7 := Nat.pow_le_pow_right (by omega) hl7
    simp only [excP, List.length_map, List.length_range]; omega
  have hel : (excP E xs l d).length = 0 := by rw [show (excP E xs l d).length = 2 ^ xs.length - 2 by simp [excP], h2]
  have HEL := Lib.hid hel
  clear hP hS hel h2
  go_enter Try.func25, Try.ntmps25
  go_wp2_with fail
  obtain ⟨bx, hbx⟩ : ∃ bx, bx = w.heap.size := ⟨_, rfl⟩
  have hx1 : Ext w (w.alloc (Obj.cells #[.slice lo l.length lcap, .int .i64 d] 26)) := (by repeat (first | exact Ext.refl _ | assumption | refine Ext.alloc ?_ _ | refine Ext.drewN ?_ _ | refine Ext.drew ?_))
  have hc0 : (w.alloc (Obj.cells #[.slice lo l.length lcap, .int .i64 d] 26)).cell? ⟨bx, 0, none⟩ = some (.slice lo l.length lcap) := by subst hbx; simp [go_sem]
  have hc1 : (w.alloc (Obj.cells #[.slice lo l.length lcap, .int .i64 d] 26)).cell? ⟨bx, 1, none⟩ = some (.int .i64 d) := by subst hbx; simp [go_sem]
  have hbl : bx < (w.alloc (Obj.cells #[.slice lo l.length lcap, .int .i64 d] 26)).heap.size := by simp [hbx]
  generalize (w.alloc (Obj.cells #[.slice lo l.length lcap, .int .i64 d] 26)) = w1 at *
  rw [← hbx]
  clear hbx
  refine (problem_calls _ E ao cap xs (hI.ext hx1) (by omega)).mono ?_
  rintro e w2 ⟨rfl, hx2⟩
  rw [hprob]
  simp only [errI, if_true]
  have hx02 := hx1.trans hx2
  have hc02 := (hx2.cell (p := ⟨bx, 0, none⟩) hbl).trans hc0
  have hc12 := (hx2.cell (p := ⟨bx, 1, none⟩) hbl).trans hc1
  have hbl2 := Nat.lt_of_lt_of_le hbl hx2.size
  clear hc0 hc1 hbl
  go_wp2_with fail
  refine (is_calls _ E ao lo cap lcap xs l d (hI.ext hx02) (hJ.ext hx02) hl7 HP.out.claims hE (by omega)).mono ?_
  rintro e w3 ⟨rfl, hx3⟩
  rw [his]
  have hx03 := hx02.trans hx3
  have hc03 := (hx3.cell (p := ⟨bx, 0, none⟩) hbl2).trans hc02
  have hc13 := (hx3.cell (p := ⟨bx, 1, none⟩) hbl2).trans hc12
  clear hc02 hc12 hbl2
  go_wp2_with fail
  refine (excesses_calls _ E ao lo cap lcap xs l d (hI.ext hx03) (hJ.ext hx03) HP.out HS.out).mono ?_
  rintro e w4 ⟨v4, rfl, ho4, hx4⟩
  have hx04 := hx03.trans hx4
  clear hc03 hc13
  obtain ⟨xl, hxe⟩ : ∃ xl, xl = excP E xs l d := ⟨_, rfl⟩
  have hel := HEL.out
  clear HEL
  rw [← hxe] at ho4 hxl hel
  have HXE := Lib.hid hxe
  clear hxe
  obtain rfl : xl = [] := List.length_eq_zero_iff.1 hel
  obtain ⟨a4, c4, rfl⟩ : ∃ a4 c4, v4 = .slice a4 (0 : Nat) c4 := by
    obtain ⟨a, c, h, -, -⟩ := ho4.intsShape
    exact ⟨a, c, h⟩
  have hI4 : IntsIn w4 a4 [] := fun k hk => by simp at hk
  clear ho4 hel
  go_wp2_with fail
  refine (values_calls _ _ _ _).mono ?_
  rintro e w5 ⟨rfl, hw5⟩
  have hx5 : Ext w4 w5 := by rw [hw5]; exact (by repeat (first | exact Ext.refl _ | assumption | refine Ext.alloc ?_ _ | refine Ext.drewN ?_ _ | refine Ext.drew ?_))
  have hb5 : w4.heap.size < w5.heap.size := by rw [hw5]; simp
  have hc5 : w5.cell? ⟨w4.heap.size, 0, none⟩ = some (.slice a4 (0 : Nat) c4) := by rw [hw5]; simp [go_sem]
  clear hw5
  go_wp2_with fail
  refine (sorts w5 _ c4 w4.heap.size [] (hI4.ext hx5) (by simp) hb5 hc5).mono ?_
  rintro e w6 ⟨v6, rfl, ho6, hx6⟩
  obtain ⟨a6, c6, rfl⟩ : ∃ a6 c6, v6 = .slice a6 (0 : Nat) c6 := by
    obtain ⟨a, c, h, -, -⟩ := ho6.intsShape
    exact ⟨a, c, by simpa [sortI] using h⟩
  go_wp2_with fail
  refine (compact0_calls w6 a6 c6).mono ?_
  rintro e w7 ⟨rfl, hx7⟩
  go_wp2_with fail
  refine (reverse0_calls w7 a6 c6).mono ?_
  rintro e w8 ⟨rfl, hx8⟩
  have hx08 := (hx04.trans hx5).trans ((hx6.trans hx7).trans hx8)
  clear ho6
  go_wp2_with fail
  go_loopw [44] (fun iv wr => iv = .int .i64 0 ∧ Ext w8 wr) (fun _ _ => 0)
  case atStart => exact ⟨rfl, Ext.refl _⟩
  case round =>
    obtain ⟨rfl, hx⟩ := hrel
    go_wp2_with fail
    go_ret2
    exact ⟨rfl, hx08.trans hx⟩
end Go.Proofs.Ytcngecibljgndaa

/- Nucleolus of all arguments. -/
namespace Go.Proofs.Ytcngecibljgndaa
open Go.RowKit Go.Shelf

/-- What Nucleolus says of shares. -/
def nucB (E : Int) (xs l : List Int) (d : Int) : Bool := isB E xs l d && decide (l = (lowP (talmudP E xs)).1 ∧ d = (lowP (talmudP E xs)).2)
theorem nuc_iff {E : Int} {xs : List Int} (h : IsProb E xs) {l : List Int} {d : Int} (hS : IsSh E xs l d) : (∀ i, i < xs.length → ith l i * (talmudP E xs).2 = ith (talmudP E xs).1 i * d) ↔ (l = (lowP (talmudP E xs)).1 ∧ d = (lowP (talmudP E xs)).2) := by
  have hr : Shares E xs (talmudP E xs) := rule_shares (rule := 3) h
  have hT := low_is hr
  obtain ⟨g, hg, g1, g2⟩ := low_times (p := talmudP E xs) (by have := hr.den; omega)
  have hlen : (talmudP E xs).1.length = xs.length := hr.len
  have hd := hS.den
  have htd := hT.den
  constructor
  · intro ha
    refine low_same (by rw [hS.len, hT.len]) (by omega) (by omega) hS.low hT.low (fun k hk => ?_)
    rw [hS.len] at hk
    have := ha k hk
    rw [g1, g2 k (by omega)] at this
    refine Int.eq_of_mul_eq_mul_right (show g ≠ 0 by omega) ?_
    grind
  · rintro ⟨h1, h2⟩ i hi
    rw [g1, g2 i (by omega), ← h1, ← h2]; grind
theorem nuc_one {E : Int} {xs : List Int} (h : IsProb E xs) (h1 : xs.length = 1) {l : List Int} {d : Int} (hS : IsSh E xs l d) : l = (lowP (talmudP E xs)).1 ∧ d = (lowP (talmudP E xs)).2 := by
  have hr : Shares E xs (talmudP E xs) := rule_shares (rule := 3) h
  have hT := low_is hr
  have hd := hS.den
  have htd := hT.den
  refine low_same (by rw [hS.len, hT.len]) (by omega) (by omega) hS.low hT.low (fun k hk => ?_)
  rw [hS.len, h1] at hk
  obtain rfl : k = 0 := by omega
  have e : ∀ l : List Int, l.length = 1 → isum l = ith l 0 := fun l hl => by
    rw [isum_sm, hl]; simp [sm]
  have s1 := hS.sum
  have s2 := hT.sum
  rw [e _ (by rw [hS.len, h1])] at s1
  rw [e _ (by rw [hT.len, h1])] at s2
  rw [s1, s2]; grind

/-- What Nucleolus returns. -/
def NucRes (w : World) (E : Int) (xs l : List Int) (d : Int) (e : Ending) (w' : World) : Prop :=
  (¬ IsProb E xs ∧ e = .returned (.tuple #[.bool false, .int .i64 2]) ∧ Ext w w') ∨
  (IsProb E xs ∧ e = .returned (.tuple #[.bool (nucB E xs l d), .int .i64 0]) ∧ Ext w w')
set_option maxRecDepth 100000 in
set_option maxHeartbeats 1000000 in
theorem nucleolusN_calls (w : World) (E : Int) (ao lo : Option Addr) (cap lcap : Nat) (xs l : List Int) (d : Int) (hI : IntsIn w ao xs) (hJ : IntsIn w lo l) (hl : xs.length ≤ 1000000) (hll : l.length ≤ 1000000) (hno : ¬ (IsProb E xs ∧ IsSh E xs l d)) :
    Calls Try.prog 25 #[.int .i64 E, .slice ao xs.length cap, .agg #[.slice lo l.length lcap, .int .i64 d]] w (NucRes w E xs l d) := by
  have HNO := Lib.hid hno
  clear hno
  go_enter Try.func25, Try.ntmps25
  go_wp2_with fail
  have hx1 : Ext w (w.alloc (Obj.cells #[.slice lo l.length lcap, .int .i64 d] 26)) := (by repeat (first | exact Ext.refl _ | assumption | refine Ext.alloc ?_ _ | refine Ext.drewN ?_ _ | refine Ext.drew ?_))
  have hbx := PBox.new w 26 (.slice lo l.length lcap) d
  obtain ⟨B, hB⟩ : ∃ B, B = w.heap.size := ⟨_, rfl⟩
  generalize (w.alloc (Obj.cells #[.slice lo l.length lcap, .int .i64 d] 26)) = w1 at *
  rw [← hB] at hbx ⊢
  clear hB
  refine (problem_calls _ E ao cap xs (hI.ext hx1) hl).mono ?_
  rintro e w2 ⟨rfl, hx2⟩
  have hx12 := hx1.trans hx2
  cases hp : probB E xs with
  | false =>
    have HP := Lib.hid (show ¬ IsProb E xs from fun h => by rw [(probB_true E xs).2 h] at hp; simp at hp)
    clear hp
    simp only [errI]
    go_wp2_with fail
    go_ret2
    exact .inl ⟨HP.out, rfl, hx12⟩
  | true =>
    have hP := (probB_true E xs).1 hp
    have HP := Lib.hid hP
    clear hp
    obtain ⟨q0, q1, q2⟩ := hbx.ext hx2
    simp only [errI]
    have hnS : ¬ IsSh E xs l d := fun h => HNO.out ⟨hP, h⟩
    have hic := fun W h1 h2 => is_calls W E ao lo cap lcap xs l d h1 h2 hP.seven hP.claims hP.estate hll
    rw [isB_no hnS] at hic
    have HB : Hid (nucB E xs l d = false) := Lib.hid (by simp [nucB, isB_no hnS])
    clear hP hnS
    go_wp2_with fail
    refine (hic _ (hI.ext hx12) (hJ.ext hx12)).mono ?_
    rintro e w3 ⟨rfl, hx3⟩
    have hx13 := hx12.trans hx3
    clear hic q0 q1 q2
    go_wp2_with fail
    go_ret2
    exact .inr ⟨HP.out, by rw [HB.out]; rfl, hx13⟩
theorem nucleolusA_calls (w : World) (E : Int) (ao lo : Option Addr) (cap lcap : Nat) (xs l : List Int) (d : Int) (hI : IntsIn w ao xs) (hJ : IntsIn w lo l) (hl : xs.length ≤ 1000000) (hll : l.length ≤ 1000000) :
    Calls Try.prog 25 #[.int .i64 E, .slice ao xs.length cap, .agg #[.slice lo l.length lcap, .int .i64 d]] w (NucRes w E xs l d) := by
  by_cases hno : IsProb E xs ∧ IsSh E xs l d
  · obtain ⟨hP, hS⟩ := hno
    have key : Calls Try.prog 25 #[.int .i64 E, .slice ao xs.length cap, .agg #[.slice lo l.length lcap, .int .i64 d]] w (NucR w (nucB E xs l d)) := by
      by_cases h1 : xs.length = 1
      · have h2 : nucB E xs l d = true := by
          have := nuc_one hP h1 hS
          simp only [nucB, isB_yes hS, Bool.true_and, decide_eq_true_eq]; exact this
        rw [h2]
        exact nucleolus1_calls w E ao lo cap lcap xs l d hI hJ hP h1 hS
      · have h2 : 2 ≤ xs.length := by have := hP.one; omega
        refine nucleolusG_calls w E ao lo cap lcap xs l d _ hI hJ hP h2 hS ?_
        rw [nuc_law hP h2 hS, nuc_iff hP hS]
        simp only [nucB, isB_yes hS, Bool.true_and, decide_eq_true_eq]
    exact key.mono (fun e w' ⟨h1, h2⟩ => .inr ⟨hP, h1, h2⟩)
  · exact nucleolusN_calls w E ao lo cap lcap xs l d hI hJ hl hll hno
theorem nucB_parts {E d u : Int} {xs l t : List Int} (hS : IsSh E xs t u) (ht : (t, u) = lowP (talmudP E xs)) : nucB E xs l d = partsB d l u t := by
  have h1 : (lowP (talmudP E xs)).1 = t := by rw [← ht]
  have h2 : (lowP (talmudP E xs)).2 = u := by rw [← ht]
  unfold nucB
  rw [h1, h2]
  by_cases e : l = t ∧ d = u
  · obtain ⟨rfl, rfl⟩ := e
    simp [isB_yes hS, partsB]
  · rw [decide_eq_false e, Bool.and_false]
    symm
    simp only [partsB, Bool.and_eq_false_iff, beq_eq_false_iff_ne, decide_eq_false_iff_not]
    by_cases h : d = u
    · exact .inr (fun h' => e ⟨h', h⟩)
    · exact .inl h
end Go.Proofs.Ytcngecibljgndaa

/- The specification's Nucleolus: the walk. -/
namespace Go.Proofs.Ytcngecibljgndaa
open Go.RowKit Go.Shelf

theorem p7n {w w' : World} {B b lb o lo : Nat} {u : Value} {v y : Int} {nb mb : Bool} {zo yo : Option Addr} {A zc C yc : Nat} (h : PBox w B u v) (hb : b < w.heap.size) (hc : QCells w b o nb zo A zc mb yo C yc) (hl : lb < w.heap.size) (hy : w.cell? ⟨lb, lo, none⟩ = some (.int .i64 y)) (hx : Ext w w') :
    (w'.cell? ⟨B, 0, none⟩ = some u) ∧ (w'.cell? ⟨B, 1, none⟩ = some (.int .i64 v)) ∧ (w'.cell? ⟨lb, lo, none⟩ = some (.int .i64 y)) ∧ (w'.cell? ⟨b, o, none⟩ = some (.bool nb)) ∧ (w'.cell? ⟨b, o + 1, none⟩ = some (.slice zo A zc)) ∧ (w'.cell? ⟨b, o + 2, none⟩ = some (.bool mb)) ∧ (w'.cell? ⟨b, o + 3, none⟩ = some (.slice yo C yc)) :=
  ⟨(h.ext hx).c0, (h.ext hx).c1, (hx.cell (p := ⟨lb, lo, none⟩) hl).trans hy, (hc.ext hb hx).c0, (hc.ext hb hx).c1, (hc.ext hb hx).c2, (hc.ext hb hx).c3⟩
theorem nucB_iff {E : Int} {xs : List Int} (h : IsProb E xs) {l : List Int} {d : Int} (hS : IsSh E xs l d) : nucB E xs l d = true ↔ (∀ i, i < xs.length → ith l i * (talmudP E xs).2 = ith (talmudP E xs).1 i * d) := by
  rw [nuc_iff h hS]; simp only [nucB, isB_yes hS, Bool.true_and, decide_eq_true_eq]
set_option maxRecDepth 100000 in
set_option maxHeartbeats 4000000 in
theorem refNucleolus_calls (w : World) (E : Int) (ao lo : Option Addr) (cap lcap : Nat) (xs l : List Int) (d : Int) (hI : IntsIn w ao xs) (hJ : IntsIn w lo l) (hl : xs.length ≤ 1000000) (hll : l.length ≤ 1000000) :
    Calls Try.prog 26 #[.int .i64 E, .slice ao xs.length cap, .agg #[.slice lo l.length lcap, .int .i64 d]] w (NucRes w E xs l d) := by
  go_enter Try.func26, Try.ntmps26
  go_wp2_with fail
  have hx1 : Ext w (w.alloc (Obj.cells #[.slice lo l.length lcap, .int .i64 d] 26)) := (by repeat (first | exact Ext.refl _ | assumption | refine Ext.alloc ?_ _ | refine Ext.drewN ?_ _ | refine Ext.drew ?_))
  have hbx := PBox.new w 26 (.slice lo l.length lcap) d
  obtain ⟨B, hB⟩ : ∃ B, B = w.heap.size := ⟨_, rfl⟩
  generalize (w.alloc (Obj.cells #[.slice lo l.length lcap, .int .i64 d] 26)) = w1 at *
  rw [← hB] at hbx ⊢
  clear hB
  refine (refProblem_calls w1 E ao cap xs (hI.ext hx1)).mono ?_
  rintro e w2 ⟨rfl, hx2⟩
  have hx12 := hx1.trans hx2
  cases hp : probB E xs with
  | false =>
    have HP := Lib.hid (show ¬ IsProb E xs from fun h => by rw [(probB_true E xs).2 h] at hp; simp at hp)
    clear hp
    go_wp2_with fail
    go_ret2
    exact .inl ⟨HP.out, rfl, hx12⟩
  | true =>
    have hP := (probB_true E xs).1 hp
    have HP := Lib.hid hP
    clear hp
    have hb2 := hbx.ext hx2
    obtain ⟨q0, q1, q2⟩ := id hb2
    have hic := refIsShares_calls w2 E ao lo cap lcap xs l d (hI.ext hx12) (hJ.ext hx12) hP.seven hP.claims hP.estate hll
    clear hP
    go_wp2_with fail
    refine hic.mono ?_
    rintro e w3 ⟨rfl, hx3⟩
    have hx13 := hx12.trans hx3
    clear hic q0 q1 q2
    cases hib : isB E xs l d with
    | false =>
      have HB : Hid (nucB E xs l d = false) := Lib.hid (by simp [nucB, hib])
      clear hib
      go_wp2_with fail
      go_ret2
      exact .inr ⟨HP.out, by rw [HB.out]; rfl, hx13⟩
    | true =>
      have HS := Lib.hid (show IsSh E xs l d by simpa [isB] using hib)
      clear hib
      have hb3 := hb2.ext hx3
      have hrc := qrule3_calls w3 E ao cap xs (hI.ext hx13) HP.out
      go_wp2_with fail
      refine hrc.mono ?_
      rintro e w4 ⟨v, es, qs, rfl, hQO, hrq, hx4⟩
      obtain ⟨t0, tc, rfl, hTQ, -⟩ := hQO.qsIn
      have hx14 := hx13.trans hx4
      have hb4 := hb3.ext hx4
      have hqn : qs.length = xs.length := hrq.1
      have hr : Shares E xs (talmudP E xs) := rule_shares (rule := 3) HP.out
      have hrp : ruleP 3 E xs = talmudP E xs := by simp [ruleP]
      have HV : Hid (∀ i, i < xs.length → qth qs i = Rat.divInt (ith (talmudP E xs).1 i) (talmudP E xs).2) := Lib.hid (fun i hi => by rw [← hrp]; exact hrq.2 i hi)
      have HNI := Lib.hid (nucB_iff HP.out HS.out)
      obtain ⟨p1, hp1⟩ : ∃ p1, p1 = (talmudP E xs).1 := ⟨_, rfl⟩
      obtain ⟨p2, hp2⟩ : ∃ p2, p2 = (talmudP E xs).2 := ⟨_, rfl⟩
      have hden := hr.den
      have HNUM : Hid (∀ k, k < xs.length → 0 ≤ ith p1 k ∧ ith p1 k ≤ 100000000000) := Lib.hid (fun k hk => by
        have h1 := hr.num k hk
        have h2 := HP.out.claims.at_ k hk
        rw [← hp1] at h1
        have h3 : ith xs k * (talmudP E xs).2 ≤ 100000 * 1000000 := Int.mul_le_mul h2.2 hden.2 (by omega) (by omega)
        omega)
      rw [← hp1, ← hp2] at HV HNI
      rw [← hp2] at hden
      have hdn := HS.out.den
      have HL := Lib.hid (is_upto HS.out HP.out.claims)
      have HLN := Lib.hid HS.out.len
      have h7 := HP.out.seven
      rw [hqn]
      have HQN := Lib.hid hqn
      clear hp1 hp2 hr hrp hrq hrc hQO hqn
      go_wp2_with fail
      go_loopw [9] (fun iv wr => ∃ k : Nat, k ≤ xs.length ∧ iv = .int .i64 k ∧ Ext w4 wr ∧ Hid (∀ j, j < k → ith l j * p2 = ith p1 j * d)) (fun iv _ => xs.length - (intOf iv).toNat)
      case atStart => exact ⟨0, by omega, rfl, Ext.refl _, Lib.hid (fun j hj => by omega)⟩
      case round =>
        obtain ⟨k, hk, rfl, hx, HK⟩ := hrel
        by_cases hlt : k < xs.length
        · obtain ⟨b1, o1, nb1, zo1, A1, zc1, mb1, yo1, B1, yc1, rfl, hb1, hc1, hq1⟩ := (hTQ.ext hx) k (by rw [HQN.out]; exact hlt)
          rw [HV.out k hlt] at hq1
          have hkl : k < l.length := by rw [HLN.out]; exact hlt
          obtain ⟨lb, lf, rfl, hlb, hlc⟩ := (hJ.ext (hx14.trans hx)) k hkl
          have hbr := hb4.ext hx
          have u1 := HL.out.at_ k hkl
          have u2 := HNUM.out k hlt
          have f1 : Fine (Rat.divInt (ith p1 k) p2) := fine_small (by omega) (by omega) (by omega)
          have f2 : Fine (Rat.divInt (ith l k) d) := fine_small (by omega) (by omega) (by omega)
          obtain ⟨cq, hcq⟩ : ∃ cq, cmpQ (Rat.divInt (ith p1 k) p2) (Rat.divInt (ith l k) d) = cq := ⟨_, rfl⟩
          have hcc := cmpQ_cases (ith p1 k) (ith l k) p2 d (by omega) (by omega)
          rw [hcq] at hcc
          have HCC := Lib.hid hcc
          have hk0 : (0 : Int) ≤ (k : Int) := by omega
          have hk1 : (k : Int) < (xs.length : Int) := by omega
          have hk2 : (k : Int) < (l.length : Int) := by omega
          clear hcc
          go_wp2_with fail
          go_region_held3 (fun w' => (w'.cell? ⟨B, 0, none⟩ = some (.slice (some ⟨lb, lf, none⟩) l.length lcap)) ∧ (w'.cell? ⟨B, 1, none⟩ = some (.int .i64 d)) ∧ (w'.cell? ⟨lb, lf + k, none⟩ = some (.int .i64 (ith l k))) ∧ (w'.cell? ⟨b1, o1 + k * 4, none⟩ = some (.bool nb1)) ∧ (w'.cell? ⟨b1, o1 + k * 4 + 1, none⟩ = some (.slice zo1 A1 zc1)) ∧ (w'.cell? ⟨b1, o1 + k * 4 + 2, none⟩ = some (.bool mb1)) ∧ (w'.cell? ⟨b1, o1 + k * 4 + 3, none⟩ = some (.slice yo1 B1 yc1)))
            (exact p7n hbr hb1 hc1 hlb hlc (by repeat (with_reducible first | exact Ext.refl _ | assumption | refine Ext.alloc ?_ _ | refine Ext.drew ?_)))
            ((first
              | (go_at_call 28; refine (cmp_calls _ nb1 mb1 nb2 mb2 zo1 yo1 zo2 yo2 A1 zc1 B1 yc1 A2 zc2 B2 yc2 _ _ (hq1.ext hxk2) hR2 f1 f2).mono ?_; rintro e v3 ⟨rfl, hx13'⟩; have hxk3 : Ext wr v3 := hxk2.trans hx13'; rw [hcq])
              | (go_at_call 31; refine (frac_calls _ (ith l k) d (by omega) (by omega) (by omega)).mono ?_; rintro e v2 ⟨nb2, zo2, A2, zc2, mb2, yo2, B2, yc2, rfl, hR2, hbk2, hbm2, hx12'⟩; have hxk2 : Ext wr v2 := Ext.trans ((Ext.refl _).drew) hx12')))
          by_cases heq : ith l k * p2 = ith p1 k * d
          · have hc0 : cq = 0 := by rw [HCC.out, if_neg (by omega), if_neg (by omega)]
            subst hc0
            have HK2 : Hid (∀ j, j < k + 1 → ith l j * p2 = ith p1 j * d) := Lib.hid (fun j hj => by
              rcases Nat.lt_or_ge j k with h3 | h3
              · exact HK.out j h3
              · obtain rfl : j = k := by omega
                exact heq)
            clear HCC heq hcq
            go_wp2_with fail
            exact ⟨⟨k + 1, by omega, rfl, hx.trans hxk3, HK2⟩, by simp only [intOf]; omega⟩
          · have hc0 : (cq != 0) = true := by
              rw [HCC.out]
              by_cases h3 : ith p1 k * d < ith l k * p2
              · rw [if_pos h3]; rfl
              · rw [if_neg h3, if_pos (by omega)]; rfl
            have HB : Hid (nucB E xs l d = false) := Lib.hid (by
              cases h : nucB E xs l d with
              | false => rfl
              | true => exact absurd (HNI.out.1 h k hlt) heq)
            clear HCC heq hcq
            go_wp2_with fail
            go_ret2
            exact .inr ⟨HP.out, by rw [HB.out]; rfl, (hx14.trans hx).trans hxk3⟩
        · obtain rfl : k = xs.length := by omega
          have HB : Hid (nucB E xs l d = true) := Lib.hid (HNI.out.2 HK.out)
          go_wp2_with fail
          go_ret2
          exact .inr ⟨HP.out, by rw [HB.out]; rfl, hx14.trans hx⟩
end Go.Proofs.Ytcngecibljgndaa

/- Arguments of a law laid open (integers, lists of integers, Parts), and the frame of a law: arguments that are read again, the result true. -/
namespace Go.Proofs.Ytcngecibljgndaa
open Go.ChangeShapes Go.WideShapes Go.ChangeAt Go.RowKit Go.Deep

theorem own_any : ownKnob Try.prog.godebug = none := by kernel_rfl
theorem laidOut_any : laidOutB Try.prog = true := by kernel_rfl

/-- The integer is one of int. -/
def I64 (x : Int) : Prop := -9223372036854775808 ≤ x ∧ x ≤ 9223372036854775807
theorem i64_of {x : Int} (h : (Lit.int .i64 x).wf = true) : I64 x := by
  simp only [Lit.wf, Bool.and_eq_true, decide_eq_true_eq] at h
  have h1 : IntKind.i64.min = -9223372036854775808 := by decide
  have h2 : IntKind.i64.max = 9223372036854775807 := by decide
  unfold I64
  omega
theorem i64_wf {x : Int} (h : I64 x) : (Lit.int .i64 x).wf = true := by
  unfold I64 at h
  simp only [Lit.wf, Bool.and_eq_true, decide_eq_true_eq]
  have h1 : IntKind.i64.min = -9223372036854775808 := by decide
  have h2 : IntKind.i64.max = 9223372036854775807 := by decide
  omega
theorem cell_plain {w : World} {a : Addr} {v : Value} (h : w.cell? a = some v) : ∃ b off, a = ⟨b, off, none⟩ ∧ b < w.heap.size := by
  obtain ⟨b, off, sp⟩ := a
  unfold World.cell? at h
  split at h
  · rename_i c _ _ hh
    cases sp with
    | none => exact ⟨b, off, rfl, (Array.getElem?_eq_some_iff.1 hh).1⟩
    | some x => simp at h
  · simp at h
/-- What a law of this package answers: true, and nothing that was there has changed. -/
def TrueRes (w : World) (e : Ending) (w' : World) : Prop := e = .returned (.bool true) ∧ Ext w w'
section
variable {H : Type} {enc : TypeId × Value → H}
theorem trodAll_below {W W' : World} (hb : Below W.heap.size W W') : ∀ (ts : List TypeId) (vs : List Value) (ds : List (DataW H)) (ps : List MemPlace), (∀ t ∈ ts, Try.prog.readableRec t = true ∧ t < Try.prog.types.size) → (∀ x ∈ ps, x.block < W.heap.size) →
    DataW.TrodAll enc Try.prog W 0 (fun _ => true) true ts vs ds ps → DataW.TrodAll enc Try.prog W' 0 (fun b => decide (b < W.heap.size)) true ts vs ds ps := by
  intro ts
  induction ts with
  | nil =>
    intro vs ds ps _ _ h
    cases vs with
    | nil => cases ds with
      | nil => exact h
      | cons d ds => exact (h : False).elim
    | cons v vs => cases ds with
      | nil => exact (h : False).elim
      | cons d ds => exact (h : False).elim
  | cons t ts ih =>
    intro vs ds ps hr hlt h
    cases vs with
    | nil => cases ds with
      | nil => exact (h : False).elim
      | cons d ds => exact (h : False).elim
    | cons v vs => cases ds with
      | nil => exact (h : False).elim
      | cons d ds =>
        obtain ⟨p, q, h1, h2, rfl⟩ := h
        have ht := hr t (by simp)
        exact ⟨p, q, Below.trod laidOut_any ht.1 ht.2 h1 hb (fun x hx => hlt x (by simp [hx])), ih vs ds q (fun t ht => hr t (by simp [ht])) (fun x hx => hlt x (by simp [hx])) h2, rfl⟩
theorem post_true {f : Func} {s : ChangeSpec} {W W' : World} {args : Array Value} {ds gs : List (DataW H)} {before : List MemPlace} (hW : DataW.Whole enc Try.prog f.params.toList s.vars false W args.toList ds gs before) (hv : s.vars = []) (hres : f.resultTypes = #[4])
    (hfn : s.fn H (ds ++ []) = { results := [.lit (.bool true)], args := ds }) (hr : ∀ t ∈ f.params.toList, Try.prog.readableRec t = true ∧ t < Try.prog.types.size) (hb : Below W.heap.size W W') :
    s.post enc Try.prog f false true false false W args (.bool true) W' := by
  have hW' := hW
  obtain ⟨p, q, hA, hV, rfl, hfz, hnd⟩ := hW
  rw [hv] at hV
  obtain ⟨rfl, rfl⟩ := trodVars_none hV
  refine ⟨ds, [], p ++ [], [], p ++ [], [], hW', ?_, ?_, ?_, World.keptBut_mono (fun x hx => ⟨hx, .inr (.inl hx)⟩) (hb.frame _), fun h => by cases h⟩
  · rw [hfn, hres]
    exact trodAll_mk1 (shut_bool Try.underlying4 true)
  · rw [hfn]
    have hlt : ∀ x ∈ p ++ [], x.block < W.heap.size := fun x hx => by simpa using hW'.lt x hx
    have := trodAll_below hb _ _ _ _ hr (fun x hx => hlt x (by simpa using hx)) hA
    simpa using this
  · rw [hfn, hv]
    exact rfl
end
set_option maxRecDepth 100000 in
theorem open_list {H : Type} {enc : TypeId × Value → H} {W : World} {v : Value} {d : DataW H} {p : List MemPlace} {r : Reach} {b0 : Nat} (hv : Value.okWide Try.prog W r b0 22 v) (h : DataW.Trod enc Try.prog W 0 (fun _ => true) true 22 v d p) :
    ∃ ao cap J, v = .slice ao J.length cap ∧ IntsIn W ao J ∧ J.length ≤ maxLen ∧ ∀ k, k < J.length → I64 (ith J k) := by
  obtain ⟨a, len, cap, rfl⟩ := okWide_slice Try.underlying22 hv
  obtain ⟨fuel, hf⟩ := h
  rcases open_ints Try.underlying22 Try.underlying3 (by kernel_rfl) hf with ⟨hc, _⟩ | ⟨a', len', cap', zs, hc, _, hl, hm, hz, _, hcell, hwf⟩
  · simp only [Value.cells, List.cons.injEq, Value.slice.injEq, and_true] at hc
    obtain ⟨rfl, rfl, rfl⟩ := hc
    exact ⟨none, 0, [], rfl, fun k hk => by simp at hk, by simp, fun k hk => by simp at hk⟩
  · simp only [Value.cells, List.cons.injEq, Value.slice.injEq, and_true] at hc
    obtain ⟨rfl, rfl, rfl⟩ := hc
    simp only [if_true] at hz
    have hlz : (zs.take len).length = len := by simp; omega
    refine ⟨some a', cap, zs.take len, by rw [hlz], fun k hk => ?_, by omega, fun k hk => ?_⟩
    · rw [hlz] at hk
      have h0 := hcell 0 (by omega)
      have hz0 : a'.add 0 = a' := by simp [Addr.add]
      rw [hz0] at h0
      obtain ⟨b, off, rfl, hb⟩ := cell_plain h0
      have hk' := hcell k (by omega)
      have e : (⟨b, off, none⟩ : Addr).add k = ⟨b, off + k, none⟩ := by
        simp only [Addr.add]
        split
        · rename_i e; subst e; rfl
        · rfl
      rw [e] at hk'
      refine ⟨b, off, rfl, hb, ?_⟩
      rw [hk']
      simp [ith, hk]
    · rw [hlz] at hk
      have : ith (zs.take len) k ∈ zs := by
        simp only [ith, List.getD_eq_getElem?_getD, List.getElem?_take, hk, if_true]
        rw [List.getElem?_eq_getElem (by omega)]
        simp
      exact i64_of (hwf _ this)

set_option maxRecDepth 100000 in
theorem list_cells {H : Type} {enc : TypeId × Value → H} {W : World} {c0 : Value} {y : DataW H × List MemPlace} {fuel : Nat} (hf : DataW.trod enc Try.prog W 0 (fun _ => true) true fuel 22 [c0] = some y) :
    ∃ ao cap J, c0 = .slice ao J.length cap ∧ IntsIn W ao J ∧ J.length ≤ maxLen ∧ ∀ k, k < J.length → I64 (ith J k) := by
  rcases open_ints Try.underlying22 Try.underlying3 (by kernel_rfl) hf with ⟨hc, _⟩ | ⟨a', len', cap', zs, hc, _, hl, hm, hz, _, hcell, hwf⟩
  · simp only [List.cons.injEq, and_true] at hc
    subst hc
    exact ⟨none, 0, [], rfl, fun k hk => by simp at hk, by simp, fun k hk => by simp at hk⟩
  · simp only [List.cons.injEq, and_true] at hc
    subst hc
    simp only [if_true] at hz
    have hlz : (zs.take len').length = len' := by simp; omega
    refine ⟨some a', cap', zs.take len', by rw [hlz], fun k hk => ?_, by omega, fun k hk => ?_⟩
    · rw [hlz] at hk
      have h0 := hcell 0 (by omega)
      have hz0 : a'.add 0 = a' := by simp [Addr.add]
      rw [hz0] at h0
      obtain ⟨b, off, rfl, hb⟩ := cell_plain h0
      have hk' := hcell k (by omega)
      have e : (⟨b, off, none⟩ : Addr).add k = ⟨b, off + k, none⟩ := by
        simp only [Addr.add]
        split
        · rename_i e; subst e; rfl
        · rfl
      rw [e] at hk'
      refine ⟨b, off, rfl, hb, ?_⟩
      rw [hk']
      simp [ith, hk]
    · rw [hlz] at hk
      have : ith (zs.take len') k ∈ zs := by
        simp only [ith, List.getD_eq_getElem?_getD, List.getElem?_take, hk, if_true]
        rw [List.getElem?_eq_getElem (by omega)]
        simp
      exact i64_of (hwf _ this)
/-- alive answers true. -/
def AliveOK : Prop := ∀ (w w2 : World), Ext w w2 → Calls Try.prog 20 #[] w2 fun e w' => e = .returned (.bool true) ∧ Ext w w'
theorem few_calls (w : World) (ao : Option Addr) (len cap : Nat) :
    Calls Try.prog 19 #[.slice ao len cap] w fun e w' => e = .returned (.bool (decide (len ≤ 40))) ∧ Ext w w' := by
  go_enter Try.func19, Try.ntmps19
  go_wp2_with fail
  go_ret
  refine ⟨ret_bool ?_, Ext.refl _⟩
  rw [Bool.eq_iff_iff]; simp; omega
theorem two_cells {H : Type} {enc : TypeId × Value → H} {w : World} {base : Nat} {spare : Nat → Bool} {held : Bool} {P : Program} {t : TypeId} {fuel : Nat} {cs : List Value} {x : DataW H × List MemPlace} {f0 f1 : Field} (hs : P.underlying t = some (.struct #[f0, f1])) (hone : oneCellFields P #[f0, f1] = true) (hC : P.cellsOf t = 2)
    (h : DataW.trod enc P w base spare held fuel t cs = some x) :
    ∃ c0 c1 y0 y1 n, cs = [c0, c1] ∧ DataW.trod enc P w base spare held n f0.type [c0] = some y0 ∧ DataW.trod enc P w base spare held n f1.type [c1] = some y1 := by
  obtain ⟨xs, n, _, _, hcl, hlen, hg⟩ := DataW.trod_struct hs h
  have h5 : cs.length = 2 := hcl.trans hC
  match cs, h5 with
  | [c0, c1], _ =>
    have hxl : xs.length = 2 := hlen
    match xs, hxl with
    | [y0, y1], _ =>
      obtain ⟨o0, k0⟩ := hone_of hone 0 f0 rfl
      obtain ⟨o1, k1⟩ := hone_of hone 1 f1 rfl
      exact ⟨c0, c1, y0, y1, n, rfl, by simpa [o0, k0] using hg 0 f0 rfl, by simpa [o1, k1] using hg 1 f1 rfl⟩
set_option maxRecDepth 100000 in
theorem open_parts {H : Type} {enc : TypeId × Value → H} {W : World} {v : Value} {d : DataW H} {p : List MemPlace} {r : Reach} {b0 : Nat} (hv : Value.okWide Try.prog W r b0 26 v) (h : DataW.Trod enc Try.prog W 0 (fun _ => true) true 26 v d p) :
    ∃ ao cap J den, v = .agg #[.slice ao J.length cap, .int .i64 den] ∧ IntsIn W ao J ∧ J.length ≤ maxLen ∧ (∀ k, k < J.length → I64 (ith J k)) ∧ I64 den := by
  obtain ⟨cs, rfl, hsz⟩ := okWide_struct Try.underlying26 hv
  obtain ⟨fuel, hf⟩ := h
  obtain ⟨c0, c1, y0, y1, n, hc, g0, g1⟩ := two_cells Try.underlying26 (by kernel_rfl) (by kernel_rfl) hf
  obtain ⟨ao, cap, J, rfl, hJ, hl, hw⟩ := list_cells g0
  obtain ⟨n1, a1, _, w1⟩ := DataW.trod_int Try.underlying3 g1
  simp only [List.cons.injEq, and_true] at a1
  subst a1
  refine ⟨ao, cap, J, n1, ?_, hJ, hl, hw, i64_of w1⟩
  obtain ⟨cl⟩ := cs
  have : (Value.agg ⟨cl⟩).cells.toList = cl := by simp [Value.cells]
  rw [this] at hc
  subst hc
  rfl
end Go.Proofs.Ytcngecibljgndaa

/- QuotaNucleoli: the walk. -/
namespace Go.Proofs.Ytcngecibljgndaa
open Go.RowKit Go.Shelf

set_option maxRecDepth 100000 in
theorem quotaNucleoli_law (hA : AliveOK) (w : World) (E : Int) (ao lo : Option Addr) (cap lcap : Nat) (xs l : List Int) (d : Int) (hI : IntsIn w ao xs) (hJ : IntsIn w lo l) :
    Calls Try.prog 4 #[.int .i64 E, .slice ao xs.length cap, .agg #[.slice lo l.length lcap, .int .i64 d]] w (TrueRes w) := by
  go_enter Try.func4, Try.ntmps4
  go_wp2_with fail
  have hx1 : Ext w (w.alloc (Obj.cells #[.slice lo l.length lcap, .int .i64 d] 26)) := (by repeat (first | exact Ext.refl _ | assumption | refine Ext.alloc ?_ _ | refine Ext.drewN ?_ _ | refine Ext.drew ?_))
  have hbx := PBox.new w 26 (.slice lo l.length lcap) d
  obtain ⟨B, hB⟩ : ∃ B, B = w.heap.size := ⟨_, rfl⟩
  generalize (w.alloc (Obj.cells #[.slice lo l.length lcap, .int .i64 d] 26)) = w1 at *
  rw [← hB] at hbx ⊢
  clear hB
  refine (few_calls _ ao xs.length cap).mono ?_
  rintro e w2 ⟨rfl, hx2⟩
  have hx12 := hx1.trans hx2
  have hb2 := hbx.ext hx2
  obtain ⟨q0, q1, q2⟩ := id hb2
  cases hd : decide (xs.length ≤ 40) with
  | false =>
    go_wp2_with fail
    refine (hA w _ hx12).mono ?_
    rintro e w9 ⟨rfl, hx9⟩
    go_wp2_with fail
    go_ret
    exact ⟨rfl, hx9⟩
  | true =>
    go_wp2_with fail
    refine (few_calls _ lo l.length lcap).mono ?_
    rintro e w3 ⟨rfl, hx3⟩
    have hx13 := hx12.trans hx3
    have hb3 := hb2.ext hx3
    clear q0 q1 q2
    obtain ⟨q0, q1, q2⟩ := id hb3
    cases hd2 : decide (l.length ≤ 40) with
    | false =>
      go_wp2_with fail
      refine (hA w _ hx13).mono ?_
      rintro e w9 ⟨rfl, hx9⟩
      go_wp2_with fail
      go_ret
      exact ⟨rfl, hx9⟩
    | true =>
      have hl1 : xs.length ≤ 40 := by simpa using hd
      have hl2 : l.length ≤ 40 := by simpa using hd2
      obtain ⟨b, er, hres⟩ : ∃ (b : Bool) (er : Int), ∀ (W : World) (e : Ending) (w' : World), NucRes W E xs l d e w' → e = .returned (.tuple #[.bool b, .int .i64 er]) ∧ Ext W w' := by
        by_cases hP : IsProb E xs
        · exact ⟨nucB E xs l d, 0, fun W e w' h => by
            rcases h with ⟨h1, -, -⟩ | ⟨-, h2, h3⟩
            · exact absurd hP h1
            · exact ⟨h2, h3⟩⟩
        · exact ⟨false, 2, fun W e w' h => by
            rcases h with ⟨-, h2, h3⟩ | ⟨h1, -, -⟩
            · exact ⟨h2, h3⟩
            · exact absurd h1 hP⟩
      have k1 := fun W h1 h2 => (nucleolusA_calls W E ao lo cap lcap xs l d h1 h2 (by omega) (by omega)).mono (hres W)
      have k2 := fun W h1 h2 => (refNucleolus_calls W E ao lo cap lcap xs l d h1 h2 (by omega) (by omega)).mono (hres W)
      clear hres
      go_wp2_with fail
      refine (k1 _ (hI.ext hx13) (hJ.ext hx13)).mono ?_
      rintro e w4 ⟨rfl, hx4⟩
      have hx14 := hx13.trans hx4
      have hb4 := hb3.ext hx4
      clear q0 q1 q2
      obtain ⟨q0, q1, q2⟩ := id hb4
      go_wp2_with fail
      refine (k2 _ (hI.ext hx14) (hJ.ext hx14)).mono ?_
      rintro e w5 ⟨rfl, hx5⟩
      have hx15 := hx14.trans hx5
      go_wp2_with fail
      refine (hA w _ hx15).mono ?_
      rintro e w9 ⟨rfl, hx9⟩
      go_wp2_with fail
      go_ret
      exact ⟨rfl, hx9⟩
end Go.Proofs.Ytcngecibljgndaa

/- alive: true, without a premise. -/
namespace Go.Proofs.Ytcngecibljgndaa
open Go.RowKit Go.Shelf

theorem tabledOK : TabledOK := fun w n ao cap ss hI hl hn hs => tabled_calls w n ao cap ss hI hl hn hs
theorem aliveOK : AliveOK := fun _ w2 hx => (alive_calls tabledOK w2).mono (fun _ _ ⟨he, hx'⟩ => ⟨he, hx.trans hx'⟩)
end Go.Proofs.Ytcngecibljgndaa
