/- Nucleolus of all arguments. -/
import Derived.Test.YtcngecibljgndaaMNG
import Derived.Test.YtcngecibljgndaaMNE
import Derived.Test.YtcngecibljgndaaMQPH
import Derived.Test.YtcngecibljgndaaProg
import Derived.Shelf.SlLaysF
import Derived.Shelf.SlLaysF0
import Derived.Shelf.SlSortCmp.NoneTotal
namespace Go.Proofs.Ytcngecibljgndaa
open Go.RowKit Go.Shelf

/-- What Nucleolus says of shares. -/
def nucB (E : Int) (xs l : List Int) (d : Int) : Bool := isB E xs l d && decide (l = (lowP (talmudP E xs)).1 ∧ d = (lowP (talmudP E xs)).2)
theorem nuc_iff {E : Int} {xs : List Int} (h : IsProb E xs) {l : List Int} {d : Int} (hS : IsSh E xs l d) : (∀ i, i < xs.length → ith l i * (talmudP E xs).2 = ith (talmudP E xs).1 i * d) ↔ (l = (lowP (talmudP E xs)).1 ∧ d = (lowP (talmudP E xs)).2) := by
  have hr : Shares E xs (talmudP E xs) := rule_shares (rule := 3) h
  have hT := low_is hr
  obtain ⟨g, hg, g1, g2⟩ := low_times (p := talmudP E xs) (by have := hr.den; omega)
  have hlen : (talmudP E xs).1.length = xs.length := hr.len
  have hd := hS.den
  have htd := hT.den
  constructor
  · intro ha
    refine low_same (by rw [hS.len, hT.len]) (by omega) (by omega) hS.low hT.low (fun k hk => ?_)
    rw [hS.len] at hk
    have := ha k hk
    rw [g1, g2 k (by omega)] at this
    refine Int.eq_of_mul_eq_mul_right (show g ≠ 0 by omega) ?_
    grind
  · rintro ⟨h1, h2⟩ i hi
    rw [g1, g2 i (by omega), ← h1, ← h2]; grind
theorem nuc_one {E : Int} {xs : List Int} (h : IsProb E xs) (h1 : xs.length = 1) {l : List Int} {d : Int} (hS : IsSh E xs l d) : l = (lowP (talmudP E xs)).1 ∧ d = (lowP (talmudP E xs)).2 := by
  have hr : Shares E xs (talmudP E xs) := rule_shares (rule := 3) h
  have hT := low_is hr
  have hd := hS.den
  have htd := hT.den
  refine low_same (by rw [hS.len, hT.len]) (by omega) (by omega) hS.low hT.low (fun k hk => ?_)
  rw [hS.len, h1] at hk
  obtain rfl : k = 0 := by omega
  have e : ∀ l : List Int, l.length = 1 → isum l = ith l 0 := fun l hl => by
    rw [isum_sm, hl]; simp [sm]
  have s1 := hS.sum
  have s2 := hT.sum
  rw [e _ (by rw [hS.len, h1])] at s1
  rw [e _ (by rw [hT.len, h1])] at s2
  rw [s1, s2]; grind

/-- What Nucleolus returns. -/
def NucRes (w : World) (E : Int) (xs l : List Int) (d : Int) (e : Ending) (w' : World) : Prop :=
  (¬ IsProb E xs ∧ e = .returned (.tuple #[.bool false, .int .i64 2]) ∧ Ext w w') ∨
  (IsProb E xs ∧ e = .returned (.tuple #[.bool (nucB E xs l d), .int .i64 0]) ∧ Ext w w')
set_option maxRecDepth 100000 in
set_option maxHeartbeats 1000000 in
theorem nucleolusN_calls (w : World) (E : Int) (ao lo : Option Addr) (cap lcap : Nat) (xs l : List Int) (d : Int) (hI : IntsIn w ao xs) (hJ : IntsIn w lo l) (hl : xs.length ≤ 1000000) (hll : l.length ≤ 1000000) (hno : ¬ (IsProb E xs ∧ IsSh E xs l d)) :
    Calls Try.prog 25 #[.int .i64 E, .slice ao xs.length cap, .agg #[.slice lo l.length lcap, .int .i64 d]] w (NucRes w E xs l d) := by
  have HNO := Lib.hid hno
  clear hno
  go_enter Try.func25, Try.ntmps25
  go_wp2_with fail
  have hx1 : Ext w (w.alloc (Obj.cells #[.slice lo l.length lcap, .int .i64 d] 26)) := (by repeat (first | exact Ext.refl _ | assumption | refine Ext.alloc ?_ _ | refine Ext.drewN ?_ _ | refine Ext.drew ?_))
  have hbx := PBox.new w 26 (.slice lo l.length lcap) d
  obtain ⟨B, hB⟩ : ∃ B, B = w.heap.size := ⟨_, rfl⟩
  generalize (w.alloc (Obj.cells #[.slice lo l.length lcap, .int .i64 d] 26)) = w1 at *
  rw [← hB] at hbx ⊢
  clear hB
  refine (problem_calls _ E ao cap xs (hI.ext hx1) hl).mono ?_
  rintro e w2 ⟨rfl, hx2⟩
  have hx12 := hx1.trans hx2
  cases hp : probB E xs with
  | false =>
    have HP := Lib.hid (show ¬ IsProb E xs from fun h => by rw [(probB_true E xs).2 h] at hp; simp at hp)
    clear hp
    simp only [errI]
    go_wp2_with fail
    go_ret2
    exact .inl ⟨HP.out, rfl, hx12⟩
  | true =>
    have hP := (probB_true E xs).1 hp
    have HP := Lib.hid hP
    clear hp
    obtain ⟨q0, q1, q2⟩ := hbx.ext hx2
    simp only [errI]
    have hnS : ¬ IsSh E xs l d := fun h => HNO.out ⟨hP, h⟩
    have hic := fun W h1 h2 => is_calls W E ao lo cap lcap xs l d h1 h2 hP.seven hP.claims hP.estate hll
    rw [isB_no hnS] at hic
    have HB : Hid (nucB E xs l d = false) := Lib.hid (by simp [nucB, isB_no hnS])
    clear hP hnS
    go_wp2_with fail
    refine (hic _ (hI.ext hx12) (hJ.ext hx12)).mono ?_
    rintro e w3 ⟨rfl, hx3⟩
    have hx13 := hx12.trans hx3
    clear hic q0 q1 q2
    go_wp2_with fail
    go_ret2
    exact .inr ⟨HP.out, by rw [HB.out]; rfl, hx13⟩
theorem nucleolusA_calls (w : World) (E : Int) (ao lo : Option Addr) (cap lcap : Nat) (xs l : List Int) (d : Int) (hI : IntsIn w ao xs) (hJ : IntsIn w lo l) (hl : xs.length ≤ 1000000) (hll : l.length ≤ 1000000) :
    Calls Try.prog 25 #[.int .i64 E, .slice ao xs.length cap, .agg #[.slice lo l.length lcap, .int .i64 d]] w (NucRes w E xs l d) := by
  by_cases hno : IsProb E xs ∧ IsSh E xs l d
  · obtain ⟨hP, hS⟩ := hno
    have key : Calls Try.prog 25 #[.int .i64 E, .slice ao xs.length cap, .agg #[.slice lo l.length lcap, .int .i64 d]] w (NucR w (nucB E xs l d)) := by
      by_cases h1 : xs.length = 1
      · have h2 : nucB E xs l d = true := by
          have := nuc_one hP h1 hS
          simp only [nucB, isB_yes hS, Bool.true_and, decide_eq_true_eq]; exact this
        rw [h2]
        exact nucleolus1_calls w E ao lo cap lcap xs l d hI hJ hP h1 hS
      · have h2 : 2 ≤ xs.length := by have := hP.one; omega
        refine nucleolusG_calls w E ao lo cap lcap xs l d _ hI hJ hP h2 hS ?_
        rw [nuc_law hP h2 hS, nuc_iff hP hS]
        simp only [nucB, isB_yes hS, Bool.true_and, decide_eq_true_eq]
    exact key.mono (fun e w' ⟨h1, h2⟩ => .inr ⟨hP, h1, h2⟩)
  · exact nucleolusN_calls w E ao lo cap lcap xs l d hI hJ hl hll hno
theorem nucB_parts {E d u : Int} {xs l t : List Int} (hS : IsSh E xs t u) (ht : (t, u) = lowP (talmudP E xs)) : nucB E xs l d = partsB d l u t := by
  have h1 : (lowP (talmudP E xs)).1 = t := by rw [← ht]
  have h2 : (lowP (talmudP E xs)).2 = u := by rw [← ht]
  unfold nucB
  rw [h1, h2]
  by_cases e : l = t ∧ d = u
  · obtain ⟨rfl, rfl⟩ := e
    simp [isB_yes hS, partsB]
  · rw [decide_eq_false e, Bool.and_false]
    symm
    simp only [partsB, Bool.and_eq_false_iff, beq_eq_false_iff_ne, decide_eq_false_iff_not]
    by_cases h : d = u
    · exact .inr (fun h' => e ⟨h', h⟩)
    · exact .inl h
end Go.Proofs.Ytcngecibljgndaa

/- The library's SortFunc at numbers: this program bears it. -/
namespace Go.Proofs.Ytcngecibljgndaa
open Go.Shelf
def sortFRen : Ren := ⟨fun | 6 => 82 | 15 => 119 | 14 => 118 | 28 => 136 | 29 => 137 | 20 => 128 | 21 => 129 | 22 => 130 | 23 => 131 | 24 => 132 | 25 => 133 | 26 => 134 | 27 => 135 | 46 => 147 | 47 => 148 | 48 => 149 | 49 => 150 | 50 => 151 | 57 => 156 | n => n, fun | 22 => 22 | 24 => 3 | 25 => 86 | 3 => 3 | 39 => 119 | 0 => 0 | 53 => 133 | 55 => 135 | 4 => 4 | 46 => 127 | 45 => 126 | 50 => 91 | 5 => 5 | 9 => 9 | 66 => 142 | 70 => 146 | 76 => 150 | 77 => 151 | n => n, fun n => n⟩
theorem sortF : SlLaysF.n6 Try.prog sortFRen where
  mixed := by kernel_rfl
  f6 := ⟨Try.f82.name, by kernel_rfl, Try.func82.trans (congrArg some (by kernel_rfl))⟩
  f14 := ⟨Try.f118.name, by kernel_rfl, Try.func118.trans (congrArg some (by kernel_rfl))⟩
  f15 := Try.func119.trans (congrArg some (by kernel_rfl))
  f20 := ⟨Try.f128.name, by kernel_rfl, Try.func128.trans (congrArg some (by kernel_rfl))⟩
  f21 := ⟨Try.f129.name, by kernel_rfl, Try.func129.trans (congrArg some (by kernel_rfl))⟩
  f22 := ⟨Try.f130.name, by kernel_rfl, Try.func130.trans (congrArg some (by kernel_rfl))⟩
  f23 := ⟨Try.f131.name, by kernel_rfl, Try.func131.trans (congrArg some (by kernel_rfl))⟩
  f24 := ⟨Try.f132.name, by kernel_rfl, Try.func132.trans (congrArg some (by kernel_rfl))⟩
  f25 := ⟨Try.f133.name, by kernel_rfl, Try.func133.trans (congrArg some (by kernel_rfl))⟩
  f26 := ⟨Try.f134.name, by kernel_rfl, Try.func134.trans (congrArg some (by kernel_rfl))⟩
  f27 := ⟨Try.f135.name, by kernel_rfl, Try.func135.trans (congrArg some (by kernel_rfl))⟩
  f28 := Try.func136.trans (congrArg some (by kernel_rfl))
  f29 := Try.func137.trans (congrArg some (by kernel_rfl))
  f46 := ⟨Try.f147.name, by kernel_rfl, Try.func147.trans (congrArg some (by kernel_rfl))⟩
  f47 := Try.func148.trans (congrArg some (by kernel_rfl))
  f48 := Try.func149.trans (congrArg some (by kernel_rfl))
  f49 := ⟨Try.f150.name, by kernel_rfl, Try.func150.trans (congrArg some (by kernel_rfl))⟩
  f50 := ⟨Try.f151.name, by kernel_rfl, Try.func151.trans (congrArg some (by kernel_rfl))⟩
  f57 := ⟨Try.f156.name, by kernel_rfl, Try.func156.trans (congrArg some (by kernel_rfl))⟩
  t0 := Try.underlying0
  a0 := Try.isAgg0
  z0 := Try.sizeOf0
  v0 := Try.zeroValue0
  t3 := Try.underlying3
  a3 := Try.isAgg3
  z3 := Try.sizeOf3
  v3 := Try.zeroValue3
  t4 := Try.underlying4
  a4 := Try.isAgg4
  z4 := Try.sizeOf4
  v4 := Try.zeroValue4
  t5 := Try.underlying5
  a5 := Try.isAgg5
  z5 := Try.sizeOf5
  v5 := Try.zeroValue5
  t9 := Try.underlying9
  a9 := Try.isAgg9
  z9 := Try.sizeOf9
  v9 := Try.zeroValue9
  t22 := Try.underlying22
  a22 := Try.isAgg22
  z22 := Try.sizeOf22
  v22 := Try.zeroValue22
  a24 := Try.isAgg3
  z24 := Try.sizeOf3
  t25 := Try.underlying86
  a25 := Try.isAgg86
  z25 := Try.sizeOf86
  v25 := Try.zeroValue86
  t39 := Try.underlying119
  a39 := Try.isAgg119
  z39 := Try.sizeOf119
  v39 := Try.zeroValue119
  t45 := Try.underlying126
  a45 := Try.isAgg126
  z45 := Try.sizeOf126
  v45 := Try.zeroValue126
  t46 := Try.underlying127
  a46 := Try.isAgg127
  z46 := Try.sizeOf127
  v46 := Try.zeroValue127
  t50 := Try.underlying91
  a50 := Try.isAgg91
  z50 := Try.sizeOf91
  v50 := Try.zeroValue91
  t53 := Try.underlying133
  a53 := Try.isAgg133
  z53 := Try.sizeOf133
  v53 := Try.zeroValue133
  t55 := Try.underlying135
  a55 := Try.isAgg135
  z55 := Try.sizeOf135
  v55 := Try.zeroValue135
  t66 := Try.underlying142
  a66 := Try.isAgg142
  z66 := Try.sizeOf142
  v66 := Try.zeroValue142
  t70 := Try.underlying146
  a70 := Try.isAgg146
  z70 := Try.sizeOf146
  v70 := Try.zeroValue146
  t76 := Try.underlying150
  a76 := Try.isAgg150
  z76 := Try.sizeOf150
  v76 := Try.zeroValue150
  t77 := Try.underlying151
  a77 := Try.isAgg151
  z77 := Try.sizeOf151
  v77 := Try.zeroValue151
def sortF0Ren : Ren := ⟨fun | 6 => 82 | 15 => 119 | 14 => 118 | 28 => 136 | 29 => 137 | 20 => 128 | 21 => 129 | 22 => 130 | 23 => 131 | 24 => 132 | 25 => 133 | 26 => 134 | 27 => 135 | 46 => 147 | 47 => 148 | 48 => 149 | 49 => 150 | 50 => 151 | 57 => 156 | n => n, fun | 22 => 22 | 24 => 3 | 25 => 86 | 3 => 3 | 39 => 119 | 0 => 0 | 53 => 133 | 55 => 135 | 4 => 4 | 46 => 127 | 45 => 126 | 50 => 91 | 5 => 5 | 9 => 9 | 66 => 142 | 70 => 146 | 76 => 150 | 77 => 151 | n => n, fun n => n⟩
theorem sortF0 : SlLaysF0.n6 Try.prog sortF0Ren where
  mixed := by kernel_rfl
  f6 := ⟨Try.f82.name, by kernel_rfl, Try.func82.trans (congrArg some (by kernel_rfl))⟩
  f14 := ⟨Try.f118.name, by kernel_rfl, Try.func118.trans (congrArg some (by kernel_rfl))⟩
  f15 := Try.func119.trans (congrArg some (by kernel_rfl))
  f20 := ⟨Try.f128.name, by kernel_rfl, Try.func128.trans (congrArg some (by kernel_rfl))⟩
  f21 := ⟨Try.f129.name, by kernel_rfl, Try.func129.trans (congrArg some (by kernel_rfl))⟩
  f22 := ⟨Try.f130.name, by kernel_rfl, Try.func130.trans (congrArg some (by kernel_rfl))⟩
  f23 := ⟨Try.f131.name, by kernel_rfl, Try.func131.trans (congrArg some (by kernel_rfl))⟩
  f24 := ⟨Try.f132.name, by kernel_rfl, Try.func132.trans (congrArg some (by kernel_rfl))⟩
  f25 := ⟨Try.f133.name, by kernel_rfl, Try.func133.trans (congrArg some (by kernel_rfl))⟩
  f26 := ⟨Try.f134.name, by kernel_rfl, Try.func134.trans (congrArg some (by kernel_rfl))⟩
  f27 := ⟨Try.f135.name, by kernel_rfl, Try.func135.trans (congrArg some (by kernel_rfl))⟩
  f28 := Try.func136.trans (congrArg some (by kernel_rfl))
  f29 := Try.func137.trans (congrArg some (by kernel_rfl))
  f46 := ⟨Try.f147.name, by kernel_rfl, Try.func147.trans (congrArg some (by kernel_rfl))⟩
  f47 := Try.func148.trans (congrArg some (by kernel_rfl))
  f48 := Try.func149.trans (congrArg some (by kernel_rfl))
  f49 := ⟨Try.f150.name, by kernel_rfl, Try.func150.trans (congrArg some (by kernel_rfl))⟩
  f50 := ⟨Try.f151.name, by kernel_rfl, Try.func151.trans (congrArg some (by kernel_rfl))⟩
  f57 := ⟨Try.f156.name, by kernel_rfl, Try.func156.trans (congrArg some (by kernel_rfl))⟩
  t0 := Try.underlying0
  a0 := Try.isAgg0
  z0 := Try.sizeOf0
  v0 := Try.zeroValue0
  t3 := Try.underlying3
  a3 := Try.isAgg3
  z3 := Try.sizeOf3
  v3 := Try.zeroValue3
  t4 := Try.underlying4
  a4 := Try.isAgg4
  z4 := Try.sizeOf4
  v4 := Try.zeroValue4
  t5 := Try.underlying5
  a5 := Try.isAgg5
  z5 := Try.sizeOf5
  v5 := Try.zeroValue5
  t9 := Try.underlying9
  a9 := Try.isAgg9
  z9 := Try.sizeOf9
  v9 := Try.zeroValue9
  t22 := Try.underlying22
  a22 := Try.isAgg22
  z22 := Try.sizeOf22
  v22 := Try.zeroValue22
  t25 := Try.underlying86
  a25 := Try.isAgg86
  z25 := Try.sizeOf86
  v25 := Try.zeroValue86
  t39 := Try.underlying119
  a39 := Try.isAgg119
  z39 := Try.sizeOf119
  v39 := Try.zeroValue119
  t45 := Try.underlying126
  a45 := Try.isAgg126
  z45 := Try.sizeOf126
  v45 := Try.zeroValue126
  t46 := Try.underlying127
  a46 := Try.isAgg127
  z46 := Try.sizeOf127
  v46 := Try.zeroValue127
  t50 := Try.underlying91
  a50 := Try.isAgg91
  z50 := Try.sizeOf91
  v50 := Try.zeroValue91
  t53 := Try.underlying133
  a53 := Try.isAgg133
  z53 := Try.sizeOf133
  v53 := Try.zeroValue133
  t55 := Try.underlying135
  a55 := Try.isAgg135
  z55 := Try.sizeOf135
  v55 := Try.zeroValue135
  t66 := Try.underlying142
  a66 := Try.isAgg142
  z66 := Try.sizeOf142
  v66 := Try.zeroValue142
  t70 := Try.underlying146
  a70 := Try.isAgg146
  z70 := Try.sizeOf146
  v70 := Try.zeroValue146
  t76 := Try.underlying150
  a76 := Try.isAgg150
  z76 := Try.sizeOf150
  v76 := Try.zeroValue150
  t77 := Try.underlying151
  a77 := Try.isAgg151
  z77 := Try.sizeOf151
  v77 := Try.zeroValue151
end Go.Proofs.Ytcngecibljgndaa
