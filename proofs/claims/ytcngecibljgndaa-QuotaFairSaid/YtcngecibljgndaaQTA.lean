/- The tableau of sets, and what is asked of the closed problem: plain. -/
import Derived.Test.YtcngecibljgndaaQN
import Derived.Test.YtcngecibljgndaaQO
import Derived.Test.YtcngecibljgndaaQI
namespace Go.Proofs.Ytcngecibljgndaa
open Go.RowKit Go.Shelf

/-- Is claimant c in the set s? -/
def inB (s : Int) (c : Nat) : Int := if s.toNat.testBit c = true then 1 else 0
/-- A row: its first k entries for sets. -/
def rowK (n : Nat) (ss : List Int) (c k : Nat) : List Int := (List.range (ss.length + n + 1)).map fun q => if q < k then inB (ith ss q) c else 0
def rowOf (n : Nat) (ss : List Int) (c : Nat) : List Int := ((rowK n ss c ss.length).set (ss.length + c) 1).set (ss.length + n) 1
/-- A goal, less the first k entries of a row. -/
def lessRow (m n : Nat) (g r : List Int) (k : Nat) : List Int := (List.range (m + n + 1)).map fun q => if q < k ∧ (q < m ∨ q = m + n) then ith g q - ith r q else ith g q
def goalOf (n : Nat) (ss : List Int) : Nat → List Int
  | 0 => List.replicate (ss.length + n + 1) 0
  | c + 1 => lessRow ss.length n (goalOf n ss c) (rowOf n ss c) (ss.length + n + 1)
/-- The tableau, when c claimants have a row. -/
def tabK (n : Nat) (ss : List Int) (c : Nat) : Tab := ⟨ss.length, n, (List.range c).map (rowOf n ss), goalOf n ss c, (List.range c).map fun q => ((ss.length + q : Nat) : Int), 1⟩


def greatAll (f : Nat) : Nat → Nat → Tab → Bool
  | 0, _, _ => true
  | c + 1, k, T => match greatestP f k T with | none => false | some (T', ws) => decide (ith ws k ≠ 0) && greatAll f c (k + 1) T'
def levelB (f n : Nat) (ss : List Int) (had : Nat) : Bool := match readyP f (tabK n ss n) with | none => false | some T => T.sm && decide (T.sets = ss.length) && greatAll f (ss.length - had) had T
/-- The sets of an excess, behind the first k of all. -/
def setsTo (l : List Int) (x : Int) (k : Nat) : List Int := ((List.range k).filter fun i => ith l i == x).map fun (i : Nat) => ((i : Int) + 1)
def levelsB (f n : Nat) (l : List Int) : List Int → List Int → Bool
  | [], _ => true
  | x :: r, ss => levelB f n (ss ++ setsTo l x l.length) ss.length && levelsB f n l r (ss ++ setsTo l x l.length)
def levelsOf (l : List Int) : List Int := (Lib.compact (sortI l)).reverse
theorem sort_claims : sortI [100, 200, 300] = [100, 200, 300] := by simp [sortI, List.mergeSort, List.MergeSort.Internal.splitInTwo]
theorem closed_exc : excP 200 [100, 200, 300] [50, 75, 75] 1 = [-50, -75, -125, -75, -125, -50] := by decide +kernel
theorem sort_exc : sortI [-50, -75, -125, -75, -125, -50] = [-125, -125, -75, -75, -50, -50] := by simp [sortI, List.mergeSort, List.MergeSort.Internal.splitInTwo]
theorem closed_compact : (Lib.compact [-125, -125, -75, -75, -50, -50]).reverse = ([-50, -75, -125] : List Int) := by decide +kernel
theorem closed_levels : levelsB 30 3 (excP 200 [100, 200, 300] [50, 75, 75] 1) (levelsOf (excP 200 [100, 200, 300] [50, 75, 75] 1)) [] = true := by
  rw [closed_exc, levelsOf, sort_exc, closed_compact]
  decide +kernel
theorem closed_talmud : shareP 3 200 [100, 200, 300] = some ([50, 75, 75], 1) := by
  unfold shareP ruleP talmudP equalP
  rw [sort_claims]
  decide +kernel
theorem closed_run : shareP 4 200 [100, 200, 300] = some ([100, 250, 250], 3) := by
  have h : ¬ (4 : Int) = 0 ∧ ¬ (4 : Int) = 1 ∧ ¬ (4 : Int) = 2 ∧ ¬ (4 : Int) = 3 := by decide
  unfold shareP ruleP
  rw [if_neg h.1, if_neg h.2.1, if_neg h.2.2.1, if_neg h.2.2.2]
  decide +kernel
theorem closed_is : isB 200 [100, 200, 300] [50, 75, 75] 1 = true := by decide +kernel
end Go.Proofs.Ytcngecibljgndaa
