/- Nucleolus of all arguments. -/
import Derived.Test.YtcngecibljgndaaMNG
import Derived.Test.YtcngecibljgndaaMNE
import Derived.Test.YtcngecibljgndaaMQPH
import Derived.Test.YtcngecibljgndaaMQW
import Derived.Test.YtcngecibljgndaaMNK
import Derived.Test.YtcngecibljgndaaMQGB
namespace Go.Proofs.Ytcngecibljgndaa
open Go.RowKit Go.Shelf

/-- What Nucleolus says of shares. -/
def nucB (E : Int) (xs l : List Int) (d : Int) : Bool := isB E xs l d && decide (l = (lowP (talmudP E xs)).1 ∧ d = (lowP (talmudP E xs)).2)
theorem nuc_iff {E : Int} {xs : List Int} (h : IsProb E xs) {l : List Int} {d : Int} (hS : IsSh E xs l d) : (∀ i, i < xs.length → ith l i * (talmudP E xs).2 = ith (talmudP E xs).1 i * d) ↔ (l = (lowP (talmudP E xs)).1 ∧ d = (lowP (talmudP E xs)).2) := by
  have hr : Shares E xs (talmudP E xs) := rule_shares (rule := 3) h
  have hT := low_is hr
  obtain ⟨g, hg, g1, g2⟩ := low_times (p := talmudP E xs) (by have := hr.den; omega)
  have hlen : (talmudP E xs).1.length = xs.length := hr.len
  have hd := hS.den
  have htd := hT.den
  constructor
  · intro ha
    refine low_same (by rw [hS.len, hT.len]) (by omega) (by omega) hS.low hT.low (fun k hk => ?_)
    rw [hS.len] at hk
    have := ha k hk
    rw [g1, g2 k (by omega)] at this
    refine Int.eq_of_mul_eq_mul_right (show g ≠ 0 by omega) ?_
    grind
  · rintro ⟨h1, h2⟩ i hi
    rw [g1, g2 i (by omega), ← h1, ← h2]; grind
theorem nuc_one {E : Int} {xs : List Int} (h : IsProb E xs) (h1 : xs.length = 1) {l : List Int} {d : Int} (hS : IsSh E xs l d) : l = (lowP (talmudP E xs)).1 ∧ d = (lowP (talmudP E xs)).2 := by
  have hr : Shares E xs (talmudP E xs) := rule_shares (rule := 3) h
  have hT := low_is hr
  have hd := hS.den
  have htd := hT.den
  refine low_same (by rw [hS.len, hT.len]) (by omega) (by omega) hS.low hT.low (fun k hk => ?_)
  rw [hS.len, h1] at hk
  obtain rfl : k = 0 := by omega
  have e : ∀ l : List Int, l.length = 1 → isum l = ith l 0 := fun l hl => by
    rw [isum_sm, hl]; simp [sm]
  have s1 := hS.sum
  have s2 := hT.sum
  rw [e _ (by rw [hS.len, h1])] at s1
  rw [e _ (by rw [hT.len, h1])] at s2
  rw [s1, s2]; grind

/-- What Nucleolus returns. -/
def NucRes (w : World) (E : Int) (xs l : List Int) (d : Int) (e : Ending) (w' : World) : Prop :=
  (¬ IsProb E xs ∧ e = .returned (.tuple #[.bool false, .int .i64 2]) ∧ Ext w w') ∨
  (IsProb E xs ∧ e = .returned (.tuple #[.bool (nucB E xs l d), .int .i64 0]) ∧ Ext w w')
set_option maxRecDepth 100000 in
set_option maxHeartbeats 1000000 in
theorem nucleolusN_calls (w : World) (E : Int) (ao lo : Option Addr) (cap lcap : Nat) (xs l : List Int) (d : Int) (hI : IntsIn w ao xs) (hJ : IntsIn w lo l) (hl : xs.length ≤ 1000000) (hll : l.length ≤ 1000000) (hno : ¬ (IsProb E xs ∧ IsSh E xs l d)) :
    Calls Try.prog 25 #[.int .i64 E, .slice ao xs.length cap, .agg #[.slice lo l.length lcap, .int .i64 d]] w (NucRes w E xs l d) := by
  have HNO := Lib.hid hno
  clear hno
  go_enter Try.func25, Try.ntmps25
  go_wp2_with fail
  have hx1 : Ext w (w.alloc (Obj.cells #[.slice lo l.length lcap, .int .i64 d] 26)) := (by repeat (first | exact Ext.refl _ | assumption | refine Ext.alloc ?_ _ | refine Ext.drewN ?_ _ | refine Ext.drew ?_))
  have hbx := PBox.new w 26 (.slice lo l.length lcap) d
  obtain ⟨B, hB⟩ : ∃ B, B = w.heap.size := ⟨_, rfl⟩
  generalize (w.alloc (Obj.cells #[.slice lo l.length lcap, .int .i64 d] 26)) = w1 at *
  rw [← hB] at hbx ⊢
  clear hB
  refine (problem_calls _ E ao cap xs (hI.ext hx1) hl).mono ?_
  rintro e w2 ⟨rfl, hx2⟩
  have hx12 := hx1.trans hx2
  cases hp : probB E xs with
  | false =>
    have HP := Lib.hid (show ¬ IsProb E xs from fun h => by rw [(probB_true E xs).2 h] at hp; simp at hp)
    clear hp
    simp only [errI]
    go_wp2_with fail
    go_ret2
    exact .inl ⟨HP.out, rfl, hx12⟩
  | true =>
    have hP := (probB_true E xs).1 hp
    have HP := Lib.hid hP
    clear hp
    obtain ⟨q0, q1, q2⟩ := hbx.ext hx2
    simp only [errI]
    have hnS : ¬ IsSh E xs l d := fun h => HNO.out ⟨hP, h⟩
    have hic := fun W h1 h2 => is_calls W E ao lo cap lcap xs l d h1 h2 hP.seven hP.claims hP.estate hll
    rw [isB_no hnS] at hic
    have HB : Hid (nucB E xs l d = false) := Lib.hid (by simp [nucB, isB_no hnS])
    clear hP hnS
    go_wp2_with fail
    refine (hic _ (hI.ext hx12) (hJ.ext hx12)).mono ?_
    rintro e w3 ⟨rfl, hx3⟩
    have hx13 := hx12.trans hx3
    clear hic q0 q1 q2
    go_wp2_with fail
    go_ret2
    exact .inr ⟨HP.out, by rw [HB.out]; rfl, hx13⟩
theorem nucleolusA_calls (w : World) (E : Int) (ao lo : Option Addr) (cap lcap : Nat) (xs l : List Int) (d : Int) (hI : IntsIn w ao xs) (hJ : IntsIn w lo l) (hl : xs.length ≤ 1000000) (hll : l.length ≤ 1000000) :
    Calls Try.prog 25 #[.int .i64 E, .slice ao xs.length cap, .agg #[.slice lo l.length lcap, .int .i64 d]] w (NucRes w E xs l d) := by
  by_cases hno : IsProb E xs ∧ IsSh E xs l d
  · obtain ⟨hP, hS⟩ := hno
    have key : Calls Try.prog 25 #[.int .i64 E, .slice ao xs.length cap, .agg #[.slice lo l.length lcap, .int .i64 d]] w (NucR w (nucB E xs l d)) := by
      by_cases h1 : xs.length = 1
      · have h2 : nucB E xs l d = true := by
          have := nuc_one hP h1 hS
          simp only [nucB, isB_yes hS, Bool.true_and, decide_eq_true_eq]; exact this
        rw [h2]
        exact nucleolus1_calls w E ao lo cap lcap xs l d hI hJ hP h1 hS
      · have h2 : 2 ≤ xs.length := by have := hP.one; omega
        refine nucleolusG_calls w E ao lo cap lcap xs l d _ hI hJ hP h2 hS ?_
        rw [nuc_law hP h2 hS, nuc_iff hP hS]
        simp only [nucB, isB_yes hS, Bool.true_and, decide_eq_true_eq]
    exact key.mono (fun e w' ⟨h1, h2⟩ => .inr ⟨hP, h1, h2⟩)
  · exact nucleolusN_calls w E ao lo cap lcap xs l d hI hJ hl hll hno
theorem nucB_parts {E d u : Int} {xs l t : List Int} (hS : IsSh E xs t u) (ht : (t, u) = lowP (talmudP E xs)) : nucB E xs l d = partsB d l u t := by
  have h1 : (lowP (talmudP E xs)).1 = t := by rw [← ht]
  have h2 : (lowP (talmudP E xs)).2 = u := by rw [← ht]
  unfold nucB
  rw [h1, h2]
  by_cases e : l = t ∧ d = u
  · obtain ⟨rfl, rfl⟩ := e
    simp [isB_yes hS, partsB]
  · rw [decide_eq_false e, Bool.and_false]
    symm
    simp only [partsB, Bool.and_eq_false_iff, beq_eq_false_iff_ne, decide_eq_false_iff_not]
    by_cases h : d = u
    · exact .inr (fun h' => e ⟨h', h⟩)
    · exact .inl h
end Go.Proofs.Ytcngecibljgndaa

/- Kohlberg's condition by sets above a number; plain. -/
namespace Go.Proofs.Ytcngecibljgndaa
open Go.RowKit Go.Shelf

/-- Weights moved to another list that has all these sets. -/
theorem IsW.move {n : Nat} {ss s2 : List Int} {w : Nat → Int} {D : Int} (h : IsW n ss w D) (hn : s2.Nodup) (hs : ∀ k, k < ss.length → ith ss k ∈ s2) : IsW n s2 (fun q => sm ss.length fun k => if ith ss k = ith s2 q then w k else 0) D := by
  refine ⟨h.pos, fun q _ => sm_ge0 _ (fun k hk => ?_), fun r hr => ?_⟩
  · split
    · exact h.low k hk
    · exact Int.le_refl _
  · rw [← h.all r hr]
    have e1 : ∀ q, q < s2.length → inB (ith s2 q) r * (sm ss.length fun k => if ith ss k = ith s2 q then w k else 0) = sm ss.length fun k => w k * (inB (ith s2 q) r * if ith s2 q = ith ss k then 1 else 0) := fun q _ => by
      rw [← sm_mul]
      refine sm_congr _ (fun k _ => ?_)
      by_cases e : ith ss k = ith s2 q
      · rw [if_pos e, if_pos e.symm]; grind
      · rw [if_neg e, if_neg (Ne.symm e)]; simp
    rw [sm_congr _ e1, sm_swap]
    refine sm_congr _ (fun k hk => ?_)
    rw [sm_mul, sm_hit hn (hs k hk) (fun s => inB s r)]
    exact Int.mul_comm _ _
theorem IsW.move_pos {n : Nat} {ss s2 : List Int} {w : Nat → Int} {D : Int} (h : IsW n ss w D) {p q : Nat} (hp : p < ss.length) (e : ith ss p = ith s2 q) (h0 : 0 < w p) : 0 < sm ss.length fun k => if ith ss k = ith s2 q then w k else 0 := by
  have h1 := sm_split (fun k => if ith ss k = ith s2 q then w k else 0) p ss.length hp
  have h2 : 0 ≤ sm ss.length fun m => if m = p then 0 else if ith ss m = ith s2 q then w m else 0 := sm_ge0 _ (fun k hk => by
    split
    · exact Int.le_refl _
    · split
      · exact h.low k hk
      · exact Int.le_refl _)
  rw [if_pos e] at h1
  omega
/-- The sets with no less excess. -/
def thrL (l : List Int) (m : Int) (k : Nat) : List Int := ((List.range k).filter fun i => decide (m ≤ ith l i)).map fun (i : Nat) => ((i : Int) + 1)
theorem thrL_zero (l : List Int) (m : Int) : thrL l m 0 = [] := rfl
theorem thrL_yes (l : List Int) (m : Int) (k : Nat) (h : m ≤ ith l k) : thrL l m (k + 1) = thrL l m k ++ [(k : Int) + 1] := by
  unfold thrL
  rw [List.range_succ, List.filter_append, List.map_append]
  simp [h]
theorem thrL_no (l : List Int) (m : Int) (k : Nat) (h : ¬ m ≤ ith l k) : thrL l m (k + 1) = thrL l m k := by
  unfold thrL
  rw [List.range_succ, List.filter_append, List.map_append]
  simp [h]
theorem thrL_length (l : List Int) (m : Int) (k : Nat) : (thrL l m k).length ≤ k := by
  rw [thrL, List.length_map]
  exact Nat.le_trans (List.length_filter_le _ _) (by simp)
theorem thrL_mem (l : List Int) (m s : Int) (k : Nat) : s ∈ thrL l m k ↔ ∃ j : Nat, j < k ∧ s = (j : Int) + 1 ∧ m ≤ ith l j := by
  simp only [thrL, List.mem_map, List.mem_filter, List.mem_range, decide_eq_true_eq]
  constructor
  · rintro ⟨j, ⟨h1, h2⟩, rfl⟩; exact ⟨j, h1, rfl, h2⟩
  · rintro ⟨j, h1, rfl, h2⟩; exact ⟨j, ⟨h1, h2⟩, rfl⟩
theorem thrL_nodup (l : List Int) (m : Int) (k : Nat) : (thrL l m k).Nodup := by
  unfold thrL
  refine List.Pairwise.map _ (R := fun a b => a ≠ b) (fun a b h => by omega) ?_
  exact List.Pairwise.filter _ List.nodup_range
theorem thrL_good {n : Nat} (hn : 1 ≤ n ∧ n ≤ 7) (l : List Int) (m : Int) {k : Nat} (hk : k + 2 ≤ 2 ^ n) : GoodS n (thrL l m k) := by
  refine ⟨by omega, ?_, fun x hx => ?_⟩
  · have := thrL_length l m k
    have : 2 ^ n ≤ 2 ^ 7 := Nat.pow_le_pow_right (by omega) hn.2
    omega
  · obtain ⟨j, hj, rfl, -⟩ := (thrL_mem l m x k).1 hx
    refine ⟨by omega, ?_⟩
    have h1 : ((j + 1 : Nat) : Int) < ((2 ^ n : Nat) : Int) := by omega
    simpa using h1
theorem bal_KP {n : Nat} {l : List Int} : (∀ j, j < l.length → Bal n (thrL l (ith l j) l.length)) ↔ KP n l := by
  constructor
  · intro h j hj
    obtain ⟨-, hb⟩ := h j hj
    have hm : ((j : Int) + 1) ∈ thrL l (ith l j) l.length := (thrL_mem _ _ _ _).2 ⟨j, hj, rfl, Int.le_refl _⟩
    obtain ⟨p, hp, e⟩ := List.getElem_of_mem hm
    obtain ⟨w, D, h1, h2⟩ := hb p hp
    refine ⟨_, w, D, p, h1, fun k hk => ?_, hp, by rw [ith_get _ hp, e], h2⟩
    exact (thrL_mem _ _ _ _).1 (by rw [ith_get _ hk]; exact List.getElem_mem _)
  · intro h j hj
    refine ⟨?_, fun q hq => ?_⟩
    · have hm : ((j : Int) + 1) ∈ thrL l (ith l j) l.length := (thrL_mem _ _ _ _).2 ⟨j, hj, rfl, Int.le_refl _⟩
      exact List.length_pos_of_mem hm
    · obtain ⟨i, hi, e1, h1⟩ := (thrL_mem l (ith l j) (ith (thrL l (ith l j) l.length) q) l.length).1 (by rw [ith_get _ hq]; exact List.getElem_mem _)
      obtain ⟨ss, w, D, p, k1, k2, k3, k4, k5⟩ := h i hi
      refine ⟨_, D, k1.move (thrL_nodup l (ith l j) l.length) (fun k hk => ?_), k1.move_pos k3 (by rw [k4, e1]) k5⟩
      obtain ⟨i2, a1, a2, a3⟩ := k2 k hk
      exact (thrL_mem _ _ _ _).2 ⟨i2, a1, a2, by omega⟩
/-- The same by the levels in their order. -/
theorem bal_sorted {n : Nat} {l : List Int} : (∀ k, k < (sortD l).length → Bal n (thrL l (ith (sortD l) k) l.length)) ↔ KP n l := by
  rw [← bal_KP]
  constructor
  · intro h j hj
    obtain ⟨k, hk, e⟩ := List.getElem_of_mem ((sortD_perm l).mem_iff.2 (show ith l j ∈ l by rw [ith_get _ hj]; exact List.getElem_mem _))
    rw [← e, ← ith_get _ hk]; exact h k hk
  · intro h k hk
    obtain ⟨j, hj, e⟩ := List.getElem_of_mem ((sortD_perm l).mem_iff.1 (show ith (sortD l) k ∈ sortD l by rw [ith_get _ hk]; exact List.getElem_mem _))
    rw [← e, ← ith_get _ hj]; exact h j hj
theorem KP_nuc {E : Int} {xs : List Int} (h : IsProb E xs) {l : List Int} {d : Int} (hS : IsSh E xs l d) : KP xs.length (excP E xs l d) ↔ nucB E xs l d = true := by
  have hone := h.one
  by_cases hn : 2 ≤ xs.length
  · have hr : Shares E xs (talmudP E xs) := rule_shares (rule := 3) h
    have hT := low_is hr
    obtain ⟨g, hg, g1, g2⟩ := low_times (p := talmudP E xs) (by have := hr.den; omega)
    have hlen : (talmudP E xs).1.length = xs.length := hr.len
    have hL := talmud_levels h hn hT (fun i hi => by rw [g1, g2 i (by omega)]; grind)
    have hd := hS.den
    have htd := hT.den
    have e1 : nucB E xs l d = true ↔ (∀ i, i < xs.length → ith l i * (talmudP E xs).2 = ith (talmudP E xs).1 i * d) := by
      rw [nuc_iff h hS]; simp only [nucB, isB_yes hS, Bool.true_and, decide_eq_true_eq]
    rw [e1]
    constructor
    · intro hp i hi
      have hsame := hp.same (exc_of (by omega) hS.len hS.sum) (exc_of (by omega) hT.len hT.sum) (by rw [exc_len, exc_len]) (levels_KP hL)
      have hpw := pow_big hn hi
      have h1 := hsame (2 ^ i - 1) (by rw [exc_len]; omega)
      rw [exc_at E xs l d hS.len hpw.1 hpw.2, exc_at E xs _ _ hT.len hpw.1 hpw.2, getsV_one _ hi, getsV_one _ hi, getsV_one _ hi] at h1
      rw [g1, g2 i (by omega)]
      have h2 : ith l i * (lowP (talmudP E xs)).2 = ith (lowP (talmudP E xs)).1 i * d := by grind
      grind
    · intro ht
      exact levels_KP (talmud_levels h hn hS ht)
  · have h1 : xs.length = 1 := by omega
    have h2 : nucB E xs l d = true := by
      have := nuc_one h h1 hS
      simp only [nucB, isB_yes hS, Bool.true_and, decide_eq_true_eq]; exact this
    rw [h2]
    refine ⟨fun _ => rfl, fun _ j hj => ?_⟩
    rw [exc_len, h1] at hj
    omega
end Go.Proofs.Ytcngecibljgndaa
