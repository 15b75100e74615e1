/- Balanced: the divisors, what each step adds, and what comes out; plain. -/
import Derived.Test.YtcngecibljgndaaLH
import Derived.Test.YtcngecibljgndaaMNE
import Derived.Test.YtcngecibljgndaaProg
import Derived.Shelf.SlLaysF
import Derived.Shelf.SlLaysF0
import Derived.Shelf.SlSortCmp.NoneTotal
namespace Go.Proofs.Ytcngecibljgndaa
open Go.RowKit Go.Shelf

theorem Std.den32 {n : Nat} {ss : List Int} {e : Nat → Nat} {H T : Tab} (h : Std n ss e H T) (hn : 1 ≤ n ∧ n ≤ 7) : 1 ≤ T.den ∧ T.den ≤ 32 := by
  obtain ⟨s, c, hR⟩ := h.rep
  have hv := hR.plu.val
  have hp := hR.feas.pos
  have hb := det_bits hn (M := fun a r => colOf n ss (H.J a) r) (fun a r _ hr => tab_01 n ss r _ hr)
  have e1 : Fof n (colOf n ss) H.J = det n fun a r => colOf n ss (H.J a) r := rfl
  rw [e1] at hv
  rw [h.sub.den]
  rcases hR.plu.sign with h4 | h4 <;> rw [h4] at hv <;> omega
theorem IsW.le {n : Nat} {ss : List Int} {w : Nat → Int} {D : Int} (h : IsW n ss w D) {k : Nat} (hk : k < ss.length) (hne : ∃ r, r < n ∧ inB (ith ss k) r = 1) : w k ≤ D := by
  obtain ⟨r, hr, h1⟩ := hne
  have h2 := h.all r hr
  have h3 := sm_split (fun k => inB (ith ss k) r * w k) k ss.length hk
  have h4 : 0 ≤ sm ss.length fun m => if m = k then 0 else inB (ith ss m) r * w m := sm_ge0 _ (fun i hi => by
    split
    · exact Int.le_refl _
    · exact Int.mul_nonneg (by rcases inB_01 (ith ss i) r with e | e <;> omega) (h.low i hi))
  rw [h1, Int.one_mul] at h3
  omega
theorem dvd32a : ∀ b : Fin 33, b.val ≠ 0 → 144403552893600 % b.val = 0 := by decide
theorem dvd32 {b : Nat} (h1 : 1 ≤ b) (h2 : b ≤ 32) : b ∣ 144403552893600 := Nat.dvd_of_mod_eq_zero (dvd32a ⟨b, by omega⟩ (by simp; omega))
/-- Two divisors put together. -/
theorem lcm_facts {D b : Nat} (hD : 0 < D) (hb : 0 < b) : ∃ c e M : Nat, D / Nat.gcd D b * b = M ∧ M = D * c ∧ M = b * e ∧ 0 < c ∧ 0 < e ∧ ∀ L, D ∣ L → b ∣ L → M ∣ L := by
  have hl : D / Nat.gcd D b * b = Nat.lcm D b := by
    rw [Nat.lcm, Nat.mul_comm, Nat.mul_comm D b]
    exact (Nat.mul_div_assoc b (Nat.gcd_dvd_left D b)).symm
  obtain ⟨c, hc⟩ := Nat.dvd_lcm_left D b
  obtain ⟨e, he⟩ := Nat.dvd_lcm_right D b
  have hp : 0 < Nat.lcm D b := Nat.lcm_pos hD hb
  refine ⟨c, e, Nat.lcm D b, hl, hc, he, Nat.pos_of_ne_zero (fun h => by subst h; rw [Nat.mul_zero] at hc; omega), Nat.pos_of_ne_zero (fun h => by subst h; rw [Nat.mul_zero] at he; omega), fun L h1 h2 => Nat.lcm_dvd h1 h2⟩
/-- The sums of the first k weights, over a divisor. -/
structure BalTo (n : Nat) (ss : List Int) (k : Nat) (tot : Nat → Int) (D : Nat) : Prop where
  pos : 0 < D
  dvd : D ∣ 144403552893600
  low : ∀ i, i < ss.length → 0 ≤ tot i ∧ tot i ≤ (D : Int) * k
  all : ∀ r, r < n → (sm ss.length fun i => inB (ith ss i) r * tot i) = (D : Int) * k
  has : ∀ i, i < k → 0 < tot i
theorem BalTo.zero (n : Nat) (ss : List Int) : BalTo n ss 0 (fun _ => 0) 1 :=
  ⟨by omega, ⟨_, (Nat.one_mul _).symm⟩, fun i _ => by simp, fun r _ => by rw [sm_all0 _ (fun i _ => Int.mul_zero _)]; simp, fun i hi => by omega⟩
theorem BalTo.small {n : Nat} {ss : List Int} {k : Nat} {tot : Nat → Int} {D : Nat} (h : BalTo n ss k tot D) : D ≤ 144403552893600 := Nat.le_of_dvd (by omega) h.dvd
theorem BalTo.step {n : Nat} {ss : List Int} {k : Nat} {tot : Nat → Int} {D : Nat} (h : BalTo n ss k tot D) (hk : k < ss.length) {w : Nat → Int} {b : Nat} (hb : 1 ≤ b ∧ b ≤ 32) (hw : IsW n ss w b) (hle : ∀ i, i < ss.length → w i ≤ b) (h0 : 0 < w k) :
    ∃ c e M : Nat, D / Nat.gcd D b * b = M ∧ M = D * c ∧ M = b * e ∧ 0 < c ∧ 0 < e ∧ BalTo n ss (k + 1) (fun i => tot i * c + w i * e) M := by
  obtain ⟨c, e, M, h1, h2, h3, h4, h5, h6⟩ := lcm_facts h.pos (show 0 < b by omega)
  have hM : 0 < M := by rw [h2]; exact Nat.mul_pos h.pos h4
  have z2 : (M : Int) = D * c := by rw [h2]; simp
  have z3 : (M : Int) = b * e := by rw [h3]; simp
  refine ⟨c, e, M, h1, h2, h3, h4, h5, hM, h6 _ h.dvd (dvd32 hb.1 hb.2), fun i hi => ⟨?_, ?_⟩, fun r hr => ?_, fun i hi => ?_⟩
  · exact Int.add_nonneg (Int.mul_nonneg (h.low i hi).1 (by omega)) (Int.mul_nonneg (hw.low i hi) (by omega))
  · have a1 := Int.mul_le_mul_of_nonneg_right (h.low i hi).2 (show (0 : Int) ≤ c by omega)
    have a2 := Int.mul_le_mul_of_nonneg_right (hle i hi) (show (0 : Int) ≤ e by omega)
    have a3 : (M : Int) * ((k + 1 : Nat) : Int) = (D : Int) * k * c + b * e := by rw [← z3, z2]; simp; grind
    rw [a3]; omega
  · have e1 : (sm ss.length fun i => inB (ith ss i) r * (tot i * c + w i * e)) = c * (sm ss.length fun i => inB (ith ss i) r * tot i) + e * sm ss.length fun i => inB (ith ss i) r * w i := by
      rw [← sm_mul, ← sm_mul, ← sm_add]
      exact sm_congr _ (fun i _ => by grind)
    rw [e1, h.all r hr, hw.all r hr]
    have a3 : (M : Int) * ((k + 1 : Nat) : Int) = (D : Int) * k * c + b * e := by rw [← z3, z2]; simp; grind
    rw [a3]; grind
  · by_cases hi2 : i < k
    · have a1 := Int.mul_pos (h.has i hi2) (show (0 : Int) < c by omega)
      have a2 : 0 ≤ w i * e := Int.mul_nonneg (hw.low i (by omega)) (by omega)
      omega
    · obtain rfl : i = k := by omega
      have a1 : 0 ≤ tot i * c := Int.mul_nonneg (h.low i hk).1 (by omega)
      have a2 := Int.mul_pos h0 (show (0 : Int) < e by omega)
      omega
/-- Positive weights in lowest terms. -/
structure Weighs (n : Nat) (ss l : List Int) (d : Int) : Prop where
  some_ : 0 < ss.length
  len : l.length = ss.length
  den : 0 < d ∧ d ≤ 100000000000000000
  low : gcdL d l = 1
  num : ∀ i, i < ss.length → 0 < ith l i ∧ ith l i ≤ d
  all : ∀ r, r < n → (sm ss.length fun i => inB (ith ss i) r * ith l i) = d
theorem BalTo.done {n : Nat} {ss : List Int} {tot : Nat → Int} {D : Nat} (h : BalTo n ss ss.length tot D) (h0 : 0 < ss.length) (hs : ss.length ≤ 128) {xs : List Int} (hl : xs.length = ss.length) (hx : ∀ i, i < ss.length → ith xs i = tot i) :
    Weighs n ss (xs.map (· / (gcdL ((D : Int) * ss.length) xs : Int))) ((D : Int) * ss.length / gcdL ((D : Int) * ss.length) xs) := by
  have hD := h.pos
  have hs2 := h.small
  have hp : 0 < (D : Int) * ss.length := Int.mul_pos (by omega) (by omega)
  have hle : (D : Int) * ss.length ≤ 144403552893600 * 128 := Int.mul_le_mul (by omega) (by omega) (by omega) (by omega)
  obtain ⟨g, hg, g1, g2⟩ := low_times (p := (xs, (D : Int) * ss.length)) hp
  have hlow := gcdL_map_div ((D : Int) * ss.length) xs hp
  have e1 : (lowP (xs, (D : Int) * ss.length)).1 = xs.map (· / (gcdL ((D : Int) * ss.length) xs : Int)) := rfl
  have e2 : (lowP (xs, (D : Int) * ss.length)).2 = (D : Int) * ss.length / gcdL ((D : Int) * ss.length) xs := rfl
  rw [← e1, ← e2] at hlow ⊢
  generalize lowP (xs, (D : Int) * ss.length) = p at *
  have hlen : p.1.length = ss.length := by rw [e1]; simp [hl]
  simp only [] at g1 g2
  have hpd : 0 < p.2 := by
    rcases Int.lt_or_le 0 p.2 with h1 | h1
    · exact h1
    · have := Int.mul_le_mul_of_nonneg_left h1 (show 0 ≤ g by omega)
      omega
  refine ⟨h0, hlen, ⟨hpd, ?_⟩, hlow, fun i hi => ?_, fun r hr => ?_⟩
  · have := Int.mul_le_mul_of_nonneg_right (show 1 ≤ g by omega) (show 0 ≤ p.2 by omega)
    omega
  · have a1 := g2 i (by omega)
    rw [hx i hi] at a1
    have a2 := h.has i hi
    have a3 := (h.low i hi).2
    rw [a1] at a2
    rw [a1, g1] at a3
    exact ⟨by
      rcases Int.lt_or_le 0 (ith p.1 i) with h1 | h1
      · exact h1
      · have := Int.mul_le_mul_of_nonneg_left h1 (show 0 ≤ g by omega)
        omega, Int.le_of_mul_le_mul_left a3 hg⟩
  · refine Int.eq_of_mul_eq_mul_left (show g ≠ 0 by omega) ?_
    rw [← g1, ← h.all r hr, ← sm_mul]
    refine sm_congr _ (fun i hi => ?_)
    have a1 := g2 i (by omega)
    rw [hx i hi] at a1
    rw [a1]; grind
/-- Sets are balanced. -/
def Bal (n : Nat) (ss : List Int) : Prop := 0 < ss.length ∧ ∀ k, k < ss.length → ∃ w D, IsW n ss w D ∧ 0 < w k
/-- Sets that may be asked. -/
structure GoodS (n : Int) (ss : List Int) : Prop where
  n1 : 1 ≤ n ∧ n ≤ 7
  len : ss.length ≤ 128
  sets : ∀ x ∈ ss, 1 ≤ x ∧ x < 2 ^ n.toNat
end Go.Proofs.Ytcngecibljgndaa

/- The library's SortFunc at numbers: this program bears it. -/
namespace Go.Proofs.Ytcngecibljgndaa
open Go.Shelf
def sortFRen : Ren := ⟨fun | 6 => 82 | 15 => 119 | 14 => 118 | 28 => 136 | 29 => 137 | 20 => 128 | 21 => 129 | 22 => 130 | 23 => 131 | 24 => 132 | 25 => 133 | 26 => 134 | 27 => 135 | 46 => 147 | 47 => 148 | 48 => 149 | 49 => 150 | 50 => 151 | 57 => 156 | n => n, fun | 22 => 22 | 24 => 3 | 25 => 86 | 3 => 3 | 39 => 119 | 0 => 0 | 53 => 133 | 55 => 135 | 4 => 4 | 46 => 127 | 45 => 126 | 50 => 91 | 5 => 5 | 9 => 9 | 66 => 142 | 70 => 146 | 76 => 150 | 77 => 151 | n => n, fun n => n⟩
theorem sortF : SlLaysF.n6 Try.prog sortFRen where
  mixed := by kernel_rfl
  f6 := ⟨Try.f82.name, by kernel_rfl, Try.func82.trans (congrArg some (by kernel_rfl))⟩
  f14 := ⟨Try.f118.name, by kernel_rfl, Try.func118.trans (congrArg some (by kernel_rfl))⟩
  f15 := Try.func119.trans (congrArg some (by kernel_rfl))
  f20 := ⟨Try.f128.name, by kernel_rfl, Try.func128.trans (congrArg some (by kernel_rfl))⟩
  f21 := ⟨Try.f129.name, by kernel_rfl, Try.func129.trans (congrArg some (by kernel_rfl))⟩
  f22 := ⟨Try.f130.name, by kernel_rfl, Try.func130.trans (congrArg some (by kernel_rfl))⟩
  f23 := ⟨Try.f131.name, by kernel_rfl, Try.func131.trans (congrArg some (by kernel_rfl))⟩
  f24 := ⟨Try.f132.name, by kernel_rfl, Try.func132.trans (congrArg some (by kernel_rfl))⟩
  f25 := ⟨Try.f133.name, by kernel_rfl, Try.func133.trans (congrArg some (by kernel_rfl))⟩
  f26 := ⟨Try.f134.name, by kernel_rfl, Try.func134.trans (congrArg some (by kernel_rfl))⟩
  f27 := ⟨Try.f135.name, by kernel_rfl, Try.func135.trans (congrArg some (by kernel_rfl))⟩
  f28 := Try.func136.trans (congrArg some (by kernel_rfl))
  f29 := Try.func137.trans (congrArg some (by kernel_rfl))
  f46 := ⟨Try.f147.name, by kernel_rfl, Try.func147.trans (congrArg some (by kernel_rfl))⟩
  f47 := Try.func148.trans (congrArg some (by kernel_rfl))
  f48 := Try.func149.trans (congrArg some (by kernel_rfl))
  f49 := ⟨Try.f150.name, by kernel_rfl, Try.func150.trans (congrArg some (by kernel_rfl))⟩
  f50 := ⟨Try.f151.name, by kernel_rfl, Try.func151.trans (congrArg some (by kernel_rfl))⟩
  f57 := ⟨Try.f156.name, by kernel_rfl, Try.func156.trans (congrArg some (by kernel_rfl))⟩
  t0 := Try.underlying0
  a0 := Try.isAgg0
  z0 := Try.sizeOf0
  v0 := Try.zeroValue0
  t3 := Try.underlying3
  a3 := Try.isAgg3
  z3 := Try.sizeOf3
  v3 := Try.zeroValue3
  t4 := Try.underlying4
  a4 := Try.isAgg4
  z4 := Try.sizeOf4
  v4 := Try.zeroValue4
  t5 := Try.underlying5
  a5 := Try.isAgg5
  z5 := Try.sizeOf5
  v5 := Try.zeroValue5
  t9 := Try.underlying9
  a9 := Try.isAgg9
  z9 := Try.sizeOf9
  v9 := Try.zeroValue9
  t22 := Try.underlying22
  a22 := Try.isAgg22
  z22 := Try.sizeOf22
  v22 := Try.zeroValue22
  a24 := Try.isAgg3
  z24 := Try.sizeOf3
  t25 := Try.underlying86
  a25 := Try.isAgg86
  z25 := Try.sizeOf86
  v25 := Try.zeroValue86
  t39 := Try.underlying119
  a39 := Try.isAgg119
  z39 := Try.sizeOf119
  v39 := Try.zeroValue119
  t45 := Try.underlying126
  a45 := Try.isAgg126
  z45 := Try.sizeOf126
  v45 := Try.zeroValue126
  t46 := Try.underlying127
  a46 := Try.isAgg127
  z46 := Try.sizeOf127
  v46 := Try.zeroValue127
  t50 := Try.underlying91
  a50 := Try.isAgg91
  z50 := Try.sizeOf91
  v50 := Try.zeroValue91
  t53 := Try.underlying133
  a53 := Try.isAgg133
  z53 := Try.sizeOf133
  v53 := Try.zeroValue133
  t55 := Try.underlying135
  a55 := Try.isAgg135
  z55 := Try.sizeOf135
  v55 := Try.zeroValue135
  t66 := Try.underlying142
  a66 := Try.isAgg142
  z66 := Try.sizeOf142
  v66 := Try.zeroValue142
  t70 := Try.underlying146
  a70 := Try.isAgg146
  z70 := Try.sizeOf146
  v70 := Try.zeroValue146
  t76 := Try.underlying150
  a76 := Try.isAgg150
  z76 := Try.sizeOf150
  v76 := Try.zeroValue150
  t77 := Try.underlying151
  a77 := Try.isAgg151
  z77 := Try.sizeOf151
  v77 := Try.zeroValue151
def sortF0Ren : Ren := ⟨fun | 6 => 82 | 15 => 119 | 14 => 118 | 28 => 136 | 29 => 137 | 20 => 128 | 21 => 129 | 22 => 130 | 23 => 131 | 24 => 132 | 25 => 133 | 26 => 134 | 27 => 135 | 46 => 147 | 47 => 148 | 48 => 149 | 49 => 150 | 50 => 151 | 57 => 156 | n => n, fun | 22 => 22 | 24 => 3 | 25 => 86 | 3 => 3 | 39 => 119 | 0 => 0 | 53 => 133 | 55 => 135 | 4 => 4 | 46 => 127 | 45 => 126 | 50 => 91 | 5 => 5 | 9 => 9 | 66 => 142 | 70 => 146 | 76 => 150 | 77 => 151 | n => n, fun n => n⟩
theorem sortF0 : SlLaysF0.n6 Try.prog sortF0Ren where
  mixed := by kernel_rfl
  f6 := ⟨Try.f82.name, by kernel_rfl, Try.func82.trans (congrArg some (by kernel_rfl))⟩
  f14 := ⟨Try.f118.name, by kernel_rfl, Try.func118.trans (congrArg some (by kernel_rfl))⟩
  f15 := Try.func119.trans (congrArg some (by kernel_rfl))
  f20 := ⟨Try.f128.name, by kernel_rfl, Try.func128.trans (congrArg some (by kernel_rfl))⟩
  f21 := ⟨Try.f129.name, by kernel_rfl, Try.func129.trans (congrArg some (by kernel_rfl))⟩
  f22 := ⟨Try.f130.name, by kernel_rfl, Try.func130.trans (congrArg some (by kernel_rfl))⟩
  f23 := ⟨Try.f131.name, by kernel_rfl, Try.func131.trans (congrArg some (by kernel_rfl))⟩
  f24 := ⟨Try.f132.name, by kernel_rfl, Try.func132.trans (congrArg some (by kernel_rfl))⟩
  f25 := ⟨Try.f133.name, by kernel_rfl, Try.func133.trans (congrArg some (by kernel_rfl))⟩
  f26 := ⟨Try.f134.name, by kernel_rfl, Try.func134.trans (congrArg some (by kernel_rfl))⟩
  f27 := ⟨Try.f135.name, by kernel_rfl, Try.func135.trans (congrArg some (by kernel_rfl))⟩
  f28 := Try.func136.trans (congrArg some (by kernel_rfl))
  f29 := Try.func137.trans (congrArg some (by kernel_rfl))
  f46 := ⟨Try.f147.name, by kernel_rfl, Try.func147.trans (congrArg some (by kernel_rfl))⟩
  f47 := Try.func148.trans (congrArg some (by kernel_rfl))
  f48 := Try.func149.trans (congrArg some (by kernel_rfl))
  f49 := ⟨Try.f150.name, by kernel_rfl, Try.func150.trans (congrArg some (by kernel_rfl))⟩
  f50 := ⟨Try.f151.name, by kernel_rfl, Try.func151.trans (congrArg some (by kernel_rfl))⟩
  f57 := ⟨Try.f156.name, by kernel_rfl, Try.func156.trans (congrArg some (by kernel_rfl))⟩
  t0 := Try.underlying0
  a0 := Try.isAgg0
  z0 := Try.sizeOf0
  v0 := Try.zeroValue0
  t3 := Try.underlying3
  a3 := Try.isAgg3
  z3 := Try.sizeOf3
  v3 := Try.zeroValue3
  t4 := Try.underlying4
  a4 := Try.isAgg4
  z4 := Try.sizeOf4
  v4 := Try.zeroValue4
  t5 := Try.underlying5
  a5 := Try.isAgg5
  z5 := Try.sizeOf5
  v5 := Try.zeroValue5
  t9 := Try.underlying9
  a9 := Try.isAgg9
  z9 := Try.sizeOf9
  v9 := Try.zeroValue9
  t22 := Try.underlying22
  a22 := Try.isAgg22
  z22 := Try.sizeOf22
  v22 := Try.zeroValue22
  t25 := Try.underlying86
  a25 := Try.isAgg86
  z25 := Try.sizeOf86
  v25 := Try.zeroValue86
  t39 := Try.underlying119
  a39 := Try.isAgg119
  z39 := Try.sizeOf119
  v39 := Try.zeroValue119
  t45 := Try.underlying126
  a45 := Try.isAgg126
  z45 := Try.sizeOf126
  v45 := Try.zeroValue126
  t46 := Try.underlying127
  a46 := Try.isAgg127
  z46 := Try.sizeOf127
  v46 := Try.zeroValue127
  t50 := Try.underlying91
  a50 := Try.isAgg91
  z50 := Try.sizeOf91
  v50 := Try.zeroValue91
  t53 := Try.underlying133
  a53 := Try.isAgg133
  z53 := Try.sizeOf133
  v53 := Try.zeroValue133
  t55 := Try.underlying135
  a55 := Try.isAgg135
  z55 := Try.sizeOf135
  v55 := Try.zeroValue135
  t66 := Try.underlying142
  a66 := Try.isAgg142
  z66 := Try.sizeOf142
  v66 := Try.zeroValue142
  t70 := Try.underlying146
  a70 := Try.isAgg146
  z70 := Try.sizeOf146
  v70 := Try.zeroValue146
  t76 := Try.underlying150
  a76 := Try.isAgg150
  z76 := Try.sizeOf150
  v76 := Try.zeroValue150
  t77 := Try.underlying151
  a77 := Try.isAgg151
  z77 := Try.sizeOf151
  v77 := Try.zeroValue151
end Go.Proofs.Ytcngecibljgndaa
