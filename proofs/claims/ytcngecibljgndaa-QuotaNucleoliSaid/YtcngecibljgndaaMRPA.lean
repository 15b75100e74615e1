/- The specification's equal division, step by step; plain. -/
import Derived.Test.YtcngecibljgndaaMQW
import Derived.Test.YtcngecibljgndaaMRC
import Derived.Test.YtcngecibljgndaaMLF
namespace Go.Proofs.Ytcngecibljgndaa
open Go.RowKit Go.Shelf

theorem divInt_lt {a x b y : Int} (hx : 0 < x) (hy : 0 < y) : Rat.divInt a x < Rat.divInt b y ↔ a * y < b * x := by
  constructor
  · intro h
    refine Classical.byContradiction fun hn => ?_
    have := divInt_le hy hx (show b * x ≤ a * y by omega)
    exact Rat.not_lt.2 this h
  · intro h
    rw [← Rat.not_le]
    intro hle
    have h1 := divInt_le hx hy (show a * y ≤ b * x by omega)
    have h2 := (Rat.divInt_eq_divInt_iff (by omega) (by omega)).1 (Rat.le_antisymm h1 hle)
    omega
theorem divInt_eq {a b c d : Int} (hb : b ≠ 0) (hd : d ≠ 0) (h : a * d = c * b) : Rat.divInt a b = Rat.divInt c d := (Rat.divInt_eq_divInt_iff hb hd).2 h
theorem divInt_over1 {a b k : Int} (hb : b ≠ 0) (hk : k ≠ 0) : Rat.divInt a b / Rat.divInt k 1 = Rat.divInt a (b * k) := by
  rw [Rat.div_def, Rat.inv_divInt, Rat.divInt_mul_divInt]
  exact divInt_eq (by simp [hb, hk]) (Int.mul_ne_zero hb hk) (by simp)
/-- An equal division, half done: nobody is held back yet. -/
structure EqA (C : Nat → Int) (n : Nat) (F : Int) (done : List Bool) (many : Nat) (out : Nat → Rat) (e : Rat) (f : Int) : Prop where
  val : e = Rat.divInt f 2
  low : 0 ≤ f
  sum : f + (sm n fun i => if bth done i = true then C i else 0) = F
  got : ∀ i, i < n → bth done i = true → out i = Rat.divInt (C i) 2
  fit : ∀ i, i < n → bth done i = true → C i * many ≤ f
/-- An equal division, half done: the same for all that are left. -/
structure EqB (C : Nat → Int) (n : Nat) (F : Int) (done : List Bool) (many : Nat) (out : Nat → Rat) (e : Rat) (f : Int) (m : Nat) : Prop where
  m1 : 1 ≤ m ∧ m ≤ 7
  val : e = Rat.divInt (f * many) (2 * m)
  low : 0 ≤ f ∧ f ≤ F
  got : ∀ i, i < n → bth done i = true → out i = Rat.divInt (min (C i * m) f) (2 * m)
  held : ∀ i, i < n → bth done i = false → f ≤ C i * m
  sum : f * many + (sm n fun i => if bth done i = true then min (C i * m) f else 0) = F * m
structure EqSt (C : Nat → Int) (n : Nat) (F : Int) (done : List Bool) (many : Nat) (out : Nat → Rat) (e : Rat) : Prop where
  len : done.length = n
  cnt : wait done n = many
  ord : ∀ i j, i < n → j < n → bth done i = true → bth done j = false → C i ≤ C j
  case_ : (∃ f, EqA C n F done many out e f) ∨ ∃ f m, EqB C n F done many out e f m
theorem sm_done {n : Nat} {done : List Bool} (g : Nat → Int) {a : Nat} (ha : a < n) (hl : done.length = n) (hd : bth done a = false) :
    (sm n fun i => if bth (done.set a true) i = true then g i else 0) = (sm n fun i => if bth done i = true then g i else 0) + g a := by
  have h1 := sm_split (fun i => if bth (done.set a true) i = true then g i else 0) a n ha
  have h2 := sm_split (fun i => if bth done i = true then g i else 0) a n ha
  have h3 : (sm n fun m => if m = a then 0 else if bth (done.set a true) m = true then g m else 0) = sm n fun m => if m = a then 0 else if bth done m = true then g m else 0 := sm_congr n (fun i hi => by
    by_cases e : i = a
    · rw [if_pos e, if_pos e]
    · rw [if_neg e, if_neg e, bth_set _ _ _ _ (by omega), if_neg e])
  have h4 : bth (done.set a true) a = true := by rw [bth_set _ _ _ _ (by omega), if_pos rfl]
  rw [h3] at h1
  simp only [h4, hd, if_true, if_false, Bool.false_eq_true] at h1 h2
  omega
theorem EqSt.start {C : Nat → Int} {n : Nat} {F : Int} (hF : 0 ≤ F) : EqSt C n F (List.replicate n false) n (fun _ => 0) (Rat.divInt F 2) := by
  have h0 : ∀ i, bth (List.replicate n false) i = false := fun i => by
    unfold bth
    by_cases h : i < n <;> simp [h]
  refine ⟨by simp, ?_, fun i j _ _ h => (by rw [h0] at h; simp at h), .inl ⟨F, rfl, hF, ?_, fun i _ h => (by rw [h0] at h; simp at h), fun i _ h => (by rw [h0] at h; simp at h)⟩⟩
  · unfold wait
    rw [List.filter_eq_self.2 (fun i _ => by rw [h0]; rfl)]; simp
  · rw [sm_all0 n (fun i _ => by rw [h0]; rfl)]; omega
/-- What the next one gets. -/
def eqX (C : Nat → Int) (e : Rat) (many : Nat) (a : Nat) : Rat := if Rat.divInt (C a) 2 < e / Rat.divInt many 1 then Rat.divInt (C a) 2 else e / Rat.divInt many 1
theorem EqSt.step {C : Nat → Int} {n : Nat} {F : Int} {done : List Bool} {many : Nat} {out : Nat → Rat} {e : Rat} (h : EqSt C n F done (many + 1) out e) (hm : many + 1 ≤ 7) (h0 : ∀ i, i < n → 0 ≤ C i) {a : Nat} (ha : a < n) (hd : bth done a = false) (hleast : ∀ j, j < n → bth done j = false → C a ≤ C j) :
    EqSt C n F (done.set a true) many (fun i => if i = a then eqX C e (many + 1) a else out i) (e - eqX C e (many + 1) a) := by
  have hset : ∀ i, bth (done.set a true) i = if i = a then true else bth done i := fun i => bth_set _ _ _ _ (by have := h.len; omega)
  have hsd := fun g : Nat → Int => sm_done g ha h.len hd
  have hord : ∀ i j, i < n → j < n → bth (done.set a true) i = true → bth (done.set a true) j = false → C i ≤ C j := fun i j hi hj h1 h2 => by
    rw [hset] at h1 h2
    by_cases e2 : j = a
    · rw [if_pos e2] at h2; simp at h2
    · rw [if_neg e2] at h2
      by_cases e1 : i = a
      · rw [e1]; exact hleast j hj h2
      · rw [if_neg e1] at h1; exact h.ord i j hi hj h1 h2
  have hcnt : wait (done.set a true) n = many := by
    have := wait_set done a (by have := h.len; omega) hd n
    rw [if_pos ha, h.cnt] at this
    omega
  have hmz : ((many + 1 : Nat) : Int) ≠ 0 := by omega
  refine ⟨by simp [h.len], hcnt, hord, ?_⟩
  rcases h.case_ with ⟨f, hA⟩ | ⟨f, m, hB⟩
  · have hpart : e / Rat.divInt ((many + 1 : Nat) : Int) 1 = Rat.divInt f (2 * ((many + 1 : Nat) : Int)) := by rw [hA.val, divInt_over1 (by omega) hmz]
    have hlt : (Rat.divInt (C a) 2 < e / Rat.divInt ((many + 1 : Nat) : Int) 1) ↔ C a * ((many + 1 : Nat) : Int) < f := by
      rw [hpart, divInt_lt (by omega) (by omega)]
      have : C a * (2 * ((many + 1 : Nat) : Int)) = 2 * (C a * ((many + 1 : Nat) : Int)) := by grind
      omega
    by_cases hc : C a * ((many + 1 : Nat) : Int) < f
    · have hx : eqX C e (many + 1) a = Rat.divInt (C a) 2 := by unfold eqX; rw [if_pos (hlt.2 hc)]
      rw [hx]
      have hca : C a * ((many : Nat) : Int) ≤ f - C a := by
        have : C a * ((many + 1 : Nat) : Int) = C a * (many : Int) + C a := by simp; grind
        omega
      refine .inl ⟨f - C a, by rw [hA.val]; exact divInt_sub_same (by omega), ?_, by rw [hsd C]; have := hA.sum; omega, fun i hi hdi => ?_, fun i hi hdi => ?_⟩
      · have := Int.mul_nonneg (h0 a ha) (show (0 : Int) ≤ many by omega); omega
      · rw [hset] at hdi
        by_cases e1 : i = a
        · rw [if_pos e1, e1]
        · rw [if_neg e1] at hdi ⊢; exact hA.got i hi hdi
      · rw [hset] at hdi
        by_cases e1 : i = a
        · rw [e1]; exact hca
        · rw [if_neg e1] at hdi
          have h1 := h.ord i a hi ha hdi hd
          have := Int.mul_le_mul_of_nonneg_right h1 (show (0 : Int) ≤ many by omega)
          omega
    · have hx : eqX C e (many + 1) a = Rat.divInt f (2 * ((many + 1 : Nat) : Int)) := by unfold eqX; rw [if_neg (fun h => hc (hlt.1 h)), hpart]
      rw [hx]
      have hfF : f ≤ F := by
        have h1 := hA.sum
        have h2 : 0 ≤ sm n fun i => if bth done i = true then C i else 0 := sm_ge0 n (fun i hi => by
          split
          · exact h0 i hi
          · exact Int.le_refl _)
        omega
      refine .inr ⟨f, many + 1, ⟨by omega, hm⟩, ?_, ⟨hA.low, hfF⟩, fun i hi hdi => ?_, fun i hi hdi => ?_, ?_⟩
      · rw [hA.val, Rat.divInt_sub_divInt _ _ (by omega) (by omega)]
        refine divInt_eq (by omega) (by omega) ?_
        have : ((many + 1 : Nat) : Int) = many + 1 := by omega
        rw [this]; grind
      · rw [hset] at hdi
        by_cases e1 : i = a
        · rw [if_pos e1, e1, Int.min_eq_right (by omega)]
        · rw [if_neg e1] at hdi ⊢
          rw [hA.got i hi hdi, Int.min_eq_left (hA.fit i hi hdi)]
          exact divInt_eq (by omega) (by omega) (by grind)
      · rw [hset] at hdi
        by_cases e1 : i = a
        · rw [if_pos e1] at hdi; simp at hdi
        · rw [if_neg e1] at hdi
          have := Int.mul_le_mul_of_nonneg_right (hleast i hi hdi) (show (0 : Int) ≤ ((many + 1 : Nat) : Int) by omega)
          omega
      · rw [hsd, Int.min_eq_right (by omega)]
        have e2 : (sm n fun i => if bth done i = true then min (C i * ((many + 1 : Nat) : Int)) f else 0) = ((many + 1 : Nat) : Int) * sm n fun i => if bth done i = true then C i else 0 := by
          rw [← sm_mul]
          refine sm_congr n (fun i hi => ?_)
          by_cases hdi : bth done i = true
          · rw [if_pos hdi, if_pos hdi, Int.min_eq_left (hA.fit i hi hdi)]; exact Int.mul_comm _ _
          · rw [if_neg hdi, if_neg hdi]; simp
        rw [e2]
        have h1 := hA.sum
        have : ((many + 1 : Nat) : Int) = many + 1 := by omega
        rw [this, ← h1]; grind
  · have hmz2 : (2 * (m : Int)) ≠ 0 := by have := hB.m1; omega
    have hpart : e / Rat.divInt ((many + 1 : Nat) : Int) 1 = Rat.divInt f (2 * (m : Int)) := by
      rw [hB.val, divInt_over1 hmz2 hmz]
      exact divInt_eq (Int.mul_ne_zero hmz2 hmz) hmz2 (by grind)
    have hge := hB.held a ha hd
    have hx : eqX C e (many + 1) a = Rat.divInt f (2 * (m : Int)) := by
      unfold eqX
      rw [hpart, if_neg]
      rw [divInt_lt (by omega) (by have := hB.m1; omega)]
      have : C a * (2 * (m : Int)) = 2 * (C a * m) := by grind
      omega
    rw [hx]
    refine .inr ⟨f, m, hB.m1, ?_, hB.low, fun i hi hdi => ?_, fun i hi hdi => ?_, ?_⟩
    · rw [hB.val, divInt_sub_same hmz2]
      refine divInt_eq hmz2 hmz2 ?_
      have : ((many + 1 : Nat) : Int) = many + 1 := by omega
      rw [this]; grind
    · rw [hset] at hdi
      by_cases e1 : i = a
      · rw [if_pos e1, e1, Int.min_eq_right hge]
      · rw [if_neg e1] at hdi ⊢; exact hB.got i hi hdi
    · rw [hset] at hdi
      by_cases e1 : i = a
      · rw [if_pos e1] at hdi; simp at hdi
      · rw [if_neg e1] at hdi; exact hB.held i hi hdi
    · rw [hsd, Int.min_eq_right hge]
      have := hB.sum
      have e3 : ((many + 1 : Nat) : Int) = many + 1 := by omega
      rw [e3] at this
      have e4 : f * ((many : Int) + 1) = f * many + f := by grind
      omega
/-- How large the numbers of a step can be. -/
theorem EqSt.fine {C : Nat → Int} {n : Nat} {F : Int} {done : List Bool} {many : Nat} {out : Nat → Rat} {e : Rat} (h : EqSt C n F done many out e) (hm : many ≤ 7) (hF : 0 ≤ F ∧ F ≤ 10000000) (hC : ∀ i, i < n → 0 ≤ C i ∧ C i ≤ 10000000) : Fine e ∧ (1 ≤ many → Fine (e / Rat.divInt many 1)) := by
  rcases h.case_ with ⟨f, hA⟩ | ⟨f, m, hB⟩
  · have hfF : f ≤ F := by
      have h1 := hA.sum
      have h2 : 0 ≤ sm n fun i => if bth done i = true then C i else 0 := sm_ge0 n (fun i hi => by
        split
        · exact (hC i hi).1
        · exact Int.le_refl _)
      omega
    have := hA.low
    refine ⟨by rw [hA.val]; exact fine_small (by omega) (by omega) (by omega), fun h1 => ?_⟩
    rw [hA.val, divInt_over1 (by omega) (by omega)]
    exact fine_small (by omega) (by omega) (by omega)
  · have h1 := hB.low
    have h2 := hB.m1
    have h3 : 0 ≤ f * many := Int.mul_nonneg h1.1 (by omega)
    have h4 : f * many ≤ 10000000 * 7 := Int.mul_le_mul (by omega) (by omega) (by omega) (by omega)
    refine ⟨by rw [hB.val]; exact fine_small (by omega) (by omega) (by omega), fun h5 => ?_⟩
    rw [hB.val, divInt_over1 (by omega) (by omega)]
    have h6 : 0 < 2 * (m : Int) * many := Int.mul_pos (by omega) (by omega)
    have h7 : 2 * (m : Int) * many ≤ 14 * 7 := Int.mul_le_mul (by omega) (by omega) (by omega) (by omega)
    exact fine_small (by omega) (by omega) (by omega)
/-- What an equal division is. -/
structure EqIs (C : Nat → Int) (n : Nat) (F : Int) (out : Nat → Rat) (f : Int) (m : Nat) : Prop where
  m1 : 1 ≤ m ∧ m ≤ 7
  low : 0 ≤ f ∧ f ≤ F
  got : ∀ i, i < n → out i = Rat.divInt (min (C i * m) f) (2 * m)
  sum : (sm n fun i => min (C i * m) f) = F * m
theorem wait_zero {done : List Bool} {n : Nat} (h : wait done n = 0) : ∀ i, i < n → bth done i = true := fun i hi => by
  unfold wait at h
  have := List.filter_eq_nil_iff.1 (List.length_eq_zero_iff.1 h) i (List.mem_range.2 hi)
  simpa using this
theorem wait_some {done : List Bool} {n : Nat} (h : 1 ≤ wait done n) : ∃ i, i < n ∧ bth done i = false := by
  unfold wait at h
  obtain ⟨i, hi⟩ := List.exists_mem_of_length_pos (show 0 < ((List.range n).filter fun i => !bth done i).length by omega)
  rw [List.mem_filter, List.mem_range] at hi
  exact ⟨i, hi.1, by simpa using hi.2⟩
theorem EqSt.done {C : Nat → Int} {n : Nat} {F : Int} {done : List Bool} {out : Nat → Rat} {e : Rat} (h : EqSt C n F done 0 out e) (h0 : ∀ i, i < n → 0 ≤ C i) (hS : F ≤ sm n C) : ∃ f m, EqIs C n F out f m := by
  have hall := wait_zero h.cnt
  rcases h.case_ with ⟨f, hA⟩ | ⟨f, m, hB⟩
  · have e1 : (sm n fun i => if bth done i = true then C i else 0) = sm n C := sm_congr n (fun i hi => by rw [if_pos (hall i hi)])
    have h1 := hA.sum
    have h2 := hA.low
    rw [e1] at h1
    have hle : ∀ i, i < n → C i ≤ F := fun i hi => by
      have h3 := sm_split C i n hi
      have h4 : 0 ≤ sm n fun m => if m = i then 0 else C m := sm_ge0 n (fun k hk => by
        split
        · exact Int.le_refl _
        · exact h0 k hk)
      omega
    have hFn : 0 ≤ sm n C := sm_ge0 n h0
    refine ⟨F, 1, by omega, by omega, fun i hi => ?_, ?_⟩
    · rw [hA.got i hi (hall i hi), Int.min_eq_left (by have := hle i hi; omega)]
      exact divInt_eq (by omega) (by omega) (by omega)
    · rw [sm_congr n (g := C) (fun i hi => by rw [Int.min_eq_left (by have := hle i hi; omega)]; omega)]
      omega
  · refine ⟨f, m, hB.m1, hB.low, fun i hi => hB.got i hi (hall i hi), ?_⟩
    have h1 := hB.sum
    rw [sm_congr n (g := fun i => min (C i * m) f) (fun i hi => by rw [if_pos (hall i hi)])] at h1
    simpa using h1
theorem sm_le_eq {g h : Nat → Int} {n : Nat} (hle : ∀ i, i < n → g i ≤ h i) (hs : sm n g = sm n h) : ∀ i, i < n → g i = h i := fun i hi => by
  have := sm_eq0 (f := fun i => h i - g i) n (fun i hi => by have := hle i hi; omega) (by rw [sm_sub]; omega) i hi
  omega
/-- Only one equal division divides the estate. -/
theorem eq_only {C : Nat → Int} {n : Nat} {F f g : Int} {m k : Nat} (hk : 1 ≤ k) (hm : 1 ≤ m) (h1 : (sm n fun i => min (C i * m) f) = F * m) (h2 : (sm n fun i => min (C i * k) g) = F * k) :
    ∀ i, i < n → min (C i * m) f * k = min (C i * k) g * m := by
  have e1 : ∀ i, min (C i * m) f * k = min (C i * m * k) (f * k) := fun i => by
    rcases Int.le_total (C i * m) f with h | h
    · rw [Int.min_eq_left h, Int.min_eq_left (Int.mul_le_mul_of_nonneg_right h (by omega))]
    · rw [Int.min_eq_right h, Int.min_eq_right (Int.mul_le_mul_of_nonneg_right h (by omega))]
  have e2 : ∀ i, min (C i * k) g * m = min (C i * m * k) (g * m) := fun i => by
    rw [show C i * m * k = C i * k * m by grind]
    rcases Int.le_total (C i * k) g with h | h
    · rw [Int.min_eq_left h, Int.min_eq_left (Int.mul_le_mul_of_nonneg_right h (by omega))]
    · rw [Int.min_eq_right h, Int.min_eq_right (Int.mul_le_mul_of_nonneg_right h (by omega))]
  have s1 : (sm n fun i => min (C i * m) f * k) = F * m * k := by
    rw [sm_congr n (g := fun i => (k : Int) * min (C i * m) f) (fun i _ => Int.mul_comm _ _), sm_mul, h1]; grind
  have s2 : (sm n fun i => min (C i * k) g * m) = F * m * k := by
    rw [sm_congr n (g := fun i => (m : Int) * min (C i * k) g) (fun i _ => Int.mul_comm _ _), sm_mul, h2]; grind
  rcases Int.le_total (f * k) (g * m) with h | h
  · exact sm_le_eq (fun i _ => by rw [e1, e2]; omega) (s1.trans s2.symm)
  · exact fun i hi => (sm_le_eq (g := fun i => min (C i * k) g * m) (h := fun i => min (C i * m) f * k) (fun i _ => by rw [e1, e2]; omega) (s2.trans s1.symm) i hi).symm
end Go.Proofs.Ytcngecibljgndaa
