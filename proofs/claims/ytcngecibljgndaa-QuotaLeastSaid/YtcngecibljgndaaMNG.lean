/- Nucleolus of one claimant: there are no levels. -/
import Derived.Test.YtcngecibljgndaaMNB
import Derived.Test.YtcngecibljgndaaMQPA
namespace Go.Proofs.Ytcngecibljgndaa
open Go.RowKit Go.Shelf

set_option maxRecDepth 100000 in
theorem compact0_calls (w : World) (ao : Option Addr) (cap : Nat) : Calls Try.prog 62 #[.slice ao (0 : Nat) cap] w (fun e w' => e = .returned (.slice ao (0 : Nat) cap) ∧ Ext w w') := by
  go_enter Try.func62, Try.ntmps62
  go_wp2_with fail
  go_ret
  exact ⟨rfl, Ext.refl _⟩
set_option maxRecDepth 100000 in
theorem reverse0_calls (w : World) (ao : Option Addr) (cap : Nat) : Calls Try.prog 65 #[.slice ao (0 : Nat) cap] w (fun e w' => e = .returned (.tuple #[]) ∧ Ext w w') := by
  go_enter Try.func65, Try.ntmps65
  go_wp2_with fail
  go_loopw [2, 3] (fun i j wr => i = .int .i64 0 ∧ j = .int .i64 (-1) ∧ Ext w wr) (fun _ _ _ => 0)
  case atStart => exact ⟨rfl, rfl, Ext.refl _⟩
  case round =>
    obtain ⟨rfl, rfl, hx⟩ := hrel
    go_wp2_with fail
    exact bodyPost_end (v := .tuple #[]) (by simp [results, Try.results65, go_sem]) rfl ⟨rfl, hx⟩
set_option maxRecDepth 100000 in
set_option maxHeartbeats 4000000 in
theorem nucleolus1_calls (w : World) (E : Int) (ao lo : Option Addr) (cap lcap : Nat) (xs l : List Int) (d : Int) (hI : IntsIn w ao xs) (hJ : IntsIn w lo l) (hP : IsProb E xs) (h2 : xs.length = 1) (hS : IsSh E xs l d) :
    Calls Try.prog 25 #[.int .i64 E, .slice ao xs.length cap, .agg #[.slice lo l.length lcap, .int .i64 d]] w (NucR w true) := by
  have HP := Lib.hid hP
  have HS := Lib.hid hS
  have hprob := (probB_true E xs).2 hP
  have his := isB_yes hS
  have hE := hP.estate
  have hl7 := hP.seven
  have hl1 := hP.one
  have hll : l.length ≤ 7 := by rw [hS.len]; exact hl7
  have hxl : (excP E xs l d).length ≤ 126 := by
    have : 2 ^ xs.length ≤ 2 ^ 7 := Nat.pow_le_pow_right (by omega) hl7
    simp only [excP, List.length_map, List.length_range]; omega
  have hel : (excP E xs l d).length = 0 := by rw [show (excP E xs l d).length = 2 ^ xs.length - 2 by simp [excP], h2]
  have HEL := Lib.hid hel
  clear hP hS hel h2
  go_enter Try.func25, Try.ntmps25
  go_wp2_with fail
  obtain ⟨bx, hbx⟩ : ∃ bx, bx = w.heap.size := ⟨_, rfl⟩
  have hx1 : Ext w (w.alloc (Obj.cells #[.slice lo l.length lcap, .int .i64 d] 26)) := (by repeat (first | exact Ext.refl _ | assumption | refine Ext.alloc ?_ _ | refine Ext.drewN ?_ _ | refine Ext.drew ?_))
  have hc0 : (w.alloc (Obj.cells #[.slice lo l.length lcap, .int .i64 d] 26)).cell? ⟨bx, 0, none⟩ = some (.slice lo l.length lcap) := by subst hbx; simp [go_sem]
  have hc1 : (w.alloc (Obj.cells #[.slice lo l.length lcap, .int .i64 d] 26)).cell? ⟨bx, 1, none⟩ = some (.int .i64 d) := by subst hbx; simp [go_sem]
  have hbl : bx < (w.alloc (Obj.cells #[.slice lo l.length lcap, .int .i64 d] 26)).heap.size := by simp [hbx]
  generalize (w.alloc (Obj.cells #[.slice lo l.length lcap, .int .i64 d] 26)) = w1 at *
  rw [← hbx]
  clear hbx
  refine (problem_calls _ E ao cap xs (hI.ext hx1) (by omega)).mono ?_
  rintro e w2 ⟨rfl, hx2⟩
  rw [hprob]
  simp only [errI, if_true]
  have hx02 := hx1.trans hx2
  have hc02 := (hx2.cell (p := ⟨bx, 0, none⟩) hbl).trans hc0
  have hc12 := (hx2.cell (p := ⟨bx, 1, none⟩) hbl).trans hc1
  have hbl2 := Nat.lt_of_lt_of_le hbl hx2.size
  clear hc0 hc1 hbl
  go_wp2_with fail
  refine (is_calls _ E ao lo cap lcap xs l d (hI.ext hx02) (hJ.ext hx02) hl7 HP.out.claims hE (by omega)).mono ?_
  rintro e w3 ⟨rfl, hx3⟩
  rw [his]
  have hx03 := hx02.trans hx3
  have hc03 := (hx3.cell (p := ⟨bx, 0, none⟩) hbl2).trans hc02
  have hc13 := (hx3.cell (p := ⟨bx, 1, none⟩) hbl2).trans hc12
  clear hc02 hc12 hbl2
  go_wp2_with fail
  refine (excesses_calls _ E ao lo cap lcap xs l d (hI.ext hx03) (hJ.ext hx03) HP.out HS.out).mono ?_
  rintro e w4 ⟨v4, rfl, ho4, hx4⟩
  have hx04 := hx03.trans hx4
  clear hc03 hc13
  obtain ⟨xl, hxe⟩ : ∃ xl, xl = excP E xs l d := ⟨_, rfl⟩
  have hel := HEL.out
  clear HEL
  rw [← hxe] at ho4 hxl hel
  have HXE := Lib.hid hxe
  clear hxe
  obtain rfl : xl = [] := List.length_eq_zero_iff.1 hel
  obtain ⟨a4, c4, rfl⟩ : ∃ a4 c4, v4 = .slice a4 (0 : Nat) c4 := by
    obtain ⟨a, c, h, -, -⟩ := ho4.intsShape
    exact ⟨a, c, h⟩
  have hI4 : IntsIn w4 a4 [] := fun k hk => by simp at hk
  clear ho4 hel
  go_wp2_with fail
  refine (values_calls _ _ _ _).mono ?_
  rintro e w5 ⟨rfl, hw5⟩
  have hx5 : Ext w4 w5 := by rw [hw5]; exact (by repeat (first | exact Ext.refl _ | assumption | refine Ext.alloc ?_ _ | refine Ext.drewN ?_ _ | refine Ext.drew ?_))
  have hb5 : w4.heap.size < w5.heap.size := by rw [hw5]; simp
  have hc5 : w5.cell? ⟨w4.heap.size, 0, none⟩ = some (.slice a4 (0 : Nat) c4) := by rw [hw5]; simp [go_sem]
  clear hw5
  go_wp2_with fail
  refine (sorts w5 _ c4 w4.heap.size [] (hI4.ext hx5) (by simp) hb5 hc5).mono ?_
  rintro e w6 ⟨v6, rfl, ho6, hx6⟩
  obtain ⟨a6, c6, rfl⟩ : ∃ a6 c6, v6 = .slice a6 (0 : Nat) c6 := by
    obtain ⟨a, c, h, -, -⟩ := ho6.intsShape
    exact ⟨a, c, by simpa [sortI] using h⟩
  go_wp2_with fail
  refine (compact0_calls w6 a6 c6).mono ?_
  rintro e w7 ⟨rfl, hx7⟩
  go_wp2_with fail
  refine (reverse0_calls w7 a6 c6).mono ?_
  rintro e w8 ⟨rfl, hx8⟩
  have hx08 := (hx04.trans hx5).trans ((hx6.trans hx7).trans hx8)
  clear ho6
  go_wp2_with fail
  go_loopw [44] (fun iv wr => iv = .int .i64 0 ∧ Ext w8 wr) (fun _ _ => 0)
  case atStart => exact ⟨rfl, Ext.refl _⟩
  case round =>
    obtain ⟨rfl, hx⟩ := hrel
    go_wp2_with fail
    go_ret2
    exact ⟨rfl, hx08.trans hx⟩
end Go.Proofs.Ytcngecibljgndaa

/- Levels by sets: who is in them, weights from lists of sets; plain. -/
namespace Go.Proofs.Ytcngecibljgndaa
open Go.RowKit Go.Shelf

theorem isum_cons' (x : Int) (l : List Int) : isum (x :: l) = x + isum l := isum_cons x l
/-- What weights give, summed over the sets. -/
theorem IsW.sums {n : Nat} {ss : List Int} {w : Nat → Int} {D : Int} (h : IsW n ss w D) (y : Nat → Int) : (sm ss.length fun k => w k * sm n fun r => inB (ith ss k) r * y r) = D * sm n y := by
  rw [sm_congr ss.length (g := fun k => sm n fun r => w k * (inB (ith ss k) r * y r)) (fun k _ => (sm_mul _ _ _).symm), sm_swap, ← sm_mul]
  refine sm_congr n (fun r hr => ?_)
  rw [← h.all r hr, Int.mul_comm, ← sm_mul]
  exact sm_congr _ (fun k _ => by grind)
theorem nodup_inj {ss : List Int} (hn : ss.Nodup) {k p : Nat} (hk : k < ss.length) (hp : p < ss.length) (e : ss[k] = ss[p]) : k = p := by
  rcases Nat.lt_trichotomy k p with h | h | h
  · exact absurd e (List.pairwise_iff_getElem.1 hn k p hk hp h)
  · exact h
  · exact absurd e.symm (List.pairwise_iff_getElem.1 hn p k hp hk h)
theorem sm_hit {ss : List Int} (hn : ss.Nodup) {a : Int} (ha : a ∈ ss) (F : Int → Int) : (sm ss.length fun k => F (ith ss k) * if ith ss k = a then 1 else 0) = F a := by
  obtain ⟨p, hp, rfl⟩ := List.getElem_of_mem ha
  rw [sm_congr ss.length (g := fun k => if k = p then F (ith ss k) else 0) (fun k hk => by
    have e : ith ss k = ss[k] := by simp [ith, hk]
    by_cases e1 : k = p
    · subst e1; rw [if_pos e, if_pos rfl, Int.mul_one]
    · rw [if_neg (fun e2 => e1 (nodup_inj hn hk hp (e.symm.trans e2))), if_neg e1, Int.mul_zero]), sm_one p (fun k => F (ith ss k)), if_pos hp]
  simp [ith, hp]
/-- Weights by a list of sets: how often each stands in it. -/
theorem isW_list {n : Nat} {ss : List Int} (hn : ss.Nodup) {As : List Int} (hA : ∀ a ∈ As, a ∈ ss) {D : Int} (hD : 0 < D) (hs : ∀ r, r < n → isum (As.map fun a => inB a r) = D) : IsW n ss (fun k => (As.count (ith ss k) : Int)) D := by
  refine ⟨hD, fun k _ => by omega, fun r hr => ?_⟩
  rw [← hs r hr]
  clear hs
  induction As with
  | nil => simp [sm_all0, isum_nil]
  | cons a As ih =>
    rw [List.map_cons, isum_cons', ← ih (fun b hb => hA b (List.mem_cons_of_mem _ hb)), ← sm_hit hn (hA a (by simp)) (fun s => inB s r), ← sm_add]
    refine sm_congr _ (fun k _ => ?_)
    rw [List.count_cons]
    by_cases e : a = ith ss k
    · rw [if_pos e.symm, if_pos (by simpa using e)]; grind
    · rw [if_neg (Ne.symm e), if_neg (by simpa using e)]; grind
/-- The sets of the first k levels. -/
def cumL (l L : List Int) : Nat → List Int
  | 0 => []
  | k + 1 => cumL l L k ++ setsTo l (ith L k) l.length
theorem levels_iff (n : Nat) (l L : List Int) : ∀ m k, L.length - k = m → k ≤ L.length → (levelsP n l (L.drop k) (cumL l L k) ↔ ∀ q, k ≤ q → q < L.length → LevelOK n (cumL l L (q + 1)) (cumL l L q).length)
  | 0, k, hm, hk => by
    obtain rfl : k = L.length := by omega
    rw [List.drop_length]
    exact ⟨fun _ q h1 h2 => by omega, fun _ => trivial⟩
  | m + 1, k, hm, hk => by
    have hlt : k < L.length := by omega
    rw [drop_cons' L k hlt, levelsP]
    have ih := levels_iff n l L m (k + 1) (by omega) (by omega)
    rw [cumL] at ih
    rw [ih]
    constructor
    · rintro ⟨h1, h2⟩ q h3 h4
      by_cases e : q = k
      · rw [e, cumL]; exact h1
      · exact h2 q (by omega) h4
    · intro h
      exact ⟨h k (Nat.le_refl _) hlt, fun q h1 h2 => h q (by omega) h2⟩
theorem setsTo_mem (l : List Int) (x s : Int) : s ∈ setsTo l x l.length ↔ ∃ j : Nat, j < l.length ∧ s = (j : Int) + 1 ∧ ith l j = x := by
  simp only [setsTo, List.mem_map, List.mem_filter, List.mem_range, beq_iff_eq]
  constructor
  · rintro ⟨j, ⟨h1, h2⟩, rfl⟩; exact ⟨j, h1, rfl, h2⟩
  · rintro ⟨j, h1, rfl, h2⟩; exact ⟨j, ⟨h1, h2⟩, rfl⟩
theorem setsTo_nodup (l : List Int) (x : Int) : (setsTo l x l.length).Nodup := by
  unfold setsTo
  refine List.Pairwise.map _ (R := fun a b => a ≠ b) (fun a b h => by omega) ?_
  exact List.Pairwise.filter _ List.nodup_range
theorem cumL_mem (l L : List Int) : ∀ k, k ≤ L.length → ∀ s, s ∈ cumL l L k ↔ ∃ j : Nat, j < l.length ∧ s = (j : Int) + 1 ∧ ∃ m, m < k ∧ ith l j = ith L m
  | 0, _, s => by simp [cumL]
  | k + 1, hk, s => by
    rw [cumL, List.mem_append, cumL_mem l L k (by omega), setsTo_mem]
    constructor
    · rintro (⟨j, h1, h2, m, h3, h4⟩ | ⟨j, h1, h2, h3⟩)
      · exact ⟨j, h1, h2, m, by omega, h4⟩
      · exact ⟨j, h1, h2, k, by omega, h3⟩
    · rintro ⟨j, h1, h2, m, h3, h4⟩
      by_cases e : m = k
      · subst e; exact .inr ⟨j, h1, h2, h4⟩
      · exact .inl ⟨j, h1, h2, m, by omega, h4⟩
theorem desc_at {L : List Int} (hd : L.Pairwise fun x y => y < x) {i j : Nat} (hij : i < j) (hj : j < L.length) : ith L j < ith L i := by
  have := List.pairwise_iff_getElem.1 hd i j (by omega) hj hij
  simpa [ith, hj, show i < L.length by omega] using this
theorem cumL_nodup (l L : List Int) (hd : L.Pairwise fun x y => y < x) : ∀ k, k ≤ L.length → (cumL l L k).Nodup
  | 0, _ => by simp [cumL]
  | k + 1, hk => by
    rw [cumL, List.nodup_append]
    refine ⟨cumL_nodup l L hd k (by omega), setsTo_nodup _ _, fun a ha b hb e => ?_⟩
    subst e
    obtain ⟨j, h1, h2, m, h3, h4⟩ := (cumL_mem l L k (by omega) _).1 ha
    obtain ⟨j', h5, h6, h7⟩ := (setsTo_mem _ _ _).1 hb
    obtain rfl : j = j' := by omega
    have := desc_at hd h3 (by omega)
    omega
theorem compact_has (zs : List Int) : ∀ j, j < zs.length → ith zs j ∈ Lib.compact zs
  | 0, h => by
    unfold Lib.compact Lib.compactUpTo
    rw [List.mem_map]
    exact ⟨0, by rw [List.mem_filter, List.mem_range]; exact ⟨h, by simp [Lib.keeps]⟩, by simp [ith, h]⟩
  | j + 1, h => by
    by_cases hk : Lib.keeps zs.toArray (j + 1) = true
    · unfold Lib.compact Lib.compactUpTo
      rw [List.mem_map]
      exact ⟨j + 1, by rw [List.mem_filter, List.mem_range]; exact ⟨h, hk⟩, by simp [ith, h]⟩
    · have := compact_has zs j (by omega)
      have e : ith zs (j + 1) = ith zs j := Decidable.byContradiction fun hne => hk (by
        simp only [Lib.keeps, decide_eq_true_eq, Nat.add_sub_cancel]
        right
        intro e2
        refine hne ?_
        simpa [ith, h, show j < zs.length by omega] using e2)
      rw [e]; exact this
theorem compact_of (zs : List Int) {x : Int} (h : x ∈ Lib.compact zs) : x ∈ zs := by
  unfold Lib.compact Lib.compactUpTo at h
  rw [List.mem_map] at h
  obtain ⟨j, hj, rfl⟩ := h
  rw [List.mem_filter, List.mem_range] at hj
  rw [show zs.toArray[j]! = zs[j]'hj.1 by simp [hj.1]]
  exact List.getElem_mem _
theorem levels_has (l : List Int) {j : Nat} (h : j < l.length) : ∃ k, k < (levelsOf l).length ∧ ith (levelsOf l) k = ith l j := by
  have h1 : ith l j ∈ sortI l := (sortI_perm l).mem_iff.2 (by rw [show ith l j = l[j] by simp [ith, h]]; exact List.getElem_mem _)
  obtain ⟨p, hp, e⟩ := List.getElem_of_mem h1
  have h2 := compact_has (sortI l) p hp
  rw [show ith (sortI l) p = ith l j by simp only [ith, List.getD_eq_getElem?_getD, List.getElem?_eq_getElem hp]; exact e] at h2
  have h3 : ith l j ∈ levelsOf l := List.mem_reverse.2 h2
  obtain ⟨k, hk, e2⟩ := List.getElem_of_mem h3
  exact ⟨k, hk, by simp only [ith, List.getD_eq_getElem?_getD, List.getElem?_eq_getElem hk]; exact e2⟩
theorem levels_of (l : List Int) {k : Nat} (h : k < (levelsOf l).length) : ∃ j, j < l.length ∧ ith l j = ith (levelsOf l) k := by
  have h1 : ith (levelsOf l) k ∈ levelsOf l := by rw [show ith (levelsOf l) k = (levelsOf l)[k] by simp [ith, h]]; exact List.getElem_mem _
  have h2 := (sortI_perm l).mem_iff.1 (compact_of _ (List.mem_reverse.1 h1))
  obtain ⟨j, hj, e⟩ := List.getElem_of_mem h2
  exact ⟨j, hj, by simp only [ith, List.getD_eq_getElem?_getD, List.getElem?_eq_getElem hj]; exact e⟩
end Go.Proofs.Ytcngecibljgndaa

/- Levels in weights: Kohlberg's condition; only one division has it; plain. -/
namespace Go.Proofs.Ytcngecibljgndaa
open Go.RowKit Go.Shelf

/-- Each set has a positive weight among those with no less excess. -/
def KP (n : Nat) (l : List Int) : Prop := ∀ j, j < l.length → ∃ (ss : List Int) (w : Nat → Int) (D : Int) (p : Nat), IsW n ss w D ∧ (∀ k, k < ss.length → ∃ i : Nat, i < l.length ∧ ith ss k = (i : Int) + 1 ∧ ith l j ≤ ith l i) ∧ p < ss.length ∧ ith ss p = (j : Int) + 1 ∧ 0 < w p
theorem desc_le {L : List Int} (hd : L.Pairwise fun x y => y < x) {i j : Nat} (hij : i ≤ j) (hj : j < L.length) : ith L j ≤ ith L i := by
  by_cases e : i = j
  · rw [e]; exact Int.le_refl _
  · have := desc_at hd (show i < j by omega) hj; omega
theorem ith_get (l : List Int) {k : Nat} (h : k < l.length) : ith l k = l[k] := by simp [ith, h]
theorem ith_behind (a b : List Int) {k : Nat} (h : a.length ≤ k) : ith (a ++ b) k = ith b (k - a.length) := by
  simp only [ith, List.getD_eq_getElem?_getD]
  rw [List.getElem?_append_right h]
theorem levels_KP {n : Nat} {l : List Int} (h : levelsP n l (levelsOf l) []) : KP n l := by
  intro j hj
  have hd := levels_desc l
  obtain ⟨k, hk, e⟩ := levels_has l hj
  have h1 := (levels_iff n l (levelsOf l) _ 0 rfl (by omega)).1 h k (by omega) hk
  have hm : ((j : Int) + 1) ∈ setsTo l (ith (levelsOf l) k) l.length := (setsTo_mem _ _ _).2 ⟨j, hj, rfl, e.symm⟩
  obtain ⟨p, hp, e2⟩ := List.getElem_of_mem hm
  have hlen : (cumL l (levelsOf l) (k + 1)).length = (cumL l (levelsOf l) k).length + (setsTo l (ith (levelsOf l) k) l.length).length := by rw [cumL, List.length_append]
  have hat : ith (cumL l (levelsOf l) (k + 1)) ((cumL l (levelsOf l) k).length + p) = (j : Int) + 1 := by
    rw [cumL, ith_behind _ _ (by omega), show (cumL l (levelsOf l) k).length + p - (cumL l (levelsOf l) k).length = p by omega, ith_get _ hp, e2]
  obtain ⟨w, D, h2, h3⟩ := h1.each ((cumL l (levelsOf l) k).length + p) (by omega) (by omega)
  refine ⟨_, w, D, _, h2, fun q hq => ?_, by omega, hat, h3⟩
  obtain ⟨i, a1, a2, m, a3, a4⟩ := (cumL_mem l (levelsOf l) (k + 1) (by omega) (ith (cumL l (levelsOf l) (k + 1)) q)).1 (by
    rw [show ith (cumL l (levelsOf l) (k + 1)) q = (cumL l (levelsOf l) (k + 1))[q] by simp [ith, hq]]; exact List.getElem_mem _)
  exact ⟨i, a1, a2, by rw [a4, ← e]; exact desc_le hd (by omega) hk⟩
theorem KP_levels {n : Nat} {l : List Int} (h : ∀ j, j < l.length → ∃ (As : List Int) (D : Int), 0 < D ∧ ((j : Int) + 1) ∈ As ∧ (∀ a ∈ As, ∃ i : Nat, i < l.length ∧ a = (i : Int) + 1 ∧ ith l j ≤ ith l i) ∧ ∀ r, r < n → isum (As.map fun a => inB a r) = D) : levelsP n l (levelsOf l) [] := by
  have hd := levels_desc l
  refine (levels_iff n l (levelsOf l) _ 0 rfl (by omega)).2 (fun q _ hq => ?_)
  have key : ∀ j, j < l.length → ith l j = ith (levelsOf l) q → ∃ (As : List Int) (D : Int), ((j : Int) + 1) ∈ As ∧ IsW n (cumL l (levelsOf l) (q + 1)) (fun k => (As.count (ith (cumL l (levelsOf l) (q + 1)) k) : Int)) D := by
    intro j hj e
    obtain ⟨As, D, h1, h2, h3, h4⟩ := h j hj
    refine ⟨As, D, h2, isW_list (cumL_nodup l _ hd _ (by omega)) (fun a ha => ?_) h1 h4⟩
    obtain ⟨i, hi, rfl, h5⟩ := h3 a ha
    obtain ⟨m, hm, e2⟩ := levels_has l hi
    refine (cumL_mem l _ (q + 1) (by omega) _).2 ⟨i, hi, rfl, m, ?_, e2.symm⟩
    rcases Nat.lt_or_ge q m with h6 | h6
    · have := desc_at hd h6 hm; omega
    · omega
  constructor
  · obtain ⟨j, hj, e⟩ := levels_of l hq
    obtain ⟨As, D, -, h1⟩ := key j hj e
    exact ⟨_, D, h1⟩
  · intro p hp hp2
    have hlen : (cumL l (levelsOf l) (q + 1)).length = (cumL l (levelsOf l) q).length + (setsTo l (ith (levelsOf l) q) l.length).length := by rw [cumL, List.length_append]
    have hat : ith (cumL l (levelsOf l) (q + 1)) p = ith (setsTo l (ith (levelsOf l) q) l.length) (p - (cumL l (levelsOf l) q).length) := by
      rw [cumL, ith_behind _ _ hp]
    have hp3 : p - (cumL l (levelsOf l) q).length < (setsTo l (ith (levelsOf l) q) l.length).length := by omega
    obtain ⟨j, hj, e1, e2⟩ := (setsTo_mem l (ith (levelsOf l) q) (ith (cumL l (levelsOf l) (q + 1)) p)).1 (by
      rw [hat, ith_get _ hp3]
      exact List.getElem_mem _)
    obtain ⟨As, D, h0, h1⟩ := key j hj e2
    refine ⟨_, D, h1, ?_⟩
    simp only [e1]
    have := List.count_pos_iff.2 h0
    omega
/-- What a set gets. -/
def getsV (n : Nat) (x : Nat → Int) (s : Int) : Int := sm n fun r => inB s r * x r
/-- Excesses of a division over a divisor, by what the sets are given. -/
structure ExcOf (n : Nat) (v : Nat → Int) (E : Int) (x : Nat → Int) (d : Int) (l : List Int) : Prop where
  den : 0 < d
  sum : sm n x = E * d
  exc : ∀ j, j < l.length → ith l j = v j * d - getsV n x ((j : Int) + 1)
/-- Where one has more excess, the other one has more at a set with no less. -/
theorem KP.core {n : Nat} {v : Nat → Int} {E dx dy : Int} {x y : Nat → Int} {lx ly : List Int} (hx : ExcOf n v E x dx lx) (hy : ExcOf n v E y dy ly) (hl : ly.length = lx.length) (hk : KP n lx) {j : Nat} (hj : j < lx.length) (hgt : ith ly j * dx < ith lx j * dy) :
    ∃ i, i < lx.length ∧ ith lx j ≤ ith lx i ∧ ith lx i * dy < ith ly i * dx := by
  refine Classical.byContradiction fun hno => ?_
  obtain ⟨ss, w, D, p, h1, h2, h3, h4, h5⟩ := hk j hj
  have e : ∀ i, i < lx.length → getsV n y ((i : Int) + 1) * dx - getsV n x ((i : Int) + 1) * dy = ith lx i * dy - ith ly i * dx := fun i hi => by
    rw [hx.exc i hi, hy.exc i (by omega)]; grind
  have s1 := h1.sums x
  have s2 := h1.sums y
  rw [hx.sum] at s1
  rw [hy.sum] at s2
  have e3 : (sm ss.length fun k => w k * (getsV n y (ith ss k) * dx - getsV n x (ith ss k) * dy)) = 0 := by
    have e4 : (sm ss.length fun k => w k * (getsV n y (ith ss k) * dx - getsV n x (ith ss k) * dy)) = dx * (sm ss.length fun k => w k * getsV n y (ith ss k)) - dy * sm ss.length fun k => w k * getsV n x (ith ss k) := by
      rw [← sm_mul, ← sm_mul, ← sm_sub]
      exact sm_congr _ (fun k _ => by grind)
    rw [e4]
    unfold getsV
    rw [s1, s2]; grind
  have hnn : ∀ k, k < ss.length → 0 ≤ w k * (getsV n y (ith ss k) * dx - getsV n x (ith ss k) * dy) := fun k hk => by
    obtain ⟨i, hi, e5, h6⟩ := h2 k hk
    refine Int.mul_nonneg (h1.low k hk) ?_
    rw [e5, e i hi]
    rcases Int.lt_or_le (ith lx i * dy) (ith ly i * dx) with h7 | h7
    · exact absurd ⟨i, hi, h6, h7⟩ hno
    · omega
  have hz := sm_eq0 ss.length hnn e3 p h3
  rw [h4, e j hj] at hz
  have := Int.mul_pos h5 (show 0 < ith lx j * dy - ith ly j * dx by omega)
  omega
theorem argmax (P : Nat → Prop) (g : Nat → Int) : ∀ M, (∃ j, j < M ∧ P j) → ∃ j, j < M ∧ P j ∧ ∀ i, i < M → P i → g i ≤ g j
  | 0, ⟨j, hj, _⟩ => by omega
  | M + 1, ⟨j, hj, hp⟩ => by
    by_cases h : ∃ j, j < M ∧ P j
    · obtain ⟨a, ha, h1, h2⟩ := argmax P g M h
      by_cases hM : P M ∧ g a < g M
      · refine ⟨M, by omega, hM.1, fun i hi hpi => ?_⟩
        by_cases e : i = M
        · rw [e]; exact Int.le_refl _
        · have := h2 i (by omega) hpi; omega
      · refine ⟨a, by omega, h1, fun i hi hpi => ?_⟩
        by_cases e : i = M
        · subst e
          rcases Int.lt_or_le (g a) (g i) with h3 | h3
          · exact absurd ⟨hpi, h3⟩ hM
          · exact h3
        · exact h2 i (by omega) hpi
    · obtain rfl : j = M := Classical.byContradiction fun e => h ⟨j, by omega, hp⟩
      refine ⟨j, by omega, hp, fun i hi hpi => ?_⟩
      obtain rfl : i = j := Classical.byContradiction fun e => h ⟨i, by omega, hpi⟩
      exact Int.le_refl _
/-- Two divisions with Kohlberg's condition have the same excesses. -/
theorem KP.same {n : Nat} {v : Nat → Int} {E dx dy : Int} {x y : Nat → Int} {lx ly : List Int} (hx : ExcOf n v E x dx lx) (hy : ExcOf n v E y dy ly) (hl : ly.length = lx.length) (hkx : KP n lx) (hky : KP n ly) : ∀ j, j < lx.length → ith lx j * dy = ith ly j * dx := by
  refine Classical.byContradiction fun hno => ?_
  have hex : ∃ j, j < lx.length ∧ ith lx j * dy ≠ ith ly j * dx := Classical.byContradiction fun h => hno fun j hj => Classical.byContradiction fun h2 => h ⟨j, hj, h2⟩
  obtain ⟨j, hj, hne, hmax⟩ := argmax (fun j => ith lx j * dy ≠ ith ly j * dx) (fun j => max (ith lx j * dy) (ith ly j * dx)) lx.length hex
  have hdx := hx.den
  have hdy := hy.den
  rcases Int.lt_or_gt_of_ne hne with h | h
  · obtain ⟨i, hi, h1, h2⟩ := hky.core hy hx hl.symm (by omega) h
    have h3 := hmax i (by omega) (by omega)
    have h4 := Int.mul_le_mul_of_nonneg_right h1 (show 0 ≤ dx by omega)
    omega
  · obtain ⟨i, hi, h1, h2⟩ := hkx.core hx hy hl hj (by omega)
    have h3 := hmax i hi (by omega)
    have h4 := Int.mul_le_mul_of_nonneg_right h1 (show 0 ≤ dy by omega)
    omega
end Go.Proofs.Ytcngecibljgndaa
