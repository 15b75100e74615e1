/- Weights of sets; what ready and greatest find of them; plain. -/
import Derived.Test.YtcngecibljgndaaMLE
import Derived.Test.YtcngecibljgndaaMQO
namespace Go.Proofs.Ytcngecibljgndaa
open Go.RowKit Go.Shelf

theorem sm_app (f : Nat → Int) (a : Nat) : ∀ b, sm (a + b) f = sm a f + sm b (fun i => f (a + i))
  | 0 => by simp [sm]
  | b + 1 => by
    rw [← Nat.add_assoc, sm, sm, sm_app f a b]; omega
theorem sm_ge0 {f : Nat → Int} (n : Nat) (h : ∀ i, i < n → 0 ≤ f i) : 0 ≤ sm n f := by
  have := sm_le (f := fun _ => (0 : Int)) (g := f) n h
  rw [sm_zero] at this; exact this
theorem sm_eq0 {f : Nat → Int} : ∀ n, (∀ i, i < n → 0 ≤ f i) → sm n f = 0 → ∀ i, i < n → f i = 0
  | 0, _, _, i, hi => by omega
  | n + 1, h, h0, i, hi => by
    rw [sm] at h0
    have h1 := sm_ge0 n (fun i hi => h i (by omega))
    have h2 := h n (by omega)
    by_cases e : i = n
    · rw [e]; omega
    · exact sm_eq0 n (fun i hi => h i (by omega)) (by omega) i (by omega)

/-- Weights, over a divisor, with which everybody is in sets with the weight 1. -/
structure IsW (n : Nat) (ss : List Int) (w : Nat → Int) (D : Int) : Prop where
  pos : 0 < D
  low : ∀ k, k < ss.length → 0 ≤ w k
  all : ∀ r, r < n → (sm ss.length fun k => inB (ith ss k) r * w k) = D
theorem ker_start (n : Nat) (ss : List Int) (y : Nat → Int) : Ker n (ss.length + n + 1) (tabK n ss n).ent y ↔ ∀ r, r < n → (sm ss.length fun k => inB (ith ss k) r * y k) + y (ss.length + r) + y (ss.length + n) = 0 := by
  have e : ∀ r, r < n → (sm (ss.length + n + 1) fun l => (tabK n ss n).ent r l * y l) = (sm ss.length fun k => inB (ith ss k) r * y k) + y (ss.length + r) + y (ss.length + n) := by
    intro r hr
    rw [sm, sm_app]
    have e1 : (sm ss.length fun l => (tabK n ss n).ent r l * y l) = sm ss.length fun k => inB (ith ss k) r * y k := sm_congr _ (fun l hl => by
      rw [tab_ent n ss r l hr (by omega), if_pos hl])
    have e2 : (sm n fun i => (tabK n ss n).ent r (ss.length + i) * y (ss.length + i)) = y (ss.length + r) := by
      rw [sm_congr n (g := fun i => if i = r then y (ss.length + i) else 0) (fun i hi => by
        rw [tab_ent n ss r _ hr (by omega), if_neg (by omega)]
        by_cases e : i = r
        · subst e; rw [if_pos rfl, if_pos rfl, Int.one_mul]
        · rw [if_neg (by omega), if_neg (by omega), if_neg e, Int.zero_mul]), sm_one r (fun i => y (ss.length + i)), if_pos hr]
    rw [e1, e2, tab_ent n ss r _ hr (by omega), if_neg (by omega), if_neg (by omega), if_pos rfl, Int.one_mul]
  constructor
  · intro h r hr; rw [← e r hr]; exact h r hr
  · intro h r hr; rw [e r hr]; exact h r hr
/-- Weights as a point of the kernel. -/
def wy (n : Nat) (ss : List Int) (w : Nat → Int) (D : Int) : Nat → Int := fun l => if l < ss.length then w l else if l = ss.length + n then - D else 0
theorem IsW.ker {n : Nat} {ss : List Int} {w : Nat → Int} {D : Int} (h : IsW n ss w D) : Ker n (ss.length + n + 1) (tabK n ss n).ent (wy n ss w D) := by
  refine (ker_start n ss _).2 (fun r hr => ?_)
  have h1 := h.all r hr
  have e : (sm ss.length fun k => inB (ith ss k) r * wy n ss w D k) = sm ss.length fun k => inB (ith ss k) r * w k := sm_congr _ (fun k hk => by unfold wy; rw [if_pos hk])
  rw [e, h1]
  unfold wy
  rw [if_neg (by omega), if_neg (by omega), if_neg (by omega), if_pos rfl]
  omega
theorem wy_sum (n : Nat) (ss : List Int) (w : Nat → Int) (D : Int) (f : Nat → Int) : (sm (ss.length + n + 1) fun l => f l * wy n ss w D l) = (sm ss.length fun k => f k * w k) - f (ss.length + n) * D := by
  rw [sm, sm_app]
  have e1 : (sm ss.length fun l => f l * wy n ss w D l) = sm ss.length fun k => f k * w k := sm_congr _ (fun k hk => by unfold wy; rw [if_pos hk])
  have e2 : (sm n fun i => f (ss.length + i) * wy n ss w D (ss.length + i)) = 0 := sm_all0 n fun i hi => by
    unfold wy; rw [if_neg (by omega), if_neg (by omega), Int.mul_zero]
  have e3 : wy n ss w D (ss.length + n) = - D := by unfold wy; rw [if_neg (by omega), if_pos rfl]
  rw [e1, e2, e3, Int.mul_neg]; omega
/-- A point of the kernel as weights. -/
theorem ker_isW {n : Nat} {ss : List Int} {y : Nat → Int} {D : Int} (hk : Ker n (ss.length + n + 1) (tabK n ss n).ent y) (h0 : ∀ l, l < ss.length → 0 ≤ y l) (ha : ∀ r, r < n → y (ss.length + r) = 0) (hl : y (ss.length + n) = - D) (hD : 0 < D) : IsW n ss y D := by
  refine ⟨hD, h0, fun r hr => ?_⟩
  have := (ker_start n ss y).1 hk r hr
  rw [ha r hr, hl] at this
  omega

theorem basis_run (cols : Nat) (b : Int) : ∀ (f : Nat) (T T' : Tab), (∀ q, q < T.basis.length → ith T.basis q < b) → (cols : Int) ≤ b → runP cols f T = some T' → ∀ q, q < T'.basis.length → ith T'.basis q < b
  | 0, T, T', _, _, hr => by simp [runP] at hr
  | f + 1, T, T', hb, hc, hr => by
    unfold runP at hr
    by_cases hs : T.sm = true
    · rw [if_pos hs] at hr
      by_cases hn : firstI negB (T.goal.take cols) < 0
      · rw [if_pos hn, Option.some.injEq] at hr
        subst hr; exact hb
      · rw [if_neg hn] at hr
        cases ho : outP T (firstI negB (T.goal.take cols)).toNat T.rows.length with
        | none => rw [ho] at hr; simp at hr
        | some o =>
          rw [ho] at hr
          refine basis_run cols b f _ T' (fun q hq => ?_) hc hr
          rcases firstI_spec negB (T.goal.take cols) with ⟨h1, -⟩ | ⟨k, h1, h2, -⟩
          · omega
          · rw [h1]
            have hk : k < cols := by rw [List.length_take] at h2; omega
            have hq2 : q < T.basis.length := by
              have e : (pivotP T o (firstI negB (T.goal.take cols)).toNat).basis.length = T.basis.length := by simp [pivotP]
              omega
            show ith (T.basis.set o ((k : Int).toNat : Int)) q < b
            by_cases e : q = o
            · subst e
              rw [ith_set _ _ _ _ hq2, if_pos rfl]
              simp only [Int.toNat_natCast]; omega
            · have e2 : ith (T.basis.set o ((k : Int).toNat : Int)) q = ith T.basis q := by simp [ith, Ne.symm e]
              rw [e2]; exact hb q hq2
    · rw [if_neg hs] at hr; simp at hr

theorem run_more (cols : Nat) : ∀ (f g : Nat) (T T' : Tab), f ≤ g → runP cols f T = some T' → runP cols g T = some T'
  | 0, _, _, _, _, hr => by simp [runP] at hr
  | f + 1, 0, _, _, h, _ => by omega
  | f + 1, g + 1, T, T', h, hr => by
    unfold runP at hr ⊢
    by_cases hs : T.sm = true
    · rw [if_pos hs] at hr ⊢
      by_cases hn : firstI negB (T.goal.take cols) < 0
      · rw [if_pos hn] at hr ⊢; exact hr
      · rw [if_neg hn] at hr ⊢
        cases ho : outP T (firstI negB (T.goal.take cols)).toNat T.rows.length with
        | none => rw [ho] at hr; simp at hr
        | some o =>
          rw [ho] at hr
          exact run_more cols f g _ _ (by omega) hr
    · rw [if_neg hs] at hr; simp at hr
/-- A run of ready: what the shown tableau is of. -/
structure Rdy (n : Nat) (ss : List Int) (e : Nat → Nat) (H T : Tab) (i : Nat) : Prop where
  rep : ∃ s, Rep n (Fof n (colOf n ss)) s (cost1 ss.length n) (ss.length + n) H
  sub : SubOf n H e T
  sets : H.sets = ss.length
  nn : H.n = n
  flat : ∀ m, m < n → ss.length ≤ H.J m → H.ent m (ss.length + n) = 0
  out : ∀ m, m < n → (∀ q, q < T.rows.length → e q ≠ m) → ss.length ≤ H.J m ∧ ∀ l, l < ss.length → H.ent m l = 0
  seen : ∀ q, q < i → q < T.rows.length → H.J (e q) < ss.length
  ker : ∀ y, Ker n (ss.length + n + 1) H.ent y ↔ Ker n (ss.length + n + 1) (tabK n ss n).ent y
/-- The first part: an end of a run of the first tableau. -/
theorem phase1_ends (n : Nat) (ss : List Int) (hn : 1 ≤ n ∧ n ≤ 7) (hs : ss.length ≤ 128) : ∃ f T1, runP (ss.length + n) f (tabK n ss n) = some T1 := by
  have hR := rep_start n ss hn hs
  refine run_ends (e := id) hR ?_ (fun m hm hno => absurd rfl (hno m (by have := hR.len; omega))) (fun y _ hy h0 _ => ?_)
  · exact ⟨rfl, rfl, rfl, rfl, by rw [hR.len, hR.blen], by rw [hR.len]; exact hn.1, fun i hi => rfl, fun i hi => rfl, fun i hi => by rw [hR.len] at hi; exact hi, fun i k _ _ h => h⟩
  · have e : (tabK n ss n).last = ss.length + n := rfl
    rw [e] at hy h0 ⊢
    rw [sm, h0, Int.mul_zero, Int.add_zero]
    refine sm_ge0 _ (fun l hl => Int.mul_nonneg ?_ (hy l hl))
    unfold cost1; split <;> omega
theorem phase1_spec {n : Nat} {ss : List Int} (hn : 1 ≤ n ∧ n ≤ 7) (hs : ss.length ≤ 128) {f : Nat} {T1 : Tab} (hr : runP (ss.length + n) f (tabK n ss n) = some T1) :
    T1.sets = ss.length ∧ T1.n = n ∧ T1.sm = true ∧ ((∃ w D, IsW n ss w D) ↔ ith T1.goal (ss.length + n) = 0) ∧ (ith T1.goal (ss.length + n) = 0 → ∃ H, Rdy n ss id H T1 0) := by
  have hR := rep_start n ss hn hs
  obtain ⟨H, h1, h2, h3, h4, h5, h6, h7, h8⟩ := run_spec (e := id) f _ T1 _ hR
    ⟨rfl, rfl, rfl, rfl, by rw [hR.len, hR.blen], by rw [hR.len]; exact hn.1, fun i hi => rfl, fun i hi => rfl, fun i hi => by rw [hR.len] at hi; exact hi, fun i k _ _ h => h⟩
    (fun m hm hno => absurd rfl (hno m (by have := hR.len; omega))) (fun y _ hy h0 _ => by
      have e : (tabK n ss n).last = ss.length + n := rfl
      rw [e] at hy h0 ⊢
      rw [sm, h0, Int.mul_zero, Int.add_zero]
      refine sm_ge0 _ (fun l hl => Int.mul_nonneg ?_ (hy l hl))
      unfold cost1; split <;> omega) hr
  have e6 : H.sets = ss.length := h6
  have e7 : H.n = n := h7
  have eL : H.last = ss.length + n := by unfold Tab.last; rw [e6, e7]
  have eW : H.wide = ss.length + n + 1 := by unfold Tab.wide; rw [e6, e7]
  have e0 : (tabK n ss n).last + 1 = ss.length + n + 1 := rfl
  rw [e0] at h8
  have hrows : T1.rows.length = n := by rw [h4]; exact hR.len
  have hg := h1.goal (ss.length + n) (by omega)
  rw [h2.goal]
  have hpos := h1.feas.pos
  have hcl : cost1 ss.length n (ss.length + n) = 0 := by unfold cost1; rw [if_neg (by omega)]
  have hgv : ith H.goal (ss.length + n) = - sm n fun m => cost1 ss.length n (H.J m) * H.ent m (ss.length + n) := by
    rw [hg]; unfold gl; rw [hcl]; omega
  have hterm : ∀ m, m < n → 0 ≤ cost1 ss.length n (H.J m) * H.ent m (ss.length + n) := fun m hm => by
    refine Int.mul_nonneg (by unfold cost1; split <;> omega) ?_
    rw [← eL]; exact h1.feas.rhs m hm
  have hflat : ith H.goal (ss.length + n) = 0 → ∀ m, m < n → ss.length ≤ H.J m → H.ent m (ss.length + n) = 0 := by
    intro h0 m hm hJ
    have h10 := sm_eq0 n hterm (by omega) m hm
    have h11 : cost1 ss.length n (H.J m) = 1 := by
      unfold cost1
      have := (h1.bas m hm).2
      rw [if_pos (by omega)]
    rwa [h11, Int.one_mul] at h10
  refine ⟨by rw [h2.sets, e6], by rw [h2.n, e7], Tab.sm_of (h2.small h1), ⟨fun ⟨w, D, hw⟩ => ?_, fun h0 => ?_⟩, fun h0 => ?_⟩
  · have hk := (h8 _).2 hw.ker
    have hq := ker_goal (c := cost1 ss.length n) (J := H.J) (b := H.den) hk
    rw [wy_sum, wy_sum] at hq
    have z1 : (sm ss.length fun k => cost1 ss.length n k * w k) = 0 := sm_all0 _ (fun k hk => by
      unfold cost1; rw [if_neg (by omega), Int.zero_mul])
    rw [z1, hcl, ← hg] at hq
    have z2 := sm_ge0 (f := fun k => gl n (cost1 ss.length n) H.J H.ent H.den k * w k) ss.length (fun k hk => Int.mul_nonneg (h5 k (by omega)) (hw.low k hk))
    have z3 := sm_ge0 n hterm
    have z4 : ith H.goal (ss.length + n) * D = sm ss.length fun k => gl n (cost1 ss.length n) H.J H.ent H.den k * w k := by
      simp only [Int.zero_mul, Int.sub_zero, Int.mul_zero] at hq; omega
    refine Classical.byContradiction fun hne => ?_
    have z5 := Int.mul_neg_of_neg_of_pos (show ith H.goal (ss.length + n) < 0 by omega) hw.pos
    omega
  · have hfl := hflat h0
    have hk := h1.sol_ker
    rw [eL] at hk
    refine ⟨_, _, ker_isW ((h8 _).1 hk) (fun l hl => h1.sol_nonneg (by omega)) (fun r hr => ?_) (by have := h1.sol_last; rwa [eL] at this) hpos⟩
    by_cases hi : In n H.J (ss.length + r)
    · obtain ⟨m, hm, e⟩ := hi
      rw [← e, h1.sol_at hm, eL]; exact hfl m hm (by omega)
    · exact h1.sol_out (by omega) hi
  · exact ⟨H, ⟨1, h1⟩, h2, e6, e7, hflat h0, fun m hm hno => absurd rfl (hno m (by omega)), fun q hq => by omega, fun y => h8 y⟩
theorem DeadOut.pivot'' {N : Nat} {F : (Nat → Nat) → Int} {s : Int} {c : Nat → Int} {cols : Nat} {H : Tab} (h : Rep N F s c cols H) {m i j : Nat} (hi : i < N) (hne : m ≠ i) (hj : H.ent m j = 0) {l : Nat} (hl : H.ent m l = 0) : (pivotP H i j).ent m l = 0 := by
  rw [pivot_ent h hi]; unfold pivR; rw [if_neg hne, hl, hj]; simp
theorem flat_pivot {N : Nat} {F : (Nat → Nat) → Int} {s : Int} {c : Nat → Int} {cols : Nat} {H : Tab} (h : Rep N F s c cols H) {m i j : Nat} (hi : i < N) (hne : m ≠ i) {l : Nat} (hz : H.ent i l = 0) (hl : H.ent m l = 0) : (pivotP H i j).ent m l = 0 := by
  rw [pivot_ent h hi]; unfold pivR; rw [if_neg hne, hl, hz]; simp
theorem firstI_take {T : Tab} {i : Nat} (hl : T.sets ≤ (T.row i).length) : (firstI nzB ((T.row i).take T.sets) < 0 ∧ ∀ l, l < T.sets → T.ent i l = 0) ∨ ∃ j : Nat, firstI nzB ((T.row i).take T.sets) = j ∧ j < T.sets ∧ T.ent i j ≠ 0 := by
  have hat : ∀ l, l < T.sets → ith ((T.row i).take T.sets) l = T.ent i l := fun l hl => by
    show _ = ith (T.row i) l
    simp only [ith, List.getD_eq_getElem?_getD, List.getElem?_take]
    rw [if_pos hl]
  have hlen : ((T.row i).take T.sets).length = T.sets := by rw [List.length_take]; omega
  rcases firstI_spec nzB ((T.row i).take T.sets) with ⟨h1, h2⟩ | ⟨j, h1, h2, h3, -⟩
  · refine .inl ⟨h1, fun l hl => ?_⟩
    have := h2 l (by omega)
    rw [hat l hl] at this
    simpa [nzB] using this
  · rw [hlen] at h2
    rw [hat j h2] at h3
    exact .inr ⟨j, h1, h2, by simpa [nzB] using h3⟩
/-- A round of ready that pivots. -/
theorem Rdy.pivot {n : Nat} {ss : List Int} {e : Nat → Nat} {H T : Tab} {i j : Nat} (h : Rdy n ss e H T i) (hi : i < T.rows.length) (hb : ss.length ≤ H.J (e i)) (hj : j < ss.length) (H' T' : Tab)
    (hrep : ∃ s, Rep n (Fof n (colOf n ss)) s (cost1 ss.length n) (ss.length + n) H') (hsub : SubOf n H' e T') (hs : H'.sets = ss.length) (hn : H'.n = n) (hJ : ∀ m, H'.J m = upd H.J (e i) j m)
    (hz : ∀ m l, (pivotP H (e i) j).ent m l = 0 → H'.ent m l = 0) (hlen : T'.rows.length = T.rows.length) (hker : ∀ y, Ker n (ss.length + n + 1) H'.ent y ↔ Ker n (ss.length + n + 1) H.ent y) : Rdy n ss e H' T' (i + 1) := by
  obtain ⟨s, hR⟩ := h.rep
  have hslot := h.sub.slot i hi
  have hri : H.ent (e i) (ss.length + n) = 0 := h.flat _ hslot hb
  refine ⟨hrep, hsub, hs, hn, fun m hm hJm => ?_, fun m hm hno => ?_, fun q hq hq2 => ?_, fun y => (hker y).trans (h.ker y)⟩
  · rw [hJ] at hJm
    by_cases e1 : m = e i
    · rw [e1, upd_same] at hJm; omega
    · rw [upd_other _ _ e1] at hJm
      exact hz m _ (flat_pivot hR hslot e1 hri (h.flat m hm hJm))
  · rw [hlen] at hno
    have e1 : m ≠ e i := fun e2 => hno i hi e2.symm
    obtain ⟨o1, o2⟩ := h.out m hm hno
    rw [hJ, upd_other _ _ e1]
    exact ⟨o1, fun l hl => hz m l (DeadOut.pivot'' hR hslot e1 (o2 j hj) (o2 l hl))⟩
  · rw [hJ]
    by_cases e1 : e q = e i
    · rw [e1, upd_same]; exact hj
    · rw [upd_other _ _ e1]
      have : q ≠ i := fun e2 => e1 (by rw [e2])
      exact h.seen q (by omega) (by omega)
theorem SubOf.negS {N : Nat} {F : (Nat → Nat) → Int} {s : Int} {c : Nat → Int} {cols : Nat} {H T : Tab} {e : Nat → Nat} (hs : SubOf N H e T) (h : Rep N F s c cols H) {i : Nat} (hi : i < T.rows.length) : SubOf N (negP H (e i)) e (negP T i) := by
  have hlen : (negP T i).rows.length = T.rows.length := negTo_len _ _ _
  have hl := h.len
  refine ⟨hs.sets, hs.n, hs.den, hs.goal, by rw [hlen]; exact hs.blen, by rw [hlen]; exact hs.one, fun q hq => ?_, fun q hq => hs.bas q (by omega), fun q hq => hs.slot q (by omega), fun p q hp hq => hs.inj p q (by omega) (by omega)⟩
  rw [hlen] at hq
  have h4 := hs.slot q hq
  show (negTo T i T.wide).row q = (negTo H (e i) H.wide).row (e q)
  rw [negTo_row _ _ _ _ hq, negTo_row _ _ _ _ (by omega), hs.wide, hs.row i hi, hs.row q hq]
  by_cases e1 : q = i
  · subst e1
    rw [if_pos rfl, if_pos rfl]
    refine List.map_congr_left (fun l _ => ?_)
    rw [hs.ent hi]
  · rw [if_neg e1, if_neg (hs.inj q i hq hi e1)]
theorem readyG_spec {n : Nat} {ss : List Int} (hn : 1 ≤ n) : ∀ (f : Nat) (e : Nat → Nat) (H T : Tab) (i : Nat), Rdy n ss e H T i → i ≤ T.rows.length → T.rows.length - i + 1 ≤ f → ∃ T' e' H', readyG f i T = some T' ∧ Rdy n ss e' H' T' T'.rows.length
  | 0, e, H, T, i, _, _, hf => by omega
  | f + 1, e, H, T, i, h, hi, hf => by
    obtain ⟨s, hR⟩ := h.rep
    have hsets := h.sub.sets.trans h.sets
    have hnn := h.sub.n.trans h.nn
    have hS := h.sub.small hR
    unfold readyG
    rw [if_pos (Tab.sm_of hS)]
    by_cases hlt : i < T.rows.length
    · rw [if_pos hlt]
      have hslot := h.sub.slot i hlt
      have hbas := h.sub.bas i hlt
      have hb0 := (hR.bas (e i) hslot).1
      have hJe : H.J (e i) = (ith H.basis (e i)).toNat := rfl
      by_cases hb : ith T.basis i < T.sets
      · rw [if_pos hb]
        refine readyG_spec hn f e H T (i + 1) ⟨h.rep, h.sub, h.sets, h.nn, h.flat, h.out, fun q hq hq2 => ?_, h.ker⟩ (by omega) (by omega)
        by_cases e1 : q = i
        · subst e1; omega
        · exact h.seen q (by omega) hq2
      · rw [if_neg hb]
        have hJ : ss.length ≤ H.J (e i) := by omega
        have hrl : (T.row i).length = T.wide := (hS.row i hlt).len
        have hwd : T.sets ≤ T.wide := by unfold Tab.wide; omega
        rcases firstI_take (T := T) (i := i) (by omega) with ⟨h1, h2⟩ | ⟨j, h1, h2, h3⟩
        · rw [if_pos h1]
          rw [hsets] at h2
          have hout : ∀ m, m < n → (∀ q, q < T.rows.length → q ≠ i → e q ≠ m) → ss.length ≤ H.J m ∧ ∀ l, l < ss.length → H.ent m l = 0 := fun m hm hno => by
            by_cases e1 : e i = m
            · rw [← e1]
              exact ⟨hJ, fun l hl => by rw [← h.sub.ent hlt]; exact h2 l hl⟩
            · refine h.out m hm (fun q hq => ?_)
              by_cases e2 : q = i
              · rw [e2]; exact e1
              · exact hno q hq e2
          have h2r : 2 ≤ T.rows.length := by
            refine Classical.byContradiction fun hn2 => ?_
            have hall : ∀ m, m < n → ss.length ≤ H.J m := fun m hm => (hout m hm (fun q hq hne => by omega)).1
            have eL : H.last = ss.length + n := by unfold Tab.last; rw [h.sets, h.nn]
            have hk := hR.sol_ker
            rw [eL] at hk
            have hk2 := (ker_start n ss _).1 ((h.ker _).1 hk) 0 (by omega)
            have hlast := hR.sol_last
            rw [eL] at hlast
            have z1 : (sm ss.length fun k => inB (ith ss k) 0 * solY n H k) = 0 := sm_all0 _ (fun k hk => by
              rw [hR.sol_out (by omega) (fun ⟨m, hm, e1⟩ => by have := hall m hm; omega), Int.mul_zero])
            have z2 : solY n H (ss.length + 0) = 0 := by
              by_cases hi2 : In n H.J (ss.length + 0)
              · obtain ⟨m, hm, e1⟩ := hi2
                rw [← e1, hR.sol_at hm, eL]
                exact h.flat m hm (hall m hm)
              · exact hR.sol_out (by omega) hi2
            have := hR.feas.pos
            omega
          rw [if_pos h2r]
          have hdl := dropI_len T i
          refine readyG_spec hn f (fun q => e (skip i q)) H (dropI T i) i ⟨h.rep, ?_, h.sets, h.nn, h.flat, fun m hm hno => ?_, fun q hq hq2 => ?_, h.ker⟩ (by omega) (by omega)
          · refine ⟨h.sub.sets, h.sub.n, h.sub.den, h.sub.goal, by simp [dropI], by omega, fun q hq => ?_, fun q hq => ?_, fun q hq => h.sub.slot _ (by unfold skip; split <;> omega), fun p q hp hq hne => h.sub.inj _ _ (by unfold skip; split <;> omega) (by unfold skip; split <;> omega) (fun e1 => hne (skip_inj e1))⟩
            · rw [dropI_row T i q (by omega)]; exact h.sub.row _ (by unfold skip; split <;> omega)
            · rw [dropI_bas T i q (by omega)]; exact h.sub.bas _ (by unfold skip; split <;> omega)
          · refine hout m hm (fun q hq hne => ?_)
            have := hno (unskip i q) (by unfold unskip; split <;> omega)
            rwa [skip_unskip hne] at this
          · have : skip i q = q := by unfold skip; rw [if_pos hq]
            simp only [this]
            exact h.seen q hq (by omega)
        · rw [h1, if_neg (by omega)]
          rw [show ((j : Int)).toNat = j by rfl]
          rw [hsets] at h2
          have hee : T.ent i j = H.ent (e i) j := h.sub.ent hlt j
          have hz0 : H.ent (e i) H.last = 0 := by
            have eL : H.last = ss.length + n := by unfold Tab.last; rw [h.sets, h.nn]
            rw [eL]; exact h.flat _ hslot hJ
          have eL1 : H.last + 1 = ss.length + n + 1 := by unfold Tab.last; rw [h.sets, h.nn]
          by_cases hneg : T.ent i j < 0
          · rw [if_pos hneg]
            have hlen : (pivotP (negP T i) i j).rows.length = T.rows.length := by simp [pivotP, stepTo]; exact negTo_len _ _ _
            have hsub : SubOf n (pivotP (negP H (e i)) (e i) j) e (pivotP (negP T i) i j) := (h.sub.negS hR hlt).pivot' (by rw [negP, negTo_len]; exact hR.len) hR.blen (by rw [negP, negTo_len]; exact hlt)
            refine readyG_spec hn f e (pivotP (negP H (e i)) (e i) j) (pivotP (negP T i) i j) (i + 1) (h.pivot hlt hJ h2 _ _ ⟨-s, hR.negPivot hslot (by omega) (by omega) hz0⟩ hsub h.sets h.nn (fun m => pivot_J hR hslot m) (fun m l hh => by rw [negPivot_ent hR hslot, hh]; rfl) hlen (fun y => ?_)) (by omega) (by omega)
            rw [← eL1]
            exact hR.ker_neg hslot (by omega) y
          · rw [if_neg hneg]
            have hlen : (pivotP T i j).rows.length = T.rows.length := by simp [pivotP, stepTo]
            refine readyG_spec hn f e (pivotP H (e i) j) (pivotP T i j) (i + 1) (h.pivot hlt hJ h2 _ _ ⟨s, hR.pivot0 hslot (by omega) (by omega) hz0⟩ (h.sub.pivot hR hlt) h.sets h.nn (fun m => pivot_J hR hslot m) (fun m l hh => hh) hlen (fun y => ?_)) (by omega) (by omega)
            rw [← eL1]
            exact hR.ker_pivot' hslot (by omega) y
    · rw [if_neg hlt]
      obtain rfl : i = T.rows.length := by omega
      exact ⟨T, e, H, rfl, h⟩

/-- What is shown after ready: a tableau for greatest. -/
structure Std (n : Nat) (ss : List Int) (e : Nat → Nat) (H T : Tab) : Prop where
  rep : ∃ s c, Rep n (Fof n (colOf n ss)) s c ss.length H
  sub : SubOf n H e T
  sets : H.sets = ss.length
  nn : H.n = n
  dead : DeadOut n H e T.rows.length ss.length
  seen : ∀ q, q < T.basis.length → ith T.basis q < ss.length
  ker : ∀ y, Ker n (ss.length + n + 1) H.ent y ↔ Ker n (ss.length + n + 1) (tabK n ss n).ent y
theorem Rdy.std {n : Nat} {ss : List Int} {e : Nat → Nat} {H T : Tab} (h : Rdy n ss e H T T.rows.length) : Std n ss e H T := by
  obtain ⟨s, hR⟩ := h.rep
  have eL : H.last = ss.length + n := by unfold Tab.last; rw [h.sets, h.nn]
  refine ⟨⟨s, cost1 ss.length n, hR.len, hR.blen, hR.wid, hR.glen, hR.plu, hR.goal, hR.feas, hR.bas, fun m hm hc => ?_, hR.bnd, hR.cst, hR.one, hR.seven, hR.sets, hR.n, by omega⟩, h.sub, h.sets, h.nn, fun m hm hno => ?_, fun q hq => ?_, h.ker⟩
  · refine (h.out m hm (fun q hq e1 => ?_)).2
    have := h.seen q hq hq
    rw [e1] at this; omega
  · have := h.out m hm hno
    exact ⟨this.2, by rw [eL]; exact h.flat m hm this.1, this.1⟩
  · rw [h.sub.blen] at hq
    have h1 := h.seen q hq hq
    have h2 := h.sub.bas q hq
    have h3 := (hR.bas _ (h.sub.slot q hq)).1
    have h4 : H.J (e q) = (ith H.basis (e q)).toNat := rfl
    omega
/-- ready, of weights. -/
theorem readyQ_spec (n : Nat) (ss : List Int) (hn : 1 ≤ n ∧ n ≤ 7) (hs : ss.length ≤ 128) : ∃ f o, readyQ f (tabK n ss n) = some o ∧ ((∃ w D, IsW n ss w D) ↔ o ≠ none) ∧ ∀ T, o = some T → ∃ e H, Std n ss e H T := by
  obtain ⟨f, T1, hr⟩ := phase1_ends n ss hn hs
  have hm : ∀ g, f ≤ g → runP (ss.length + n) g (tabK n ss n) = some T1 := fun g hg => run_more _ f g _ _ hg hr
  obtain ⟨p1, p2, p3, p4, p5⟩ := phase1_spec hn hs hr
  by_cases h0 : ith T1.goal (ss.length + n) = 0
  · obtain ⟨H, hR⟩ := p5 h0
    obtain ⟨T', e', H', q1, q2⟩ := readyG_spec hn.1 (max f (T1.rows.length + 1)) id H T1 0 hR (by omega) (by omega)
    refine ⟨max f (T1.rows.length + 1), some T', ?_, by rw [p4]; simp [h0], fun T hT => ?_⟩
    · unfold readyQ
      have e1 : (tabK n ss n).sets = ss.length := rfl
      have e2 : (tabK n ss n).n = n := rfl
      rw [e1, e2, hm _ (by omega)]
      simp only []
      rw [if_pos ⟨p1, p2, p3⟩, if_pos h0, q1]; rfl
    · obtain rfl := Option.some.inj hT
      exact ⟨e', H', q2.std⟩
  · refine ⟨f, none, ?_, by rw [p4]; simp [h0], fun T hT => by simp at hT⟩
    unfold readyQ
    have e1 : (tabK n ss n).sets = ss.length := rfl
    have e2 : (tabK n ss n).n = n := rfl
    rw [e1, e2, hr]
    simp only []
    rw [if_pos ⟨p1, p2, p3⟩, if_neg h0]
/-- The costs of the greatest weight. -/
def costS (set l : Nat) : Int := if l = set then -1 else 0
theorem sm_cost {N : Nat} {J : Nat → Nat} {R : Nat → Nat → Int} {set l : Nat} : (sm N fun m => costS set (J m) * R m l) = - sm N fun m => if J m = set then R m l else 0 := by
  rw [← sm_neg]
  refine sm_congr N (fun m _ => ?_)
  unfold costS
  split <;> omega
theorem Std.goal {n : Nat} {ss : List Int} {e : Nat → Nat} {H T : Tab} (h : Std n ss e H T) {set : Nat} (hset : set < ss.length) :
    (∃ s, Rep n (Fof n (colOf n ss)) s (costS set) ss.length { H with goal := goal0 T set }) ∧ SubOf n { H with goal := goal0 T set } e { T with goal := goal0 T set } := by
  obtain ⟨s, c, hR⟩ := h.rep
  have hS := h.sub.small hR
  have hsets := h.sub.sets.trans h.sets
  have hnn := h.sub.n.trans h.nn
  have hTw : T.wide = H.wide := h.sub.wide
  have hbl := h.sub.blen
  have hin : ∀ m, m < n → H.J m = set → ∃ q, q < T.rows.length ∧ e q = m := fun m hm hJ => by
    refine Classical.byContradiction fun hno => ?_
    have := (h.dead m hm (fun q hq e1 => hno ⟨q, hq, e1⟩)).2.2
    omega
  have hgl : (goal0 T set).length = H.wide ∧ ∀ l, l < H.wide → ith (goal0 T set) l = gl n (costS set) H.J H.ent H.den l := by
    unfold goal0
    rcases firstI_spec (eqB set) T.basis with ⟨h1, h2⟩ | ⟨q, h1, h2, h3, h4⟩
    · rw [if_pos h1]
      refine ⟨by simp [hTw], fun l hl => ?_⟩
      unfold gl
      rw [sm_cost, sm_all0 n (fun m hm => if_neg fun hJ => by
        obtain ⟨q, hq, e1⟩ := hin m hm hJ
        have h3 := h2 q (by omega)
        have h4 := h.sub.bas q hq
        have h5 := (hR.bas m hm).1
        have h6 : H.J m = (ith H.basis m).toNat := rfl
        rw [e1] at h4
        simp only [eqB, beq_eq_false_iff_ne, ne_eq] at h3
        omega), ith_set _ _ _ _ (by simp; unfold Tab.wide; omega)]
      unfold costS
      by_cases e1 : l = set
      · rw [if_pos e1, if_pos e1, h.sub.den]; omega
      · rw [if_neg e1, if_neg e1]
        simp [ith, hTw, hl]
    · rw [if_neg (by omega), h1]
      rw [show ((q : Int)).toNat = q by rfl]
      have hq : q < T.rows.length := by omega
      have hrl := (hS.row q hq).len
      have hJq : H.J (e q) = set := by
        have h4 := h.sub.bas q hq
        have h6 : H.J (e q) = (ith H.basis (e q)).toNat := rfl
        simp only [eqB, beq_iff_eq] at h3
        omega
      refine ⟨by rw [List.length_set]; omega, fun l hl => ?_⟩
      rw [ith_set _ _ _ _ (by rw [hrl]; unfold Tab.wide; omega)]
      have hsum : (sm n fun m => costS set (H.J m) * H.ent m l) = - H.ent (e q) l := by
        rw [sm_cost, sm_congr n (g := fun m => if m = e q then H.ent m l else 0) (fun m hm => by
          by_cases e1 : m = e q
          · rw [if_pos (by rw [e1]; exact hJq), if_pos e1]
          · rw [if_neg e1]
            refine if_neg fun hJ => ?_
            have := hR.plu.alt.same H.J (e q) m (h.sub.slot q hq) hm (Ne.symm e1) (hJq.trans hJ.symm)
            have h3 := hR.plu.val
            have h4 := hR.feas.pos
            rw [this] at h3
            omega), sm_one (e q) (fun m => H.ent m l), if_pos (h.sub.slot q hq)]
      unfold gl
      rw [hsum]
      unfold costS
      by_cases e1 : l = set
      · rw [if_pos e1, if_pos e1, e1]
        have := hR.plu.unit (h.sub.slot q hq) (h.sub.slot q hq)
        rw [hJq, if_pos rfl] at this
        rw [this]; omega
      · rw [if_neg e1, if_neg e1]
        have := h.sub.ent hq l
        unfold Tab.ent at this ⊢
        omega
  refine ⟨⟨s, hR.len, hR.blen, hR.wid, hgl.1, hR.plu, hgl.2, hR.feas, hR.bas, hR.dead, hR.bnd, fun l => by unfold costS; split <;> omega, hR.one, hR.seven, hR.sets, hR.n, hR.colsLe⟩, h.sub.sets, h.sub.n, h.sub.den, rfl, h.sub.blen, h.sub.one, h.sub.row, h.sub.bas, h.sub.slot, h.sub.inj⟩
theorem weighP_at (T : Tab) (hb : ∀ q, q < T.rows.length → 0 ≤ ith T.basis q ∧ ith T.basis q < T.sets) (hd : ∀ p q, p < T.rows.length → q < T.rows.length → p ≠ q → ith T.basis p ≠ ith T.basis q) : ∀ k, k ≤ T.rows.length → ∀ l, l < T.sets → (∀ q, q < k → ith T.basis q = l → ith (weighP T k) l = T.ent q (T.sets + T.n)) ∧ ((∀ q, q < k → ith T.basis q ≠ l) → ith (weighP T k) l = 0)
  | 0, _, l, hl => ⟨fun q hq => by omega, fun _ => by simp [weighP, ith, hl]⟩
  | k + 1, hk, l, hl => by
    obtain ⟨i1, i2⟩ := weighP_at T hb hd k (by omega) l hl
    have hbk := hb k (by omega)
    rw [weighP_succ, ith_set _ _ _ _ (by rw [weighP_length]; omega)]
    refine ⟨fun q hq he => ?_, fun hno => ?_⟩
    · by_cases e : q = k
      · subst e; rw [if_pos (by omega)]
      · have := hd q k (by omega) (by omega) e
        rw [if_neg (by omega)]
        exact i1 q (by omega) he
    · have := hno k (by omega)
      rw [if_neg (by omega)]
      exact i2 (fun q hq => hno q (by omega))
/-- What the shown tableau weighs. -/
theorem Std.weigh {n : Nat} {ss : List Int} {e : Nat → Nat} {H T : Tab} (h : Std n ss e H T) : (∀ l, l < ss.length → ith (weighP T T.rows.length) l = solY n H l) ∧ IsW n ss (ith (weighP T T.rows.length)) T.den ∧ T.den ≤ 5040 ∧ ∀ l, l < ss.length → ith (weighP T T.rows.length) l ≤ 5040 := by
  obtain ⟨s, c, hR⟩ := h.rep
  have hsets := h.sub.sets.trans h.sets
  have hnn := h.sub.n.trans h.nn
  have hbl := h.sub.blen
  have eL : H.last = ss.length + n := by unfold Tab.last; rw [h.sets, h.nn]
  have hb : ∀ q, q < T.rows.length → 0 ≤ ith T.basis q ∧ ith T.basis q < T.sets := fun q hq => by
    have h1 := h.seen q (by omega)
    have h2 := h.sub.bas q hq
    have h3 := (hR.bas _ (h.sub.slot q hq)).1
    omega
  have hJ : ∀ q, q < T.rows.length → ((H.J (e q) : Nat) : Int) = ith T.basis q := fun q hq => by
    have h2 := h.sub.bas q hq
    have h6 : H.J (e q) = (ith H.basis (e q)).toNat := rfl
    have := hb q hq
    omega
  have hd : ∀ p q, p < T.rows.length → q < T.rows.length → p ≠ q → ith T.basis p ≠ ith T.basis q := fun p q hp hq hne e1 => by
    have h1 := hJ p hp
    have h2 := hJ q hq
    have := hR.plu.alt.same H.J (e p) (e q) (h.sub.slot p hp) (h.sub.slot q hq) (h.sub.inj p q hp hq hne) (by omega)
    have h3 := hR.plu.val
    have h4 := hR.feas.pos
    rw [this] at h3
    omega
  have hval : ∀ l, l < ss.length → ith (weighP T T.rows.length) l = solY n H l := fun l hl => by
    obtain ⟨w1, w2⟩ := weighP_at T hb hd T.rows.length (Nat.le_refl _) l (by omega)
    by_cases hi : ∃ q, q < T.rows.length ∧ ith T.basis q = l
    · obtain ⟨q, hq, e1⟩ := hi
      rw [w1 q hq e1, h.sub.ent hq, hsets, hnn]
      have h1 := hJ q hq
      have h2 : H.J (e q) = l := by omega
      rw [← h2, hR.sol_at (h.sub.slot q hq), eL]
    · have hnot : ¬ In n H.J l := fun ⟨m, hm, e1⟩ => by
        have : ∃ q, q < T.rows.length ∧ e q = m := Classical.byContradiction fun hno => by
          have := (h.dead m hm (fun q hq e2 => hno ⟨q, hq, e2⟩)).2.2
          omega
        obtain ⟨q, hq, rfl⟩ := this
        exact hi ⟨q, hq, by have := hJ q hq; omega⟩
      rw [w2 (fun q hq e1 => hi ⟨q, hq, e1⟩), hR.sol_out (by omega) hnot]
  have hk := hR.sol_ker
  rw [eL] at hk
  have hk2 := (h.ker _).1 hk
  have hw := ker_isW (D := H.den) hk2 (fun l hl => hR.sol_nonneg (by omega)) (fun r hr => by
    by_cases hi : In n H.J (ss.length + r)
    · obtain ⟨m, hm, e1⟩ := hi
      rw [← e1, hR.sol_at hm]
      refine (h.dead m hm (fun q hq e2 => ?_)).2.1
      have h1 := hJ q hq
      have h2 := hb q hq
      rw [e2] at h1; omega
    · exact hR.sol_out (by omega) hi) (by have := hR.sol_last; rwa [eL] at this) hR.feas.pos
  refine ⟨hval, ⟨by rw [h.sub.den]; exact hw.pos, fun k hk => by rw [hval k hk]; exact hw.low k hk, fun r hr => ?_⟩, by rw [h.sub.den]; exact hR.den_bnd.2, fun l hl => ?_⟩
  · rw [h.sub.den, ← hw.all r hr]
    exact sm_congr _ (fun k hk => by rw [hval k hk])
  · rw [hval l hl]
    by_cases hi : In n H.J l
    · obtain ⟨m, hm, e1⟩ := hi
      rw [← e1, hR.sol_at hm]; exact (hR.ent_bnd hm _).2
    · rw [hR.sol_out (by omega) hi]; omega
/-- greatest, of weights. -/
theorem great_spec {n : Nat} {ss : List Int} {e : Nat → Nat} {H T : Tab} (h : Std n ss e H T) {set : Nat} (hset : set < ss.length) (hne : ∃ r, r < n ∧ inB (ith ss set) r = 1) :
    ∃ f T2 H2, greatestP f set T = some (T2, weighP T2 T2.rows.length) ∧ Std n ss e H2 T2 ∧ ∀ w D, IsW n ss w D → w set * T2.den ≤ ith (weighP T2 T2.rows.length) set * D := by
  obtain ⟨⟨s, hR⟩, hS⟩ := h.goal hset
  have eL : H.last = ss.length + n := by unfold Tab.last; rw [h.sets, h.nn]
  have eL2 : Tab.last { H with goal := goal0 T set } = ss.length + n := eL
  have hsets := h.sub.sets.trans h.sets
  have hnn := h.sub.n.trans h.nn
  have hcl : ss.length ≤ H.last := by omega
  have hker : ∀ y, Ker n (ss.length + n + 1) (Tab.ent { H with goal := goal0 T set }) y ↔ Ker n (ss.length + n + 1) (tabK n ss n).ent y := h.ker
  have hdead : DeadOut n { H with goal := goal0 T set } e (Tab.rows { T with goal := goal0 T set }).length ss.length := h.dead
  have hray : NoRay n ss.length (costS set) { H with goal := goal0 T set } := by
    intro y hk h0 hl hz
    rw [eL2] at hk h0 hl hz ⊢
    obtain ⟨r, hr, hin⟩ := hne
    have h1 := (ker_start n ss y).1 ((hker y).1 hk) r hr
    rw [hl, hz _ (by omega) (by omega)] at h1
    have h2 := sm_eq0 (f := fun k => inB (ith ss k) r * y k) ss.length (fun k hk => Int.mul_nonneg (by have := inB_01 (ith ss k) r; omega) (h0 k (by omega))) (by omega) set hset
    simp only [hin, Int.one_mul] at h2
    rw [sm_all0 _ (fun l hl => by
      unfold costS
      by_cases e1 : l = set
      · rw [e1, h2, Int.mul_zero]
      · rw [if_neg e1, Int.zero_mul])]
    exact Int.le_refl _
  obtain ⟨f, T2, hr⟩ := run_ends hR hS hdead hray
  obtain ⟨H2, r1, r2, r3, r4, r5, r6, r7, r8⟩ := run_spec f _ T2 _ hR hS hdead hray hr
  rw [eL2] at r8
  have hseen := basis_run ss.length ss.length f _ T2 (show ∀ q, q < (Tab.basis { T with goal := goal0 T set }).length → ith (Tab.basis { T with goal := goal0 T set }) q < ss.length from h.seen) (Int.le_refl _) hr
  have q6 : H2.sets = ss.length := r6.trans h.sets
  have q7 : H2.n = n := r7.trans h.nn
  have hStd : Std n ss e H2 T2 := ⟨⟨s, _, r1⟩, r2, q6, q7, r3, hseen, fun y => (r8 y).trans (hker y)⟩
  have eL3 : H2.last = ss.length + n := by unfold Tab.last; rw [q6, q7]
  have t6 := r2.sets.trans q6
  have t7 := r2.n.trans q7
  refine ⟨f, T2, H2, ?_, hStd, fun w D hw => ?_⟩
  · unfold greatestP
    rw [← hsets] at hr
    rw [hr]
    simp only []
    rw [if_pos ⟨Tab.sm_of (r2.small r1), by rw [t6, hsets], by rw [t7, hnn], by
      simp only [List.all_eq_true, decide_eq_true_eq]
      intro x hx
      obtain ⟨k, hk, rfl⟩ := List.getElem_of_mem hx
      have := hseen k hk
      rw [show ith T2.basis k = T2.basis[k] by simp [ith, hk]] at this
      omega⟩]
  · have hk := (hStd.ker _).2 hw.ker
    have hq := ker_goal (c := costS set) (J := H2.J) (b := H2.den) hk
    rw [wy_sum, wy_sum] at hq
    have z1 : (sm ss.length fun k => costS set k * w k) = - w set := by
      rw [sm_congr _ (g := fun k => if k = set then - w k else 0) (fun k _ => by
        unfold costS
        by_cases e1 : k = set
        · rw [if_pos e1, if_pos e1]; omega
        · rw [if_neg e1, if_neg e1, Int.zero_mul]), sm_one set (fun k => - w k), if_pos hset]
    have z2 : costS set (ss.length + n) = 0 := by unfold costS; rw [if_neg (by omega)]
    have z3 : gl n (costS set) H2.J H2.ent H2.den (ss.length + n) = solY n H2 set := by
      unfold gl
      rw [z2, sm_cost]
      unfold solY
      rw [if_neg (by omega)]
      have : (sm n fun m => if set = H2.J m then - H2.ent m H2.last else 0) = - sm n fun m => if H2.J m = set then H2.ent m (ss.length + n) else 0 := by
        rw [← sm_neg]
        refine sm_congr n (fun m _ => ?_)
        rw [eL3]
        by_cases e1 : H2.J m = set
        · rw [if_pos e1, if_pos e1.symm]
        · rw [if_neg e1, if_neg (Ne.symm e1)]; rfl
      rw [this]; omega
    rw [z1, z2, z3] at hq
    rw [hStd.weigh.1 set hset, r2.den]
    have z4 := sm_ge0 (f := fun k => gl n (costS set) H2.J H2.ent H2.den k * w k) ss.length (fun k hk => Int.mul_nonneg (r5 k hk) (hw.low k hk))
    simp only [Int.zero_mul, Int.sub_zero, Int.mul_neg] at hq
    have z5 : H2.den * w set = w set * H2.den := Int.mul_comm _ _
    omega
end Go.Proofs.Ytcngecibljgndaa
