/- Inspect: Min, Index. -/
import Derived.Test.YtefmioppamdceaaDoorMIK
import Derived.Test.YtefmioppamdceaaDoorMIC
import Derived.Test.YtefmioppamdceaaDoorMIPA
namespace Go.Proofs.YtefmioppamdceaaDoor
open Go.RowKit Go.Shelf

/-- The least of the first numbers. -/
def minT (xs : List Int) : Nat → Int
  | 0 => ith xs 0
  | k + 1 => min (minT xs k) (ith xs k)
theorem minT_le (xs : List Int) : ∀ k j, j < k → minT xs k ≤ ith xs j
  | 0, j, h => absurd h (by omega)
  | k + 1, j, h => by
    rw [minT]
    by_cases e : j = k
    · subst e; omega
    · have := minT_le xs k j (by omega); omega
theorem minT_in (xs : List Int) : ∀ k, minT xs k = ith xs 0 ∨ ∃ j, j < k ∧ minT xs k = ith xs j
  | 0 => .inl rfl
  | k + 1 => by
    rw [minT]
    rcases Int.le_total (minT xs k) (ith xs k) with h | h
    · rw [Int.min_eq_left h]
      rcases minT_in xs k with h1 | ⟨j, hj, h1⟩
      · exact .inl h1
      · exact .inr ⟨j, by omega, h1⟩
    · rw [Int.min_eq_right h]
      exact .inr ⟨k, by omega, rfl⟩
set_option maxRecDepth 100000 in
set_option maxHeartbeats 1000000 in
theorem min_calls (w : World) (ao : Option Addr) (cap : Nat) (xs : List Int) (hI : IntsIn w ao xs) (h0 : 0 < xs.length) (hl : xs.length ≤ 100000) :
    Calls Tryd.prog 51 #[.slice ao xs.length cap] w fun e w' => e = .returned (.int .i64 (minT xs xs.length)) ∧ Ext w w' := by
  obtain ⟨b0, off0, hao, hb0, hc0⟩ := hI 0 h0
  rw [Nat.add_zero] at hc0
  have hl1 : ¬ (xs.length : Int) < 1 := by omega
  have hl2 : (0 : Int) < (xs.length : Int) := by omega
  have H1 : Hid (minT xs 1 = ith xs 0) := Lib.hid (by rw [minT, minT]; omega)
  subst hao
  go_enter Tryd.func51, Tryd.ntmps51
  go_wp2_with fail
  go_loopw [3, 4] (fun mv i wr => ∃ k : Nat, 1 ≤ k ∧ k ≤ xs.length ∧ i = .int .i64 k ∧ mv = .int .i64 (minT xs k) ∧ Ext w wr) (fun _ i _ => xs.length - (intOf i).toNat)
  case atStart => exact ⟨1, by omega, by omega, rfl, by rw [H1.out], (by repeat (first | exact Ext.refl _ | assumption | refine Ext.alloc ?_ _ | refine Ext.drewN ?_ _ | refine Ext.drew ?_))⟩
  case round =>
    obtain ⟨k, hk1, hk, rfl, rfl, hx⟩ := hrel
    by_cases hlt : k < xs.length
    · obtain ⟨b, off, hao, hb, hc⟩ := hI.ext hx k hlt
      simp only [Option.some.injEq, Addr.mk.injEq, and_true] at hao
      obtain ⟨rfl, rfl⟩ := hao
      have hM : Hid (min (minT xs k) (ith xs k) = minT xs (k + 1)) := Lib.hid rfl
      go_wp2_with fail
      exact ⟨⟨k + 1, by omega, by omega, rfl, by rw [hM.out], hx⟩, by simp only [intOf]; omega⟩
    · obtain rfl : k = xs.length := by omega
      go_wp2_with fail
      go_ret
      exact ⟨rfl, hx⟩
set_option maxRecDepth 100000 in
set_option maxHeartbeats 1000000 in
theorem index_calls (w : World) (ao : Option Addr) (cap : Nat) (xs : List Int) (v : Int) (hI : IntsIn w ao xs) (hl : xs.length ≤ 100000) :
    Calls Tryd.prog 55 #[.slice ao xs.length cap, .int .i64 v] w fun e w' => e = .returned (.int .i64 (firstL (fun x => x == v) xs)) ∧ Ext w w' := by
  go_enter Tryd.func55, Tryd.ntmps55
  go_wp2_with fail
  go_loopw [8] (fun i wr => ∃ k : Nat, k ≤ xs.length ∧ i = .int .i64 k ∧ Ext w wr ∧ Hid (∀ j, j < k → (ith xs j == v) = false)) (fun i _ => xs.length - (intOf i).toNat)
  case atStart => exact ⟨0, by omega, rfl, Ext.refl _, Lib.hid (fun j hj => by omega)⟩
  case round =>
    obtain ⟨k, hk, rfl, hx, HN⟩ := hrel
    by_cases hlt : k < xs.length
    · obtain ⟨b, off, rfl, hb, hc⟩ := hI.ext hx k hlt
      obtain ⟨y, hy⟩ : ∃ y, y = ith xs k := ⟨_, rfl⟩
      rw [← hy] at hc
      have HY := Lib.hid hy
      clear hy
      by_cases he : y = v
      · have hvy : (v == y) = true := by simp [he]
        have HE := Lib.hid he
        clear he
        go_wp2_with fail
        go_ret
        exact ⟨ret_int (firstL_hit hlt (by rw [← ith_get, ← HY.out, HE.out]; simp) (fun j hj => by rw [← ith_get]; exact HN.out j hj)).symm, hx⟩
      · have hvy : (v == y) = false := by simp; omega
        have HE := Lib.hid he
        clear he
        go_wp2_with fail
        refine ⟨⟨k + 1, by omega, rfl, hx, Lib.hid (fun j hj => ?_)⟩, by simp only [intOf]; omega⟩
        rcases Nat.lt_or_ge j k with h | h
        · exact HN.out j h
        · rw [show j = k by omega, ← HY.out]; simp [HE.out]
    · go_wp2_with fail
      go_ret
      exact ⟨ret_int (firstL_none (fun j hj => by rw [← ith_get]; exact HN.out j (by omega))).symm, hx⟩
end Go.Proofs.YtefmioppamdceaaDoor

/- Inspect: less; the closure of run, IndexFunc with it. -/
namespace Go.Proofs.YtefmioppamdceaaDoor
open Go.RowKit Go.Shelf

/-- The five cells that a product of two entries reads. -/
def Cells5 (t rg rc m a b : Nat) (L ba bb p q x y : Nat) (w' : World) : Prop :=
  w'.cell? ⟨t, 0, none⟩ = some (.slice (some ⟨rg, 0, none⟩) m rc) ∧ w'.cell? ⟨rg, a, none⟩ = some (.slice (some ⟨ba, 0, none⟩) L L) ∧ w'.cell? ⟨rg, b, none⟩ = some (.slice (some ⟨bb, 0, none⟩) L L) ∧ w'.cell? ⟨ba, p, none⟩ = some (.pointer (some ⟨x, 0, none⟩)) ∧ w'.cell? ⟨bb, q, none⟩ = some (.pointer (some ⟨y, 0, none⟩))
theorem Cells5.ext {t rg rc m a b L ba bb p q x y : Nat} {w w' : World} (h : Cells5 t rg rc m a b L ba bb p q x y w) (ht : t < w.heap.size) (hr : rg < w.heap.size) (h1 : ba < w.heap.size) (h2 : bb < w.heap.size) (hx : Ext w w') : Cells5 t rg rc m a b L ba bb p q x y w' :=
  ⟨(hx.cell (p := ⟨t, 0, none⟩) ht).trans h.1, (hx.cell (p := ⟨rg, a, none⟩) hr).trans h.2.1, (hx.cell (p := ⟨rg, b, none⟩) hr).trans h.2.2.1, (hx.cell (p := ⟨ba, p, none⟩) h1).trans h.2.2.2.1, (hx.cell (p := ⟨bb, q, none⟩) h2).trans h.2.2.2.2⟩
set_option maxRecDepth 100000 in
set_option maxHeartbeats 8000000 in
theorem gless_calls (w : World) (B : Nat) (P : GAt) (n last : Nat) (T : GT) (a b j : Nat) (hT : TabG w B P n (last + 1) T) (ha : a < n) (hb : b < n) (hj : j < last + 1) (hn : n ≤ 1000) (hL : last ≤ 1000) (hS : SmG n (last + 1) T) (hJ : ∀ i, i < n → T.J i ≤ 1000000) :
    Calls Tryd.prog 87 #[.pointer (some ⟨P.t, 0, none⟩), .int .i64 a, .int .i64 b, .int .i64 j] w fun e w' => e = .returned (.bool (decide (lessG T last a b j))) ∧ Ext w w' := by
  obtain ⟨b0, hc00, hB0⟩ := hT.rowC 0 (by omega)
  obtain ⟨ba, hca, hBa⟩ := hT.rowC a (by omega)
  obtain ⟨bb, hcb, hBb⟩ := hT.rowC b (by omega)
  obtain ⟨x1, hcx1, hX1⟩ := hBa.ent last (by omega)
  obtain ⟨y1, hcy1, hY1⟩ := hBb.ent j hj
  obtain ⟨x2, hcx2, hX2⟩ := hBb.ent last (by omega)
  obtain ⟨y2, hcy2, hY2⟩ := hBa.ent j hj
  have hc0 := hT.c0
  have ht2 := hT.tIn.2
  have hr2 := hT.rgIn.2
  have hcaps := hT.caps
  have H1 := Lib.hid (hS.ent a last (by omega) (by omega))
  have H2 := Lib.hid (hS.ent b j (by omega) hj)
  have H3 := Lib.hid (hS.ent b last (by omega) (by omega))
  have H4 := Lib.hid (hS.ent a j (by omega) hj)
  have HF1 : Hid (Cells5 P.t P.rg P.rc (n + 1) a b (last + 1) ba bb last j x1 y1 w) := Lib.hid ⟨hc0, hca, hcb, hcx1, hcy1⟩
  have HF2 : Hid (Cells5 P.t P.rg P.rc (n + 1) b a (last + 1) bb ba last j x2 y2 w) := Lib.hid ⟨hc0, hcb, hca, hcx2, hcy2⟩
  have hal := hBa.lt
  have hbl := hBb.lt
  have hl1 : (last : Int) < (last : Int) + 1 := by omega
  have hj1 : (j : Int) < (last : Int) + 1 := by omega
  have ha1 : (a : Int) < (n : Int) + 1 := by omega
  have hb1 : (b : Int) < (n : Int) + 1 := by omega
  have hw1 : ((last + 1 : Nat) : Int) - 1 = (last : Int) := by omega
  clear hca hcb hcx1 hcy1 hcx2 hcy2
  go_enter Tryd.func87, Tryd.ntmps87
  go_wp2_with fail
  have hm1 := fun W (hxW : Ext w W) (hsp : IntSpot W w.heap.size) => (imul_calls W w.heap.size x1 y1 _ _ hsp (hX1.ext hxW) (hY1.ext hxW) H1.out H2.out (by have := hX1.spot.lt; omega) (by have := hY1.spot.lt; omega)).mono (R' := SetRes w w.heap.size (T.R a last * T.R b j)) (fun e w' h => MutRes.set hxW (Nat.le_refl _) h)
  go_region_held3 (fun w' => w'.cell? ⟨P.t, 0, none⟩ = some (.slice (some ⟨P.rg, 0, none⟩) (n + 1) P.rc) ∧ w'.cell? ⟨P.rg, a, none⟩ = some (.slice (some ⟨ba, 0, none⟩) (last + 1) (last + 1)) ∧ w'.cell? ⟨P.rg, b, none⟩ = some (.slice (some ⟨bb, 0, none⟩) (last + 1) (last + 1)) ∧ w'.cell? ⟨ba, last, none⟩ = some (.pointer (some ⟨x1, 0, none⟩)) ∧ w'.cell? ⟨bb, j, none⟩ = some (.pointer (some ⟨y1, 0, none⟩)))
    (exact HF1.out.ext ht2 hr2 hal hbl (show Ext w _ from (by repeat (with_reducible first | exact Ext.refl _ | assumption | refine Ext.alloc ?_ _ | refine Ext.drew ?_))))
    ((go_at_call 57; (with_reducible refine Calls.mono (hm1 _ ?_ ?_) ?_); (exact (by repeat (with_reducible first | exact Ext.refl _ | assumption | refine Ext.alloc ?_ _ | refine Ext.drew ?_))); (first | exact IntSpot.ofNew _ _ | exact (IntSpot.ofNew _ _).ext ((Ext.refl _).drew)); rintro e w3 ⟨rfl, hx3, hM3⟩))
  rename_i hHeld
  clear hHeld hm1
  have hN3 := hM3.spot.lt
  obtain ⟨N, hN⟩ : ∃ N, N = w.heap.size := ⟨_, rfl⟩
  rw [← hN] at hM3 hN3 ⊢
  clear hN
  have hm2 := fun W (hxW : Ext w3 W) (hsp : IntSpot W w3.heap.size) => (imul_calls W w3.heap.size x2 y2 _ _ hsp ((hX2.ext hx3).ext hxW) ((hY2.ext hx3).ext hxW) H3.out H4.out (by have := (hX2.ext hx3).spot.lt; omega) (by have := (hY2.ext hx3).spot.lt; omega)).mono (R' := SetRes w3 w3.heap.size (T.R b last * T.R a j)) (fun e w' h => MutRes.set hxW (Nat.le_refl _) h)
  go_wp2_with fail
  go_region_held3 (fun w' => w'.cell? ⟨P.t, 0, none⟩ = some (.slice (some ⟨P.rg, 0, none⟩) (n + 1) P.rc) ∧ w'.cell? ⟨P.rg, b, none⟩ = some (.slice (some ⟨bb, 0, none⟩) (last + 1) (last + 1)) ∧ w'.cell? ⟨P.rg, a, none⟩ = some (.slice (some ⟨ba, 0, none⟩) (last + 1) (last + 1)) ∧ w'.cell? ⟨bb, last, none⟩ = some (.pointer (some ⟨x2, 0, none⟩)) ∧ w'.cell? ⟨ba, j, none⟩ = some (.pointer (some ⟨y2, 0, none⟩)))
    (exact HF2.out.ext ht2 hr2 hbl hal (show Ext w _ from (by repeat (with_reducible first | exact Ext.refl _ | assumption | refine Ext.alloc ?_ _ | refine Ext.drew ?_))))
    ((go_at_call 57; (with_reducible refine Calls.mono (hm2 _ ?_ ?_) ?_); (exact (by repeat (with_reducible first | exact Ext.refl _ | assumption | refine Ext.alloc ?_ _ | refine Ext.drew ?_))); (first | exact IntSpot.ofNew _ _ | exact (IntSpot.ofNew _ _).ext ((Ext.refl _).drew)); rintro e w4 ⟨rfl, hx34, hM4⟩; have hx4 : Ext w w4 := hx3.trans hx34))
  rename_i hHeld
  clear hHeld hm2
  have hcc := icmp_calls w4 N w3.heap.size _ _ (hM3.ext hx34) hM4 (many_mul2 H1.out H2.out) (many_mul2 H3.out H4.out)
  have hcz := cmpZ_cases (T.R a last * T.R b j) (T.R b last * T.R a j)
  obtain ⟨cz, hczd⟩ : ∃ cz, cz = cmpZ (T.R a last * T.R b j) (T.R b last * T.R a j) := ⟨_, rfl⟩
  rw [← hczd] at hcc hcz
  clear hczd
  go_wp2_with fail
  refine hcc.mono ?_
  rintro e w5 ⟨rfl, hx45⟩
  have hx5 := hx4.trans hx45
  have hT5 := hT.ext hx5
  have hc1 := hT5.c1
  have ht5 := hT5.tIn.2
  have hg5 := hT5.bgIn.2
  have hba := (hT5.basC a ha).1
  have hbb := (hT5.basC b hb).1
  have HJa := hJ a ha
  have HJb := hJ b hb
  clear hcc
  rcases hcz with ⟨h1, rfl⟩ | ⟨h1, rfl⟩ | ⟨h1, rfl⟩
  · have HR : Hid (true = decide (lessG T last a b j)) := Lib.hid (by rw [eq_comm, decide_eq_true_eq]; exact .inl h1)
    clear h1
    have a1 := After.cell hc1 ht5
    have a2 := After.cell hba hg5
    have a3 := After.cell hbb hg5
    go_wp2_with fail
    refine wp_region_after (by kernel_rfl) (by kernel_rfl) ?_
    intro hne
    repeat (go_big_quiet_step (fail))
    refine wpQuiet_nil ?_
    intro w9 hx9
    have hx09 := hx5.trans hx9
    go_wp2_with fail
    go_ret
    exact ⟨ret_bool HR.out, hx09⟩
  · by_cases hlt : T.J a < T.J b
    · have HR : Hid (true = decide (lessG T last a b j)) := Lib.hid (by rw [eq_comm, decide_eq_true_eq]; exact .inr ⟨h1, hlt⟩)
      have hlt2 : (T.J a : Int) < (T.J b : Int) := by omega
      have hd : decide ((T.J a : Int) < (T.J b : Int)) = true := by simp [hlt]
      clear h1
      have a1 := After.cell hc1 ht5
      have a2 := After.cell hba hg5
      have a3 := After.cell hbb hg5
      go_wp2_with fail
      refine wp_region_after (by kernel_rfl) (by kernel_rfl) ?_
      intro hne
      repeat (go_big_quiet_step (fail))
      refine wpQuiet_nil ?_
      intro w9 hx9
      have hx09 := hx5.trans hx9
      go_wp2_with fail
      go_ret
      exact ⟨ret_bool HR.out, hx09⟩
    · have HR : Hid (false = decide (lessG T last a b j)) := Lib.hid (by
        rw [eq_comm, decide_eq_false_iff_not]
        rintro (h2 | ⟨-, h2⟩)
        · omega
        · exact hlt h2)
      have hd : decide ((T.J a : Int) < (T.J b : Int)) = false := by simp; omega
      clear h1
      have a1 := After.cell hc1 ht5
      have a2 := After.cell hba hg5
      have a3 := After.cell hbb hg5
      go_wp2_with fail
      refine wp_region_after (by kernel_rfl) (by kernel_rfl) ?_
      intro hne
      repeat (go_big_quiet_step (fail))
      refine wpQuiet_nil ?_
      intro w9 hx9
      have hx09 := hx5.trans hx9
      go_wp2_with fail
      go_ret
      exact ⟨ret_bool HR.out, hx09⟩
  · have HR : Hid (false = decide (lessG T last a b j)) := Lib.hid (by
      rw [eq_comm, decide_eq_false_iff_not]
      rintro (h2 | ⟨h2, -⟩) <;> omega)
    clear h1
    have a1 := After.cell hc1 ht5
    have a2 := After.cell hba hg5
    have a3 := After.cell hbb hg5
    go_wp2_with fail
    refine wp_region_after (by kernel_rfl) (by kernel_rfl) ?_
    intro hne
    repeat (go_big_quiet_step (fail))
    refine wpQuiet_nil ?_
    intro w9 hx9
    have hx09 := hx5.trans hx9
    go_wp2_with fail
    go_ret
    exact ⟨ret_bool HR.out, hx09⟩
end Go.Proofs.YtefmioppamdceaaDoor

/- The tableau of a game: its run ends, and where it ends; plain. -/
namespace Go.Proofs.YtefmioppamdceaaDoor

section
variable {n : Nat} {F : (Nat → Nat) → Int} {s : Int} {c : Nat → Int}
theorem Plu.same {J J' : Nat → Nat} {R R' : Nat → Nat → Int} {b : Int} (h : Plu n F J R b s) (hJ : ∀ m, m < n → J' m = J m) (hR : ∀ m l, m < n → R' m l = R m l) : Plu n F J' R' b s := by
  refine ⟨h.alt, h.sign, by rw [h.val, h.alt.only J' J hJ], fun m l hm => ?_, fun x k l hk => ?_⟩
  · rw [hR m l hm, h.row m l hm]
    congr 1
    refine h.alt.only _ _ (fun x hx => ?_)
    by_cases e : x = m
    · rw [e, upd_same, upd_same]
    · rw [upd_other _ _ e, upd_other _ _ e, hJ x hx]
  · rw [h.exp x k l hk]
    exact sm_congr _ (fun m hm => by rw [hR m l hm, hJ m hm])
end
/-- What a tableau of a game keeps. -/
structure Gm (n m : Nat) (A : Nat → Nat → Int) (T : GT) : Prop where
  plu : Plu n (Fof n fun l i => ent0 n m A i l) T.J T.R T.b 1
  goal : ∀ l, T.R n l = gl n (cost0 m) T.J T.R T.b l
  feas : Feas n (m + n) T.R T.b
  bas : ∀ i, i < n → T.J i < m + n
  ker : ∀ y, Ker n (m + n + 1) T.R y ↔ Ker n (m + n + 1) (fun i l => ent0 n m A i l) y
section
variable {n m : Nat} {A : Nat → Nat → Int} {T : GT}
theorem Gm.start (n m : Nat) (A : Nat → Nat → Int) : Gm n m A (GT.start n m A) := by
  have hp := plu_start n (fun l i => ent0 n m A i l) (fun i => m + i) (fun t r ht hr => by
    show ent0 n m A r (m + t) = _
    unfold ent0
    rw [if_neg (by omega), if_neg (by omega)]
    by_cases e : r = t
    · subst e; rw [if_pos rfl, if_pos rfl]
    · rw [if_neg (by omega), if_neg e])
  have hR : ∀ t l, t < n → (GT.start n m A).R t l = ent0 n m A t l := fun t l ht => by show (if t < n then _ else _) = _; rw [if_pos ht]
  refine ⟨hp.same (fun _ _ => rfl) hR, fun l => ?_, ⟨by show (0 : Int) < 1; decide, fun t ht => ?_⟩, fun i hi => by show m + i < _; omega, fun y => ?_⟩
  · have h0 : (sm n fun t => cost0 m ((GT.start n m A).J t) * (GT.start n m A).R t l) = 0 := sm_all0 n fun t ht => by
      have : cost0 m ((GT.start n m A).J t) = 0 := by show (if m + t < m then _ else _) = _; rw [if_neg (by omega)]
      rw [this, Int.zero_mul]
    unfold gl
    rw [h0, Int.sub_zero]
    show (if n < n then _ else cost0 m l) = 1 * cost0 m l
    rw [if_neg (by omega), Int.one_mul]
  · rw [hR t _ ht]; unfold ent0; rw [if_neg (by omega), if_pos rfl]; decide
  · refine ⟨fun h t ht => ?_, fun h t ht => ?_⟩
    · rw [← h t ht]; exact sm_congr _ (fun l _ => by rw [hR t l ht])
    · rw [← h t ht]; exact sm_congr _ (fun l _ => by rw [hR t l ht])
theorem Gm.pick (h : Gm n m A T) {i j : Nat} (hj : firstNeg (T.R n) (m + n) = some j) (hi : outG T (m + n) j n = some i) : Pick n (m + n) (m + n) (cost0 m) T.J T.R T.b i j := by
  have h1 := firstNeg_spec (T.R n) (m + n)
  rw [hj] at h1
  have h2 := outG_spec T (m + n) j n
  rw [hi] at h2
  obtain ⟨a1, a2, a3⟩ := h1
  obtain ⟨b1, b2, b3⟩ := h2
  exact ⟨a1, by rw [← h.goal]; exact a2, fun l hl => by rw [← h.goal]; exact a3 l hl, b1, b2, b3⟩
theorem Gm.goal_exact (h : Gm n m A T) {i j : Nat} (hi : i < n) (l : Nat) : T.R n l * T.R i j - T.R n j * T.R i l = T.b * gl n (cost0 m) (upd T.J i j) (pivR T.R T.b i j) (T.R i j) l := by
  rw [h.plu.gl_pivot (cost0 m) hi l, ← h.goal, ← h.goal]
theorem Gm.pivot (h : Gm n m A T) {i j : Nat} (hp : Pick n (m + n) (m + n) (cost0 m) T.J T.R T.b i j) : Gm n m A (T.pivot i j) := by
  have hb := h.feas.pos
  refine ⟨h.plu.pivot (by omega) hp.slot, fun l => ?_, feas_pivot h.feas hp, fun t ht => ?_, fun y => ?_⟩
  · show pivR T.R T.b i j n l = gl n (cost0 m) (upd T.J i j) (pivR T.R T.b i j) (T.R i j) l
    have := hp.slot
    rw [pivR, if_neg (by omega), h.goal_exact hp.slot l, Int.mul_ediv_cancel_left _ (by omega)]
  · show upd T.J i j t < _
    by_cases e : t = i
    · rw [e, upd_same]; exact hp.col
    · rw [upd_other _ _ e]; exact h.bas t ht
  · exact (h.plu.ker_pivot (by omega) hp.slot (by have := hp.pos; omega) y).trans (h.ker y)
theorem ent0_slack (A : Nat → Nat → Int) {i k : Nat} (hk : k < n) : ent0 n m A i (m + k) = if k = i then 1 else 0 := by
  unfold ent0
  rw [if_neg (by omega), if_neg (by omega)]
  by_cases e : k = i
  · rw [if_pos (by omega), if_pos e]
  · rw [if_neg (by omega), if_neg e]
theorem ent0_row {A : Nat → Nat → Int} {i : Nat} (hi : i < n) (y : Nat → Int) : (sm (m + n + 1) fun l => ent0 n m A i l * y l) = (sm m fun l => A i l * y l) + y (m + i) + y (m + n) := by
  have key : ∀ k, k ≤ n → (sm (m + k) fun l => ent0 n m A i l * y l) = (sm m fun l => A i l * y l) + if i < k then y (m + i) else 0 := by
    intro k
    induction k with
    | zero =>
      intro _
      rw [Nat.add_zero, if_neg (by omega), Int.add_zero]
      exact sm_congr _ (fun l hl => by unfold ent0; rw [if_pos hl])
    | succ k ih =>
      intro hk
      rw [show m + (k + 1) = (m + k) + 1 from rfl, sm, ih (by omega)]
      rw [ent0_slack A (show k < n by omega)]
      by_cases e : k = i
      · subst e; rw [if_neg (by omega), if_pos rfl, if_pos (by omega)]; omega
      · by_cases e2 : i < k
        · rw [if_neg e, if_pos e2, if_pos (show i < k + 1 by omega)]; omega
        · rw [if_neg e, if_neg e2, if_neg (show ¬ i < k + 1 by omega)]; omega
  rw [sm, key n (Nat.le_refl _), if_pos hi]
  unfold ent0
  rw [if_neg (by omega), if_pos rfl]
  omega
theorem sm_nonneg {f : Nat → Int} (k : Nat) (h : ∀ i, i < k → 0 ≤ f i) : 0 ≤ sm k f := by
  have := sm_le (f := fun _ => (0 : Int)) (g := f) k h
  rwa [sm_zero] at this
theorem sm_ge_one {f : Nat → Int} (k : Nat) (h : ∀ i, i < k → 0 ≤ f i) {i : Nat} (hi : i < k) : f i ≤ sm k f := by
  rw [sm_split f i k hi]
  have := sm_nonneg (f := fun t => if t = i then 0 else f t) k (fun t ht => by
    by_cases e : t = i
    · simp [e]
    · simp only [if_neg e]; exact h t ht)
  omega
/-- In the column that comes in there is a number above 0. -/
theorem Gm.some_pos (h : Gm n m A T) (hA : ∀ i l, i < n → l < m → 1 ≤ A i l) (hn : 0 < n) {j : Nat} (hj : j < m + n) : ∃ t, t < n ∧ 0 < T.R t j := by
  refine Classical.byContradiction fun hno => ?_
  have hle : ∀ t, t < n → T.R t j ≤ 0 := fun t ht => by
    rcases Int.lt_or_le 0 (T.R t j) with h1 | h1
    · exact absurd ⟨t, ht, h1⟩ hno
    · exact h1
  have hb := h.feas.pos
  have hJW : ∀ t, t < n → T.J t < m + n + 1 := fun t ht => by have := h.bas t ht; omega
  obtain ⟨y, hy⟩ : ∃ y : Nat → Int, y = fun l => (if l = j then T.b else 0) - sm n fun t => if l = T.J t then T.R t j else 0 := ⟨_, rfl⟩
  have hdir : ∀ f : Nat → Int, (sm (m + n + 1) fun l => f l * y l) = f j * T.b - sm n fun t => f (T.J t) * T.R t j := fun f => by
    rw [hy]; exact sm_dir f T.J (fun t => T.R t j) j T.b (by omega) n hJW
  have hk : Ker n (m + n + 1) T.R y := by
    intro t ht
    rw [hdir (fun l => T.R t l), sm_split _ t n ht, h.plu.unit ht ht, if_pos rfl]
    have : (sm n fun k => if k = t then 0 else T.R t (T.J k) * T.R k j) = 0 := sm_all0 n fun k hk => by
      by_cases e : k = t
      · rw [if_pos e]
      · rw [if_neg e, h.plu.unit ht hk, if_neg e, Int.zero_mul]
    rw [this]; grind
  have hy0 : ∀ l, 0 ≤ y l := fun l => by
    rw [hy]
    have h1 := sm_le (f := fun t => if l = T.J t then T.R t j else 0) (g := fun _ => (0 : Int)) n (fun t ht => by
      show (if l = T.J t then T.R t j else 0) ≤ 0
      by_cases e : l = T.J t
      · rw [if_pos e]; exact hle t ht
      · rw [if_neg e]; exact Int.le_refl _)
    rw [sm_zero] at h1
    show 0 ≤ (if l = j then T.b else 0) - _
    by_cases e : l = j
    · rw [if_pos e]; omega
    · rw [if_neg e]; omega
  have hyj : 0 < y j := by
    have h1 := sm_le (f := fun t => if j = T.J t then T.R t j else 0) (g := fun _ => (0 : Int)) n (fun t ht => by
      show (if j = T.J t then T.R t j else 0) ≤ 0
      by_cases e : j = T.J t
      · rw [if_pos e]; exact hle t ht
      · rw [if_neg e]; exact Int.le_refl _)
    rw [sm_zero] at h1
    rw [hy]
    show 0 < (if j = j then T.b else 0) - _
    rw [if_pos rfl]; omega
  have hk0 := (h.ker y).1 hk
  have hrow : ∀ i, i < n → (sm m fun l => A i l * y l) + y (m + i) + y (m + n) = 0 := fun i hi => by rw [← ent0_row hi]; exact hk0 i hi
  have hnn : ∀ i, i < n → ∀ l, l < m → 0 ≤ A i l * y l := fun i hi l hl => Int.mul_nonneg (by have := hA i l hi hl; omega) (hy0 l)
  by_cases e : j < m
  · have h1 := hrow 0 hn
    have h2 := sm_ge_one m (hnn 0 hn) e
    have h3 : 0 < A 0 j * y j := Int.mul_pos (by have := hA 0 j hn e; omega) hyj
    have h4 := hy0 (m + 0)
    have h5 := hy0 (m + n)
    omega
  · have h1 := hrow (j - m) (by omega)
    have h2 := sm_nonneg m (hnn (j - m) (by omega))
    rw [show m + (j - m) = j by omega] at h1
    have h5 := hy0 (m + n)
    omega
theorem Gm.out (h : Gm n m A T) (hA : ∀ i l, i < n → l < m → 1 ≤ A i l) (hn : 0 < n) {j : Nat} (hj : firstNeg (T.R n) (m + n) = some j) : ∃ o, outG T (m + n) j n = some o := by
  have h1 := firstNeg_spec (T.R n) (m + n)
  rw [hj] at h1
  obtain ⟨t, ht, hp⟩ := h.some_pos hA hn h1.1
  have h2 := outG_spec T (m + n) j n
  cases ho : outG T (m + n) j n with
  | some o => exact ⟨o, rfl⟩
  | none =>
    rw [ho] at h2
    have := h2 t ht
    omega
/-- Where the run ends. -/
theorem Gm.run (hA : ∀ i l, i < n → l < m → 1 ≤ A i l) (hn : 0 < n) : ∀ (f : Nat) (T T' : GT), Gm n m A T → runG n m f T = some T' → Gm n m A T' ∧ ∀ l, l < m + n → 0 ≤ T'.R n l
  | 0, T, T', _, hr => by simp [runG] at hr
  | f + 1, T, T', h, hr => by
    rw [runG] at hr
    have hs := firstNeg_spec (T.R n) (m + n)
    cases hj : firstNeg (T.R n) (m + n) with
    | none =>
      rw [hj] at hr hs
      simp only [Option.some.injEq] at hr
      subst hr
      exact ⟨h, hs⟩
    | some j =>
      obtain ⟨o, ho⟩ := h.out hA hn hj
      rw [hj] at hr
      simp only [ho] at hr
      exact Gm.run hA hn f _ T' (h.pivot (h.pick hj ho)) hr
/-- The steps of the run. -/
def nxG (n m : Nat) (T : GT) : GT := match firstNeg (T.R n) (m + n) with
  | none => T
  | some j => match outG T (m + n) j n with
    | none => T
    | some o => T.pivot o j
def itG (n m : Nat) (T : GT) : Nat → GT
  | 0 => T
  | t + 1 => nxG n m (itG n m T t)
theorem Gm.ends (hA : ∀ i l, i < n → l < m → 1 ≤ A i l) (hn : 0 < n) (h : Gm n m A T) : ∃ f T', runG n m f T = some T' := by
  refine Classical.byContradiction fun hno => ?_
  have hnone : ∀ f, runG n m f T = none := fun f => by
    cases hr : runG n m f T with
    | none => rfl
    | some T' => exact absurd ⟨f, T', hr⟩ hno
  have stp : ∀ S : GT, Gm n m A S → (∀ f, runG n m f S = none) → ∃ j o, firstNeg (S.R n) (m + n) = some j ∧ outG S (m + n) j n = some o := fun S hS hf => by
    cases hj : firstNeg (S.R n) (m + n) with
    | none =>
      have := hf 1
      rw [runG, hj] at this
      simp at this
    | some j =>
      obtain ⟨o, ho⟩ := hS.out hA hn hj
      exact ⟨j, o, rfl, ho⟩
  have key : ∀ t, Gm n m A (itG n m T t) ∧ ∀ f, runG n m f (itG n m T t) = none := by
    intro t
    induction t with
    | zero => exact ⟨h, hnone⟩
    | succ t ih =>
      obtain ⟨i1, i2⟩ := ih
      obtain ⟨j, o, hj, ho⟩ := stp _ i1 i2
      have e : itG n m T (t + 1) = (itG n m T t).pivot o j := by rw [itG, nxG, hj]; simp only [ho]
      rw [e]
      refine ⟨i1.pivot (i1.pick hj ho), fun f => ?_⟩
      have := i2 (f + 1)
      rw [runG, hj] at this
      simp only [ho] at this
      exact this
  have hp : ∀ t, ∃ q : Nat × Nat, firstNeg ((itG n m T t).R n) (m + n) = some q.1 ∧ outG (itG n m T t) (m + n) q.1 n = some q.2 := fun t => by
    obtain ⟨j, o, hj, ho⟩ := stp _ (key t).1 (key t).2
    exact ⟨(j, o), hj, ho⟩
  obtain ⟨q, hq⟩ := Classical.axiomOfChoice hp
  have e : ∀ t, itG n m T (t + 1) = (itG n m T t).pivot (q t).2 (q t).1 := fun t => by rw [itG, nxG, (hq t).1]; simp only [(hq t).2]
  have hE : Endless n (m + n) (m + n) (cost0 m) (Fof n fun l i => ent0 n m A i l) 1 (fun t => (itG n m T t).J) (fun t => (itG n m T t).R) (fun t => (itG n m T t).b) (fun t => (q t).2) (fun t => (q t).1) :=
    ⟨Nat.le_refl _, fun t => (key t).1.plu, fun t => (key t).1.feas, fun t => (key t).1.pick (hq t).1 (hq t).2, fun t => by rw [e]; rfl, fun t => by rw [e]; rfl, fun t => by rw [e]; rfl, fun t i hi => (key t).1.bas i hi⟩
  exact hE.false
end
end Go.Proofs.YtefmioppamdceaaDoor
