/- Inspect: Solve. -/
import Derived.Test.YtefmioppamdceaaDoorMIL
import Derived.Test.YtefmioppamdceaaDoorMIJ
import Derived.Test.YtefmioppamdceaaDoorMIF
import Derived.Deep.DeepCutAuto
namespace Go.Proofs.YtefmioppamdceaaDoor
open Go.RowKit Go.Shelf

/-- The least entry, as the program finds it. -/
def leastT (g : List (List Int)) : Nat → Int
  | 0 => entI g 0 0
  | k + 1 => min (leastT g k) (minT (rowI g k) (rowI g k).length)
/-- A game: what its entries are. -/
structure IsG (g : List (List Int)) (m : Nat) : Prop where
  n1 : 1 ≤ g.length
  n5 : g.length ≤ 5
  m1 : 1 ≤ m
  m5 : m ≤ 5
  row : ∀ k, k < g.length → (rowI g k).length = m
  ent : ∀ i j, i < g.length → j < m → -100 ≤ entI g i j ∧ entI g i j ≤ 100
theorem gameB_iff (g : List (List Int)) : gameB g = true ↔ IsG g (rowI g 0).length := by
  simp only [gameB, Bool.and_eq_true, decide_eq_true_eq, Bool.not_eq_true', List.any_eq_false, badR, Bool.or_eq_true, not_or, List.any_eq_true, outP, not_exists, not_and, decide_eq_false_iff_not, Classical.not_not]
  constructor
  · rintro ⟨⟨⟨h1, h2⟩, h3, h4⟩, h5⟩
    refine ⟨h1, h2, h3, h4, fun k hk => ?_, fun i j hi hj => ?_⟩
    · rw [rowI_get g k hk]; exact (h5 _ (List.getElem_mem _)).1
    · have h6 := h5 _ (List.getElem_mem (h := hi))
      rw [← rowI_get g i hi] at h6
      have hjl : j < (rowI g i).length := by rw [h6.1]; exact hj
      have := h6.2 _ (List.getElem_mem (h := hjl))
      rw [← ith_get _ _ hjl] at this
      unfold entI
      omega
  · rintro ⟨h1, h2, h3, h4, h5, h6⟩
    refine ⟨⟨⟨h1, h2⟩, h3, h4⟩, fun r hr => ?_⟩
    obtain ⟨k, hk, rfl⟩ := List.getElem_of_mem hr
    rw [← rowI_get g k hk]
    refine ⟨h5 k hk, fun x hx => ?_⟩
    obtain ⟨j, hj, rfl⟩ := List.getElem_of_mem hx
    have := h6 k j hk (by rw [← h5 k hk]; exact hj)
    unfold entI at this
    rw [ith_get _ _ hj] at this
    omega
section
variable {g : List (List Int)} {m : Nat}
theorem IsG.least (h : IsG g m) : ∀ k, k ≤ g.length → -100 ≤ leastT g k ∧ leastT g k ≤ 100 ∧ ∀ i j, i < k → j < m → leastT g k ≤ entI g i j
  | 0, _ => by
    have := h.ent 0 0 (by have := h.n1; omega) (by have := h.m1; omega)
    exact ⟨this.1, this.2, fun i j hi => absurd hi (by omega)⟩
  | k + 1, hk => by
    obtain ⟨h1, h2, h3⟩ := h.least k (by omega)
    have hr := h.row k (by omega)
    have hm1 := h.m1
    have hb : -100 ≤ minT (rowI g k) (rowI g k).length ∧ minT (rowI g k) (rowI g k).length ≤ 100 := by
      rcases minT_in (rowI g k) (rowI g k).length with e | ⟨j, hj, e⟩
      · rw [e]; exact h.ent k 0 (by omega) (by omega)
      · rw [e]; exact h.ent k j (by omega) (by omega)
    rw [leastT]
    refine ⟨by omega, by omega, fun i j hi hj => ?_⟩
    by_cases e : i = k
    · subst e
      have := minT_le (rowI g i) (rowI g i).length j (by omega)
      unfold entI
      omega
    · have := h3 i j (by omega) hj
      omega
/-- The number that is added. -/
def addI (g : List (List Int)) : Int := 1 - leastT g g.length
def shG (g : List (List Int)) (i j : Nat) : Int := entI g i j + addI g
theorem IsG.add (h : IsG g m) : -99 ≤ addI g ∧ addI g ≤ 101 := by
  have := h.least g.length (Nat.le_refl _)
  unfold addI; omega
theorem IsG.sh (h : IsG g m) (i j : Nat) (hi : i < g.length) (hj : j < m) : 1 ≤ shG g i j ∧ shG g i j ≤ 201 := by
  have h1 := h.least g.length (Nat.le_refl _)
  have h2 := h1.2.2 i j hi hj
  have h3 := h.ent i j hi hj
  unfold shG addI
  omega
end
/-- What Solve hands back, of the last tableau. -/
def solV (g : List (List Int)) (m : Nat) (T : GT) : Int := T.b - addI g * T.R g.length (m + g.length)
def solX (g : List (List Int)) (m : Nat) (T : GT) : Nat → Int := colX g.length T (m + g.length)
def solY (g : List (List Int)) (m : Nat) (T : GT) : Nat → Int := fun i => T.R g.length (m + i)
def partN (f : Nat → Int) (L : Nat) : List Int := (List.range L).map fun k => f k / (gcdE (sm L f) f L : Int)
def partD (f : Nat → Int) (L : Nat) : Int := sm L f / (gcdE (sm L f) f L : Int)
/-- A saddle is handed back. -/
def SadRes (w : World) (vn vd : Int) (r : List Int) (rd : Int) (c : List Int) (cd : Int) (e : Ending) (w' : World) : Prop :=
  ∃ rv cv, e = .returned (.tuple #[.agg #[.int .i64 vn, .int .i64 vd, rv, .int .i64 rd, cv, .int .i64 cd], .int .i64 0]) ∧ Own w' w.heap.size 1 rv (ints r) ∧ Own w' w.heap.size 1 cv (ints c) ∧ Ext w w'
theorem TabG.bas {w : World} {B : Nat} {P : GAt} {n L : Nat} {T : GT} (h : TabG w B P n L T) : IntsIn w (some ⟨P.bg, 0, none⟩) ((List.range n).map fun (i : Nat) => (T.J i : Int)) := by
  intro k hk
  rw [List.length_map, List.length_range] at hk
  refine ⟨P.bg, 0, rfl, h.bgIn.2, ?_⟩
  rw [Nat.zero_add, (h.basC k hk).1]
  simp [ith, hk]
/-- Where a column stands in the basis. -/
theorem bas_index (T : GT) (n j : Nat) : (∃ i, i < n ∧ T.J i = j ∧ firstL (fun x => x == (j : Int)) ((List.range n).map fun (i : Nat) => (T.J i : Int)) = (i : Int)) ∨ ((∀ i, i < n → T.J i ≠ j) ∧ firstL (fun x => x == (j : Int)) ((List.range n).map fun (i : Nat) => (T.J i : Int)) = -1) := by
  unfold firstL
  cases hf : ((List.range n).map fun (i : Nat) => (T.J i : Int)).findIdx? (fun x => x == (j : Int)) with
  | none =>
    right
    rw [List.findIdx?_eq_none_iff] at hf
    refine ⟨fun i hi e => ?_, rfl⟩
    have := hf (T.J i : Int) (List.mem_map.2 ⟨i, List.mem_range.2 hi, rfl⟩)
    simp [e] at this
  | some i =>
    left
    rw [List.findIdx?_eq_some_iff_getElem] at hf
    obtain ⟨hi, h1, -⟩ := hf
    rw [List.length_map, List.length_range] at hi
    refine ⟨i, hi, ?_, rfl⟩
    have h2 : (T.J i : Int) = (j : Int) := by simpa using h1
    omega
/-- A place for a saddle. -/
structure Spot6 (w : World) (b : Nat) : Prop where
  lt : b < w.heap.size
  c0 : ∃ x, w.cell? ⟨b, 0, none⟩ = some (.int .i64 x)
  at_ : ∀ k, k < 6 → (w.cell? ⟨b, k, none⟩).isSome = true ∧ w.frozen? ⟨b, k, none⟩ = false
theorem Spot6.ext {w w' : World} {b : Nat} (h : Spot6 w b) (hx : Ext w w') : Spot6 w' b :=
  ⟨Nat.lt_of_lt_of_le h.lt hx.size, by rw [hx.cell (p := ⟨b, 0, none⟩) h.lt]; exact h.c0, fun k hk => by rw [hx.cell (p := ⟨b, k, none⟩) h.lt, hx.frozen (p := ⟨b, k, none⟩) h.lt]; exact h.at_ k hk⟩
theorem Spot6.new (w : World) (T : TypeId) (x : Int) (u1 u2 u3 u4 u5 : Value) : Spot6 (w.alloc (Obj.cells #[.int .i64 x, u1, u2, u3, u4, u5] T)) w.heap.size := by
  refine ⟨by simp, ⟨x, by simp [go_sem]⟩, fun k hk => ?_⟩
  have : k = 0 ∨ k = 1 ∨ k = 2 ∨ k = 3 ∨ k = 4 ∨ k = 5 := by omega
  rcases this with rfl | rfl | rfl | rfl | rfl | rfl <;> simp [go_sem]
/-- Six values are put there. -/
def put6 (w : World) (b : Nat) (u0 u1 u2 u3 u4 u5 : Value) : World := (((((w.setCell ⟨b, 0, none⟩ u0).setCell ⟨b, 1, none⟩ u1).setCell ⟨b, 2, none⟩ u2).setCell ⟨b, 3, none⟩ u3).setCell ⟨b, 4, none⟩ u4).setCell ⟨b, 5, none⟩ u5
theorem set_cell (w : World) (b i j : Nat) (u : Value) (h : (w.cell? ⟨b, j, none⟩).isSome = true) : (w.setCell ⟨b, i, none⟩ u).cell? ⟨b, j, none⟩ = if i = j then some u else w.cell? ⟨b, j, none⟩ := by
  by_cases e : i = j
  · subst e
    obtain ⟨x, hx⟩ := Option.isSome_iff_exists.1 h
    rw [if_pos rfl]; exact World.cell?_setCell_same _ _ _ hx
  · rw [if_neg e]; exact World.cell?_setCell_other _ _ _ _ (fun e2 => by simp only [Addr.mk.injEq, true_and, and_true] at e2; exact e e2)
theorem set_some (w : World) (b i j : Nat) (u : Value) (h : (w.cell? ⟨b, j, none⟩).isSome = true) : ((w.setCell ⟨b, i, none⟩ u).cell? ⟨b, j, none⟩).isSome = true := by
  rw [set_cell w b i j u h]
  split
  · rfl
  · exact h
theorem Spot6.put {w : World} {b : Nat} (h : Spot6 w b) (u0 u1 u2 u3 u4 u5 : Value) :
    (put6 w b u0 u1 u2 u3 u4 u5).cell? ⟨b, 0, none⟩ = some u0 ∧ (put6 w b u0 u1 u2 u3 u4 u5).cell? ⟨b, 1, none⟩ = some u1 ∧ (put6 w b u0 u1 u2 u3 u4 u5).cell? ⟨b, 2, none⟩ = some u2 ∧ (put6 w b u0 u1 u2 u3 u4 u5).cell? ⟨b, 3, none⟩ = some u3 ∧ (put6 w b u0 u1 u2 u3 u4 u5).cell? ⟨b, 4, none⟩ = some u4 ∧ (put6 w b u0 u1 u2 u3 u4 u5).cell? ⟨b, 5, none⟩ = some u5 := by
  have key : ∀ k, k < 6 → (put6 w b u0 u1 u2 u3 u4 u5).cell? ⟨b, k, none⟩ = if 5 = k then some u5 else if 4 = k then some u4 else if 3 = k then some u3 else if 2 = k then some u2 else if 1 = k then some u1 else if 0 = k then some u0 else w.cell? ⟨b, k, none⟩ := by
    intro k hk
    have h0 := (h.at_ k hk).1
    have h1 := set_some w b 0 k u0 h0
    have h2 := set_some _ b 1 k u1 h1
    have h3 := set_some _ b 2 k u2 h2
    have h4 := set_some _ b 3 k u3 h3
    have h5 := set_some _ b 4 k u4 h4
    unfold put6
    rw [set_cell _ b 5 k u5 h5, set_cell _ b 4 k u4 h4, set_cell _ b 3 k u3 h3, set_cell _ b 2 k u2 h2, set_cell _ b 1 k u1 h1, set_cell _ b 0 k u0 h0]
  exact ⟨by rw [key 0 (by decide)]; rfl, by rw [key 1 (by decide)]; rfl, by rw [key 2 (by decide)]; rfl, by rw [key 3 (by decide)]; rfl, by rw [key 4 (by decide)]; rfl, by rw [key 5 (by decide)]; rfl⟩
theorem grown_put6 (w : World) (b : Nat) (u0 u1 u2 u3 u4 u5 : Value) : w.grownBy (put6 w b u0 u1 u2 u3 u4 u5) (some b) :=
  grownBy_trans (grownBy_trans (grownBy_trans (grownBy_trans (grownBy_trans (grownBy_setCell w ⟨b, 0, none⟩ u0) (grownBy_setCell _ ⟨b, 1, none⟩ u1)) (grownBy_setCell _ ⟨b, 2, none⟩ u2)) (grownBy_setCell _ ⟨b, 3, none⟩ u3)) (grownBy_setCell _ ⟨b, 4, none⟩ u4)) (grownBy_setCell _ ⟨b, 5, none⟩ u5)
theorem IntSpot.newed {W v : World} {N a : Nat} (h : IntSpot W N) (hx : Ext W v) (ha : W.heap.size ≤ a) : IntSpot v N ∧ N ≠ a := ⟨h.ext hx, Nat.ne_of_lt (Nat.lt_of_lt_of_le h.lt ha)⟩
theorem IntSpot.two (w : World) (T T' : TypeId) : IntSpot ((w.alloc (Obj.cells #[.bool false, .slice none 0 0] T)).alloc (Obj.cells #[.bool false, .slice none 0 0] T')) (w.heap.size + 1) := by
  have := IntSpot.ofNew (w.alloc (Obj.cells #[.bool false, .slice none 0 0] T)) T'
  simpa using this
set_option maxRecDepth 100000 in
set_option maxHeartbeats 8000000 in
theorem solve_calls (w : World) (go : Option Addr) (gc : Nat) (g : List (List Int)) (m f : Nat) (T : GT) (hI : GameIn w go g) (hgc : g.length ≤ gc) (hG : IsG g m) (hr : runG g.length m f (GT.start g.length m (shG g)) = some T) :
    Calls Tryd.prog 23 #[.slice go g.length gc] w (SadRes w (solV g m T / (Int.gcd (solV g m T) (T.R g.length (m + g.length)) : Int)) (T.R g.length (m + g.length) / (Int.gcd (solV g m T) (T.R g.length (m + g.length)) : Int)) (partN (solY g m T) g.length) (partD (solY g m T) g.length) (partN (solX g m T) m) (partD (solX g m T) m)) := by
  have hm0 : (rowI g 0).length = m := hG.row 0 (by have := hG.n1; omega)
  have hval := fun W (hxW : Ext w W) => valid_calls W go gc g (hI.ext hxW) (by have := hG.n5; omega) (fun k hk => by rw [hG.row k hk]; have := hG.m5; omega)
  rw [(gameB_iff g).2 (by rw [hm0]; exact hG)] at hval
  obtain ⟨gb, goff, ro, rc, rfl, hgl, hg0, hrc, hi0⟩ := hI 0 (by have := hG.n1; omega)
  rw [hm0, Nat.add_zero] at hg0
  obtain ⟨rb0, roff0, rfl, hrl0, hr00⟩ := hi0 0 (by have := hG.m1; omega)
  rw [Nat.add_zero] at hr00
  have hent0 : ith (rowI g 0) 0 = leastT g 0 := rfl
  rw [hent0] at hr00
  have HG := Lib.hid hG
  have HR := Lib.hid hr
  obtain ⟨n, hn⟩ : ∃ n, n = g.length := ⟨_, rfl⟩
  rw [← hn] at hgc hval HR ⊢
  have HN := Lib.hid hn
  have hn15 : 1 ≤ n ∧ n ≤ 5 := ⟨by rw [hn]; exact hG.n1, by rw [hn]; exact hG.n5⟩
  have hm15 : 1 ≤ m ∧ m ≤ 5 := ⟨hG.m1, hG.m5⟩
  have hn0 : (0 : Int) < (n : Int) := by omega
  have hm0' : (0 : Int) < (m : Int) := by omega
  clear hn hm0 hrc hent0 hr hi0
  go_enter Tryd.func23, Tryd.ntmps23
  go_wp2_with fail
  obtain ⟨W, hW⟩ : ∃ W, W = w.heap.size := ⟨_, rfl⟩
  obtain ⟨w1, hw1⟩ : ∃ w1, w1 = (w.alloc (Obj.cells #[.int .i64 0, .int .i64 0, .slice none 0 0, .int .i64 0, .slice none 0 0, .int .i64 0] 42)) := ⟨_, rfl⟩
  have hx1 : Ext w w1 := by rw [hw1]; exact (by repeat (first | exact Ext.refl _ | assumption | refine Ext.alloc ?_ _ | refine Ext.drewN ?_ _ | refine Ext.drew ?_))
  have hsp1 : Spot6 w1 W := by rw [hw1, hW]; exact Spot6.new w _ _ _ _ _ _ _
  rw [← hw1, ← hW]
  have hWw : w.heap.size ≤ W := by omega
  clear hw1 hW
  refine (hval w1 hx1).mono ?_
  rintro e w2 ⟨rfl, hx2⟩
  have hx02 := hx1.trans hx2
  have hsp2 := hsp1.ext hx2
  have hg2 := (hx02.cell (p := ⟨gb, goff, none⟩) hgl).trans hg0
  have hr2 := (hx02.cell (p := ⟨rb0, roff0, none⟩) hrl0).trans hr00
  have hgl2 := Nat.lt_of_lt_of_le hgl hx02.size
  have hrl2 := Nat.lt_of_lt_of_le hrl0 hx02.size
  clear hval hx1 hx2 hsp1
  go_wp2_with fail
  go_loopw [4, 27] (fun lv iv wr => ∃ k : Nat, k ≤ n ∧ iv = .int .i64 k ∧ lv = .int .i64 (leastT g k) ∧ Ext w2 wr) (fun _ iv _ => n - (intOf iv).toNat)
  case atStart => exact ⟨0, by omega, rfl, rfl, Ext.refl _⟩
  case round =>
    obtain ⟨k, hk, rfl, rfl, hx⟩ := hrel
    by_cases hlt : k < n
    · obtain ⟨b, off, sb, sc, hge, hbl, hcb, -, hIk⟩ := (hI.ext (hx02.trans hx)) k (by rw [← HN.out]; exact hlt)
      simp only [Option.some.injEq, Addr.mk.injEq, and_true] at hge
      obtain ⟨rfl, rfl⟩ := hge
      have hrk := HG.out.row k (by rw [← HN.out]; exact hlt)
      have hmc := min_calls wr sb sc (rowI g k) hIk (by omega) (by omega)
      have HM : Hid (min (leastT g k) (minT (rowI g k) (rowI g k).length) = leastT g (k + 1)) := Lib.hid rfl
      obtain ⟨mv, hmv⟩ : ∃ mv, mv = minT (rowI g k) (rowI g k).length := ⟨_, rfl⟩
      rw [← hmv] at hmc HM
      rw [hrk] at hcb hmc
      clear hmv hrk hIk
      go_wp2_with fail
      refine hmc.mono ?_
      rintro e w4 ⟨rfl, hx4⟩
      have hx5 := hx.trans hx4
      clear hmc
      go_wp2_with fail
      exact ⟨⟨k + 1, by omega, rfl, by rw [HM.out], hx5⟩, by simp only [intOf]; omega⟩
    · obtain rfl : n = k := by omega
      have hadd := HG.out.add
      have hae : 1 - leastT g n = addI g := by unfold addI; rw [HN.out]
      obtain ⟨lt, hlt2⟩ : ∃ lt, lt = leastT g n := ⟨_, rfl⟩
      rw [← hlt2] at hae ⊢
      obtain ⟨ad, had⟩ : ∃ ad, ad = addI g := ⟨_, rfl⟩
      rw [← had] at hae hadd
      have HAD := Lib.hid had
      have hlb : -100 ≤ lt ∧ lt ≤ 100 := by omega
      have hx6 := hx02.trans hx
      have htc := gtabled_calls wr (some ⟨gb, goff, none⟩) gc g m ad (hI.ext hx6) (by rw [← HN.out]; exact hgc) (by rw [← HN.out]; omega) (by omega) HG.out.row (fun i j hi hj => by have := HG.out.ent i j hi hj; omega) (by omega)
      rw [← HN.out, show (fun i j => entI g i j + ad) = shG g by funext i j; unfold shG; rw [had]] at htc
      have hsp6 := hsp2.ext hx
      have hg6 := (hx.cell (p := ⟨gb, goff, none⟩) hgl2).trans hg2
      have hgl6 := Nat.lt_of_lt_of_le hgl2 hx.size
      clear hlt2 had hx02 hx hsp2 hg2 hr2 hrl2 hgl2
      go_wp2_with fail
      refine htc.mono ?_
      rintro e w7 ⟨P, rfl, hT7, hx7⟩
      clear htc
      have hrc := grun_calls wr w7 P n m (shG g) (GT.start n m (shG g)) T f hT7 hx7 (Gm.start n m (shG g)) (by omega) (by omega) (by rw [HN.out]; exact HG.out.sh) HR.out
      go_wp2_with fail
      refine hrc.mono ?_
      rintro e w8 ⟨⟨v8, rfl⟩, hT8, hx8⟩
      clear hrc hT7 hx7
      have hg8 := (hx8.cell (p := ⟨gb, goff, none⟩) hgl6).trans hg6
      have hgl8 := Nat.lt_of_lt_of_le hgl6 hx8.size
      have hsp8 := hsp6.ext hx8
      have hx08 := hx6.trans hx8
      have hBW : w.heap.size ≤ wr.heap.size := hx6.size
      have hWr := hsp6.lt
      clear hg6 hgl6 hsp6 hx6
      go_wp2_with fail
      go_region
      obtain ⟨w9, hw9⟩ : ∃ w9, w9 = w8.drew := ⟨_, rfl⟩
      have hx9 : Ext w8 w9 := by rw [hw9]; exact (Ext.refl _).drew
      rw [← hw9]
      clear hw9
      have hT9 := hT8.ext hx9
      have hsp9 := hsp8.ext hx9
      have hx09 := hx08.trans hx9
      have hx89 := hx8.trans hx9
      have hmk := make_ptrs m (by omega)
      clear hT8 hsp8 hx08 hx8 hx9
      go_wp2_with fail
      have hGmA := Gm.run (n := n) (m := m) (A := shG g) (fun i j hi hj => (HG.out.sh i j (by rw [← HN.out]; exact hi) hj).1) (by omega) f _ T (Gm.start n m (shG g)) HR.out
      have HGm := Lib.hid hGmA.1
      have HGp := Lib.hid hGmA.2
      clear hGmA HR
      have hxa : Ext w9 (w9.alloc (Obj.cells (Array.replicate m (.pointer none)) 84)) := (by repeat (first | exact Ext.refl _ | assumption | refine Ext.alloc ?_ _ | refine Ext.drewN ?_ _ | refine Ext.drew ?_))
      have hNa := Lib.hid (RowN.made w9 m 84 (solX g m T))
      obtain ⟨nb, hnb⟩ : ∃ nb, nb = w9.heap.size := ⟨_, rfl⟩
      generalize hwa : (w9.alloc (Obj.cells (Array.replicate m (.pointer none)) 84)) = wa at *
      rw [← hnb] at hNa ⊢
      have hnw : w9.heap.size ≤ nb := by omega
      clear hwa hnb hmk
      go_loopw [56] (fun q ws => ∃ c : Nat, c ≤ m ∧ q = .int .i64 c ∧ Ext w9 ws ∧ Hid (RowN ws nb m c (solX g m T))) (fun q _ => m - (intOf q).toNat)
      case atStart => exact ⟨0, by omega, rfl, hxa, hNa⟩
      case round =>
        rename World => ws
        obtain ⟨c, hc, rfl, hxs, HNs⟩ := hrel
        by_cases hcl : c < m
        · have hcl2 : (c : Int) < (m : Int) := by omega
          go_wp2_with fail
          refine (number_calls ws 0 (by decide)).mono ?_
          rintro e w4 ⟨a1, rfl, -, hB4, hx4⟩
          have hN4 := HNs.out.ext hx4
          obtain ⟨⟨pc, hpc⟩, hfc⟩ := hN4.all c hcl
          have hnl4 := hN4.lt
          have hNt := Lib.hid (hN4.touch hcl (some ⟨a1, 0, none⟩))
          have hx5 := (hxs.trans hx4).onto (grownBy_setCell w4 ⟨nb, c, none⟩ (.pointer (some ⟨a1, 0, none⟩))) (fun q hq => by simp only [Option.some.injEq] at hq; omega)
          have hT5 := hT9.ext hx5
          have hT4 := hT9.ext (hxs.trans hx4)
          have hc1 := hT4.c1
          have htl5 := hT4.tIn.2
          have hPn : P.t ≠ nb := by have := hT9.tIn.2; omega
          have hPn2 : nb ≠ P.t := Ne.symm hPn
          have hic := index_calls (w4.setCell ⟨nb, c, none⟩ (.pointer (some ⟨a1, 0, none⟩))) (some ⟨P.bg, 0, none⟩) P.bc ((List.range n).map fun (i : Nat) => (T.J i : Int)) c hT5.bas (by simp; omega)
          rw [List.length_map, List.length_range] at hic
          rcases bas_index T n c with ⟨i, hi, hJi, hfi⟩ | ⟨hno, hfi⟩
          · rw [hfi] at hic
            have HZ : Hid (solX g m T c = T.R i (m + n)) := Lib.hid (by unfold solX; rw [← HN.out, ← hJi]; exact HGm.out.colX_in hi _)
            clear hT5 hJi hfi
            go_wp2_with fail
            refine hic.mono ?_
            rintro e w6 ⟨rfl, hx6⟩
            have hN6 := hNt.out.ext hx6
            have hx7 := hx5.trans hx6
            have hT6 := hT9.ext hx7
            obtain ⟨bi, hri, hRi⟩ := hT6.rowC i (by omega)
            obtain ⟨ai, hci, hBi⟩ := hRi.ent (m + n) (by omega)
            have hc06 := hT6.c0
            have ht6 := hT6.tIn.2
            have hr6 := hT6.rgIn.2
            have hb6 := hRi.lt
            obtain ⟨⟨p6, hp6⟩, hf6⟩ := hN6.all c hcl
            have hn6 := hN6.lt
            have HNN := Lib.hid (hN6.put (a := ai) hcl (by rw [HZ.out]; exact hBi))
            have hx8 := hx7.onto (grownBy_setCell w6 ⟨nb, c, none⟩ (.pointer (some ⟨ai, 0, none⟩))) (fun q hq => by simp only [Option.some.injEq] at hq; omega)
            have hiz : (0 : Int) ≤ (i : Int) := by omega
            have hin : (i : Int) < (n : Int) + 1 := by omega
            have hml : (m : Int) + (n : Int) < (m : Int) + (n : Int) + 1 := by omega
            have hml2 : (0 : Int) ≤ (m : Int) + (n : Int) := by omega
            clear hic
            go_wp2_with fail
            exact ⟨⟨c + 1, by omega, rfl, hx8, HNN⟩, by simp only [intOf]; omega⟩
          · rw [hfi] at hic
            have HZ : Hid (solX g m T c = 0) := Lib.hid (by unfold solX; rw [← HN.out]; exact colX_out hno)
            have HNN := Lib.hid (hN4.put (a := a1) hcl (by rw [HZ.out]; exact hB4))
            clear hT5
            go_wp2_with fail
            refine hic.mono ?_
            rintro e w6 ⟨rfl, hx6⟩
            have HN6 := Lib.hid (HNN.out.ext hx6)
            have hx7 := hx5.trans hx6
            clear hic HNN
            go_wp2_with fail
            exact ⟨⟨c + 1, by omega, rfl, hx7, HN6⟩, by simp only [intOf]; omega⟩
        · obtain rfl : m = c := by omega
          have hT := hT9.ext hxs
          have hspW := hsp9.ext hxs
          have hx0s := hx09.trans hxs
          have HXB := Lib.hid HNs.out.full
          obtain ⟨ab, hcb, hBb⟩ := hT.c2
          obtain ⟨bn, hrn, hRn⟩ := hT.rowC n (Nat.le_refl _)
          obtain ⟨az, hcz, hBz⟩ := hRn.ent (m + n) (by omega)
          have hc0 := hT.c0
          have htl := hT.tIn.2
          have hrl := hT.rgIn.2
          have hbl := hRn.lt
          have hnn : (n : Int) < (n : Int) + 1 := by omega
          have hmn : (m : Int) + (n : Int) < (m : Int) + (n : Int) + 1 := by omega
          have hmn0 : (0 : Int) ≤ (m : Int) + (n : Int) := by omega
          have hAll : ∀ i l, i < n → l < m → 1 ≤ shG g i l ∧ shG g i l ≤ 201 := by rw [HN.out]; exact HG.out.sh
          have hzb := HGm.out.ent_abs hn15.2 hAll (Nat.le_refl n) (m + n)
          have hbb := HGm.out.b_abs hn15.2 hAll
          clear hT9 hsp9 hx09 hxs HNs hAll
          have e0 : ((m : Int) + (n : Int)).toNat = m + n := by omega
          have HC4 : Hid (∀ w', Ext ws w' → w'.cell? ⟨P.t, 2, none⟩ = some (.pointer (some ⟨ab, 0, none⟩)) ∧ w'.cell? ⟨P.t, 0, none⟩ = some (.slice (some ⟨P.rg, 0, none⟩) (n + 1) P.rc) ∧ w'.cell? ⟨P.rg, n, none⟩ = some (.slice (some ⟨bn, 0, none⟩) (m + n + 1) (m + n + 1)) ∧ w'.cell? ⟨bn, ((m : Int) + (n : Int)).toNat, none⟩ = some (.pointer (some ⟨az, 0, none⟩))) := Lib.hid (fun w' hx => ⟨(hx.cell (p := ⟨P.t, 2, none⟩) htl).trans hcb, (hx.cell (p := ⟨P.t, 0, none⟩) htl).trans hc0, (hx.cell (p := ⟨P.rg, n, none⟩) hrl).trans hrn, by rw [e0]; exact (hx.cell (p := ⟨bn, m + n, none⟩) hbl).trans hcz⟩)
          clear e0
          obtain ⟨z, hz⟩ : ∃ z, z = T.R n (m + n) := ⟨_, rfl⟩
          obtain ⟨V, hV⟩ : ∃ V, V = T.b - ad * z := ⟨_, rfl⟩
          have HSV : Hid (solV g m T = V) := Lib.hid (by unfold solV; rw [hV, hz, HAD.out, HN.out])
          have HZZ := Lib.hid hz
          rw [← hz] at hBz hzb
          have hVb : V.natAbs < 18446744073709551616 ∧ -1000000000000000000 ≤ V ∧ V ≤ 1000000000000000000 := by
            have h1 : -30300000000000000 ≤ ad * z ∧ ad * z ≤ 30300000000000000 := by
              have := mul_abs (a := ad) (b := z) (p := 101) (q := 300000000000000) (by omega) (by omega)
              omega
            omega
          have HS0 : Hid (az < ws.heap.size) := Lib.hid hBz.spot.lt
          have hnc := fun W => newInt_calls W ad (by omega)
          have hmc := fun W N a (hsp : IntSpot W N) (hB : BigAt W a ad) (hxW : Ext ws W) (hne : N ≠ a) (hle : ws.heap.size ≤ N) => imul_calls W N a az ad z hsp hB (hBz.ext hxW) (by omega) (by omega) hne (Nat.ne_of_gt (Nat.lt_of_lt_of_le HS0.out hle))
          have hsc := fun W N M (hxW : Ext ws W) (hsp : IntSpot W N) (hB : BigAt W M (ad * z)) (hle : ws.heap.size ≤ N) => (isub_calls W N ab M T.b (ad * z) hsp (hBb.ext hxW) hB (many_small (by omega)) (many_mul2 (by omega) (by omega))).mono (R' := SetRes ws N V) (fun e w' h => by rw [hV]; exact MutRes.set hxW hle h)
          clear hz hV
          go_wp2_with fail
          go_cut [15] (fun s15 wx => ∃ a, s15 = .pointer (some ⟨a, 0, none⟩) ∧ BigAt wx a V ∧ Ext ws wx)
          case first =>
            go_region_held3 (fun w' => w'.cell? ⟨P.t, 2, none⟩ = some (.pointer (some ⟨ab, 0, none⟩)) ∧ w'.cell? ⟨P.t, 0, none⟩ = some (.slice (some ⟨P.rg, 0, none⟩) (n + 1) P.rc) ∧ w'.cell? ⟨P.rg, n, none⟩ = some (.slice (some ⟨bn, 0, none⟩) (m + n + 1) (m + n + 1)) ∧ w'.cell? ⟨bn, ((m : Int) + (n : Int)).toNat, none⟩ = some (.pointer (some ⟨az, 0, none⟩)))
              (exact HC4.out _ (by repeat (with_reducible first | exact Ext.refl _ | assumption | refine Ext.alloc ?_ _ | refine Ext.drew ?_)))
              ((first
                | (go_at_call 58; (with_reducible refine Calls.mono (hnc _) ?_); rintro e v1 ⟨a1, rfl, ha1, hB1, hxW1⟩; have hxv1 : Ext ws v1 := Ext.trans (by repeat (with_reducible first | exact Ext.refl _ | assumption | refine Ext.alloc ?_ _ | refine Ext.drew ?_)) hxW1; (try (have hs1 := IntSpot.newed ((IntSpot.ofNew ws 94).ext (show Ext _ _ from (by with_reducible first | exact Ext.refl _ | exact (Ext.refl _).drew | exact (Ext.refl _).alloc _ | exact ((Ext.refl _).alloc _).drew | exact ((Ext.refl _).alloc _).alloc _))) hxW1 ha1)); (try (have hs2 := IntSpot.newed ((IntSpot.two ws 94 94).ext (show Ext _ _ from (by with_reducible first | exact Ext.refl _ | exact (Ext.refl _).drew | exact (Ext.refl _).alloc _ | exact ((Ext.refl _).alloc _).drew | exact ((Ext.refl _).alloc _).alloc _))) hxW1 ha1)))
                | (go_at_call 57; (with_reducible refine Calls.mono (hmc _ _ _ ?_ ?_ ?_ ?_ ?_) ?_); (first | exact hs1.1.ext (by with_reducible first | exact Ext.refl _ | exact (Ext.refl _).drew | exact (Ext.refl _).alloc _ | exact ((Ext.refl _).alloc _).drew | exact ((Ext.refl _).alloc _).alloc _) | exact hs2.1.ext (by with_reducible first | exact Ext.refl _ | exact (Ext.refl _).drew | exact (Ext.refl _).alloc _ | exact ((Ext.refl _).alloc _).drew | exact ((Ext.refl _).alloc _).alloc _) | exact (IntSpot.ofNew v1 _).ext (by with_reducible first | exact Ext.refl _ | exact (Ext.refl _).drew | exact (Ext.refl _).alloc _ | exact ((Ext.refl _).alloc _).drew | exact ((Ext.refl _).alloc _).alloc _) | exact (IntSpot.two v1 _ _).ext (by with_reducible first | exact Ext.refl _ | exact (Ext.refl _).drew | exact (Ext.refl _).alloc _ | exact ((Ext.refl _).alloc _).drew | exact ((Ext.refl _).alloc _).alloc _)); (exact hB1.ext (by repeat (with_reducible first | exact Ext.refl _ | assumption | refine Ext.alloc ?_ _ | refine Ext.drew ?_))); (exact (by repeat (with_reducible first | exact Ext.refl _ | assumption | refine Ext.alloc ?_ _ | refine Ext.drew ?_))); (first | exact hs1.2 | exact hs2.2 | exact Nat.ne_of_gt hB1.spot.lt | exact Nat.ne_of_gt (Nat.lt_succ_of_lt hB1.spot.lt)); (first | exact Nat.le_refl _ | exact Nat.le_succ _ | exact hxv1.size | exact Nat.le_succ_of_le hxv1.size); rintro e v2 ⟨rfl, hg2, hB2⟩; have hxv2 : Ext ws v2 := Ext.set (show Ext ws _ from (by repeat (with_reducible first | exact Ext.refl _ | assumption | refine Ext.alloc ?_ _ | refine Ext.drew ?_))) hg2 (by first | exact Nat.le_refl _ | exact Nat.le_succ _ | exact hxv1.size | exact Nat.le_succ_of_le hxv1.size);
                    (try (have hu1 := (hs1.1.ext (show Ext v1 _ from (by with_reducible first | exact Ext.refl _ | exact (Ext.refl _).drew | exact (Ext.refl _).alloc _ | exact ((Ext.refl _).alloc _).drew | exact ((Ext.refl _).alloc _).alloc _))).far (show ws.heap.size ≠ _ from (by first | exact Nat.ne_of_lt (Nat.lt_succ_self _) | exact Nat.ne_of_lt hs1.1.lt | exact Nat.ne_of_lt (Nat.lt_succ_of_lt hs1.1.lt))) hg2));
                    (try (have hu2 := (hs2.1.ext (show Ext v1 _ from (by with_reducible first | exact Ext.refl _ | exact (Ext.refl _).drew | exact (Ext.refl _).alloc _ | exact ((Ext.refl _).alloc _).drew | exact ((Ext.refl _).alloc _).alloc _))).far (show ws.heap.size + 1 ≠ _ from (by first | exact Nat.ne_of_gt (Nat.lt_succ_self _) | exact Nat.ne_of_lt hs2.1.lt)) hg2));
                    (try (have hu3 := ((IntSpot.ofNew v1 94).ext (show Ext _ _ from (by with_reducible first | exact Ext.refl _ | exact (Ext.refl _).drew | exact (Ext.refl _).alloc _ | exact ((Ext.refl _).alloc _).drew | exact ((Ext.refl _).alloc _).alloc _))).far (show v1.heap.size ≠ _ from (by first | exact Nat.ne_of_lt (Nat.lt_succ_self _) | exact Nat.ne_of_gt hs1.1.lt)) hg2));
                    (try (have hu4 := ((IntSpot.two v1 94 94).ext (show Ext _ _ from (by with_reducible first | exact Ext.refl _ | exact (Ext.refl _).drew | exact (Ext.refl _).alloc _ | exact ((Ext.refl _).alloc _).drew | exact ((Ext.refl _).alloc _).alloc _))).far (show v1.heap.size + 1 ≠ _ from (by first | exact Nat.ne_of_gt (Nat.lt_succ_self _))) hg2)))
                | (go_at_call 56; (with_reducible refine Calls.mono (hsc _ _ _ ?_ ?_ ?_ ?_) ?_); (exact (by repeat (with_reducible first | exact Ext.refl _ | assumption | refine Ext.alloc ?_ _ | refine Ext.drew ?_))); (first | exact hu1.ext (by with_reducible first | exact Ext.refl _ | exact (Ext.refl _).drew | exact (Ext.refl _).alloc _ | exact ((Ext.refl _).alloc _).drew | exact ((Ext.refl _).alloc _).alloc _) | exact hu2.ext (by with_reducible first | exact Ext.refl _ | exact (Ext.refl _).drew | exact (Ext.refl _).alloc _ | exact ((Ext.refl _).alloc _).drew | exact ((Ext.refl _).alloc _).alloc _) | exact hu3.ext (by with_reducible first | exact Ext.refl _ | exact (Ext.refl _).drew | exact (Ext.refl _).alloc _ | exact ((Ext.refl _).alloc _).drew | exact ((Ext.refl _).alloc _).alloc _) | exact hu4.ext (by with_reducible first | exact Ext.refl _ | exact (Ext.refl _).drew | exact (Ext.refl _).alloc _ | exact ((Ext.refl _).alloc _).drew | exact ((Ext.refl _).alloc _).alloc _) | exact (IntSpot.ofNew v2 _).ext (by with_reducible first | exact Ext.refl _ | exact (Ext.refl _).drew | exact (Ext.refl _).alloc _ | exact ((Ext.refl _).alloc _).drew | exact ((Ext.refl _).alloc _).alloc _)); (exact hB2.ext (by repeat (with_reducible first | exact Ext.refl _ | assumption | refine Ext.alloc ?_ _ | refine Ext.drew ?_))); (first | exact Nat.le_refl _ | exact Nat.le_succ _ | exact hxv1.size | exact Nat.le_succ_of_le hxv1.size | exact hxv2.size); rintro e v3 ⟨rfl, hxv3, hB3⟩)))
            all_goals
              go_wp2_with fail
              go_meet
              exact ⟨_, rfl, hB3, hxv3⟩
          case rest =>
            obtain ⟨av, rfl, hBV, hxx⟩ := hcut
            clear hnc hmc hsc HC4
            have hsad := HGm.out.sad (by omega) (by omega) HGp.out
            rw [← HZZ.out] at hsad
            have hz0 := hsad.pos
            have eY : solY g m T = fun i => T.R n (m + i) := by funext i; unfold solY; rw [HN.out]
            have eX : solX g m T = colX n T (m + n) := by unfold solX; rw [HN.out]
            have hAll : ∀ i l, i < n → l < m → 1 ≤ shG g i l ∧ shG g i l ≤ 201 := by rw [HN.out]; exact HG.out.sh
            have hsY : sm n (solY g m T) = z := by rw [eY]; exact hsad.sumY
            have hsX : sm m (solX g m T) = z := by rw [eX]; exact hsad.sumX
            have hfY : ∀ k, k < n → 0 ≤ solY g m T k ∧ solY g m T k ≤ 1000000000000000 := fun k hk => by
              rw [eY]
              have h1 := hsad.Y0 k hk
              have h2 := HGm.out.ent_abs hn15.2 hAll (Nat.le_refl n) (m + k)
              simp only [] at h1 ⊢
              omega
            have hfX : ∀ k, k < m → 0 ≤ solX g m T k ∧ solX g m T k ≤ 1000000000000000 := fun k hk => by
              have h1 := hsad.X0 k hk
              have h2 := sm_ge_one m hsad.X0 hk
              rw [hsad.sumX] at h2
              rw [eX]
              omega
            have hRY : RowO ws bn m n (solY g m T) := ⟨hRn.lt, fun k hk => by rw [eY]; exact hRn.ent (m + k) (by omega)⟩
            have hRX : RowO ws nb 0 m (solX g m T) := ⟨HXB.out.lt, fun k hk => by rw [Nat.zero_add]; exact HXB.out.ent k hk⟩
            have hp1 := fun W2 (hxW : Ext ws W2) cap => gparts_calls W2 bn m n cap (solY g m T) (hRY.ext hxW) (by omega) hfY (by rw [hsY]; exact hz0)
            have hp2 := fun W2 (hxW : Ext ws W2) cap => gparts_calls W2 nb 0 m cap (solX g m T) (hRX.ext hxW) (by omega) hfX (by rw [hsX]; exact hz0)
            have hrt := fun W2 (hxW : Ext wc W2) => gratio_calls W2 av az V z (hBV.ext hxW) (hBz.ext (hxx.trans hxW)) (by omega) (by omega)
            go_wp2_with fail
            rw [HSV.out, ← HZZ.out]
            obtain ⟨vn, hvn⟩ : ∃ vn, vn = V / (Int.gcd V z : Int) := ⟨_, rfl⟩
            obtain ⟨vd, hvd⟩ : ∃ vd, vd = z / (Int.gcd V z : Int) := ⟨_, rfl⟩
            obtain ⟨rl, hrl2⟩ : ∃ rl, rl = partN (solY g m T) n := ⟨_, rfl⟩
            obtain ⟨rd, hrd⟩ : ∃ rd, rd = partD (solY g m T) n := ⟨_, rfl⟩
            obtain ⟨cl, hcl2⟩ : ∃ cl, cl = partN (solX g m T) m := ⟨_, rfl⟩
            obtain ⟨cd, hcd⟩ : ∃ cd, cd = partD (solX g m T) m := ⟨_, rfl⟩
            rw [← hvn, ← hvd, ← hrl2, ← hrd, ← hcl2, ← hcd]
            rw [← hvn, ← hvd] at hrt
            replace hp1 : ∀ W2 (_ : Ext ws W2) (L cap : Nat) (_ : L = n), Calls Tryd.prog 60 #[.slice (some ⟨bn, m, none⟩) L cap] W2 (MadeParts W2 rl rd) := fun W2 h L c hL => by subst hL; rw [hrl2, hrd]; exact hp1 W2 h c
            replace hp2 : ∀ W2 (_ : Ext ws W2) (cap : Nat), Calls Tryd.prog 60 #[.slice (some ⟨nb, 0, none⟩) m cap] W2 (MadeParts W2 cl cd) := fun W2 h c => by rw [hcl2, hcd]; exact hp2 W2 h c
            have HVN := Lib.hid hvn
            have HVD := Lib.hid hvd
            have HRL := Lib.hid hrl2
            have HCL := Lib.hid hcl2
            have HRD := Lib.hid hrd
            have HCD := Lib.hid hcd
            clear hvn hvd hrl2 hrd hcl2 hcd hfX hfY hsX hsY eX eY hAll hsad hRX hRY
            have e0 : ((m : Int) + (n : Int)).toNat = m + n := by omega
            have HC4 : Hid (∀ w', Ext wc w' → w'.cell? ⟨P.t, 0, none⟩ = some (.slice (some ⟨P.rg, 0, none⟩) (n + 1) P.rc) ∧ w'.cell? ⟨P.rg, n, none⟩ = some (.slice (some ⟨bn, 0, none⟩) (m + n + 1) (m + n + 1)) ∧ w'.cell? ⟨bn, ((m : Int) + (n : Int)).toNat, none⟩ = some (.pointer (some ⟨az, 0, none⟩))) := Lib.hid (fun w' hx2 => by
              have hx := hxx.trans hx2
              exact ⟨(hx.cell (p := ⟨P.t, 0, none⟩) htl).trans hc0, (hx.cell (p := ⟨P.rg, n, none⟩) hrl).trans hrn, by rw [e0]; exact (hx.cell (p := ⟨bn, m + n, none⟩) hbl).trans hcz⟩)
            clear e0
            have hml : (m : Int) ≤ (m : Int) + (n : Int) := by omega
            have hml2 : (m : Int) + (n : Int) ≤ (m : Int) + (n : Int) + 1 := by omega
            have hspx := hspW.ext hxx
            have hbW : bn ≠ W := by
              intro e
              subst e
              obtain ⟨x, hx⟩ := hspW.c0
              obtain ⟨p, hp, -⟩ := hRn.ent 0 (by omega)
              rw [hx] at hp
              simp at hp
            have htW : P.t ≠ W := by have := hT.tIn.1; omega
            have hrW : P.rg ≠ W := by have := hT.rgIn.1; omega
            have HC6 : Hid (∀ w' u0 u1 u2 u3 u4 u5, Ext wc w' → ((((((w'.setCell ⟨W, 0, none⟩ u0).setCell ⟨W, 1, none⟩ u1).setCell ⟨W, 2, none⟩ u2).setCell ⟨W, 3, none⟩ u3).setCell ⟨W, 4, none⟩ u4).setCell ⟨W, 5, none⟩ u5).cell? ⟨P.t, 0, none⟩ = some (.slice (some ⟨P.rg, 0, none⟩) (n + 1) P.rc) ∧ ((((((w'.setCell ⟨W, 0, none⟩ u0).setCell ⟨W, 1, none⟩ u1).setCell ⟨W, 2, none⟩ u2).setCell ⟨W, 3, none⟩ u3).setCell ⟨W, 4, none⟩ u4).setCell ⟨W, 5, none⟩ u5).cell? ⟨P.rg, n, none⟩ = some (.slice (some ⟨bn, 0, none⟩) (m + n + 1) (m + n + 1)) ∧ ((((((w'.setCell ⟨W, 0, none⟩ u0).setCell ⟨W, 1, none⟩ u1).setCell ⟨W, 2, none⟩ u2).setCell ⟨W, 3, none⟩ u3).setCell ⟨W, 4, none⟩ u4).setCell ⟨W, 5, none⟩ u5).cell? ⟨bn, ((m : Int) + (n : Int)).toNat, none⟩ = some (.pointer (some ⟨az, 0, none⟩))) := Lib.hid (fun w' u0 u1 u2 u3 u4 u5 hx => by
              have hg := grown_put6 w' W u0 u1 u2 u3 u4 u5
              obtain ⟨k1, k2, k3⟩ := HC4.out w' hx
              have hs := (hxx.trans hx).size
              exact ⟨(grownBy_cell hg (p := ⟨P.t, 0, none⟩) (Nat.lt_of_lt_of_le htl hs) (by simp only [ne_eq, Option.some.injEq]; exact htW)).trans k1, (grownBy_cell hg (p := ⟨P.rg, n, none⟩) (Nat.lt_of_lt_of_le hrl hs) (by simp only [ne_eq, Option.some.injEq]; exact hrW)).trans k2, (grownBy_cell hg (p := ⟨bn, _, none⟩) (Nat.lt_of_lt_of_le hbl hs) (by simp only [ne_eq, Option.some.injEq]; exact hbW)).trans k3⟩)
            go_region_held3 (fun w' => w'.cell? ⟨P.t, 0, none⟩ = some (.slice (some ⟨P.rg, 0, none⟩) (n + 1) P.rc) ∧ w'.cell? ⟨P.rg, n, none⟩ = some (.slice (some ⟨bn, 0, none⟩) (m + n + 1) (m + n + 1)) ∧ w'.cell? ⟨bn, ((m : Int) + (n : Int)).toNat, none⟩ = some (.pointer (some ⟨az, 0, none⟩)))
              (first | (with_reducible exact HC4.out _ (by with_reducible first | assumption | exact Ext.refl _ | exact (Ext.refl _).drew | exact Ext.drew (by assumption))) | (with_reducible exact HC6.out _ _ _ _ _ _ _ (by with_reducible first | assumption | exact Ext.refl _ | exact (Ext.refl _).drew | exact Ext.drew (by assumption))))
              ((first
                | (go_at_call 59; (with_reducible refine Calls.mono (hrt _ ?_) ?_); (exact (by repeat (with_reducible first | exact Ext.refl _ | assumption | refine Ext.alloc ?_ _ | refine Ext.drew ?_))); rintro e v1 ⟨rfl, hx1⟩; have hxv1 : Ext wc v1 := Ext.trans (by repeat (with_reducible first | exact Ext.refl _ | assumption | refine Ext.alloc ?_ _ | refine Ext.drew ?_)) hx1)
                | (go_at_call 60; (with_reducible refine Calls.mono (hp1 _ ?_ _ _ ?_) ?_); (exact hxx.trans (by repeat (with_reducible first | exact Ext.refl _ | assumption | refine Ext.alloc ?_ _ | refine Ext.drew ?_))); (first | rfl | omega); rintro e v2 ⟨rv, rfl, hoR, hx2⟩; have hxv2 : Ext wc v2 := Ext.trans (by repeat (with_reducible first | exact Ext.refl _ | assumption | refine Ext.alloc ?_ _ | refine Ext.drew ?_)) hx2; obtain ⟨rvo, rvn, rvc, rfl, -⟩ := hoR.shapeCap)
                | (go_at_call 60; (with_reducible refine Calls.mono (hp2 _ ?_ _) ?_); (exact hxx.trans (by repeat (with_reducible first | exact Ext.refl _ | assumption | refine Ext.alloc ?_ _ | refine Ext.drew ?_))); rintro e v3 ⟨cv, rfl, hoC, hx3⟩; have hxv23 : Ext v2 v3 := Ext.trans (by repeat (with_reducible first | exact Ext.refl _ | assumption | refine Ext.alloc ?_ _ | refine Ext.drew ?_)) hx3; have hxv3 : Ext wc v3 := hxv2.trans hxv23; obtain ⟨cvo, cvn, cvc, rfl, -⟩ := hoC.shapeCap; have hs3 := hspx.ext hxv3; obtain ⟨e0, he0⟩ := Option.isSome_iff_exists.1 (hs3.at_ 0 (by decide)).1; obtain ⟨e1, he1⟩ := Option.isSome_iff_exists.1 (hs3.at_ 1 (by decide)).1; obtain ⟨e2, he2⟩ := Option.isSome_iff_exists.1 (hs3.at_ 2 (by decide)).1; obtain ⟨e3, he3⟩ := Option.isSome_iff_exists.1 (hs3.at_ 3 (by decide)).1; obtain ⟨e4, he4⟩ := Option.isSome_iff_exists.1 (hs3.at_ 4 (by decide)).1; obtain ⟨e5, he5⟩ := Option.isSome_iff_exists.1 (hs3.at_ 5 (by decide)).1; have f0 := (hs3.at_ 0 (by decide)).2; have f1 := (hs3.at_ 1 (by decide)).2; have f2 := (hs3.at_ 2 (by decide)).2; have f3 := (hs3.at_ 3 (by decide)).2; have f4 := (hs3.at_ 4 (by decide)).2; have f5 := (hs3.at_ 5 (by decide)).2; have hl3 := hs3.lt)))
            all_goals
              have hq := hs3.put (.int .i64 vn) (.int .i64 vd) (.slice rvo rvn rvc) (.int .i64 rd) (.slice cvo cvn cvc) (.int .i64 cd)
              have hgp := grown_put6 v3 W (.int .i64 vn) (.int .i64 vd) (.slice rvo rvn rvc) (.int .i64 rd) (.slice cvo cvn cvc) (.int .i64 cd)
              unfold put6 at hq hgp
              obtain ⟨q0, q1, q2, q3, q4, q5⟩ := hq
              have hWs := hspW.lt
              have z1 := hxx.size
              have z2 := hxv1.size
              have z3 := hxv2.size
              have z0 := hx0s.size
              have oR := ((hoR.ext hxv23).keep hgp (by right; intro e; have := (hoR.lt W e).1; omega)).rebase (base' := w.heap.size) (by omega)
              have oC := (hoC.keep hgp (by right; intro e; have := (hoC.lt W e).1; omega)).rebase (base' := w.heap.size) (by omega)
              have hxf := ((hx0s.trans hxx).trans hxv3).onto hgp (fun q hq => by simp only [Option.some.injEq] at hq; omega)
              go_wp2_with fail
              refine bodyPost_ret (v := .tuple #[.agg #[.int .i64 vn, .int .i64 vd, .slice rvo rvn rvc, .int .i64 rd, .slice cvo cvn cvc, .int .i64 cd], .int .i64 0]) (by simp [results, Tryd.results23, go_sem, q0, q1, q2, q3, q4, q5]) rfl ?_
              rw [HSV.out, ← HZZ.out, ← HVN.out, ← HVD.out, ← HRL.out, ← HRD.out, ← HCL.out, ← HCD.out]
              exact ⟨_, _, rfl, oR, oC, hxf⟩
end Go.Proofs.YtefmioppamdceaaDoor
