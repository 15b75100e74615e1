/- Inspect: what Solve returns is a saddle in lowest terms, within the limits. -/
import Derived.Test.YtefmioppamdceaaDoorMIM
import Derived.Test.YtefmioppamdceaaDoorMIF
import Derived.Test.YtefmioppamdceaaDoorMDig
import Derived.Shelf.SlSortCmp.Insertion1
import Derived.Sort.LotA
import Derived.Deep.QuietTactic
import Derived.BigQuiet
namespace Go.Proofs.YtefmioppamdceaaDoor
open Go.RowKit Go.Shelf

/-- A saddle of a game in lowest terms. -/
structure Sol (g : List (List Int)) (m : Nat) (vn vd : Int) (r : List Int) (rd : Int) (c : List Int) (cd : Int) : Prop where
  sdl : Sdl g.length m (entI g) (ith r) rd (ith c) cd vn vd
  rl : r.length = g.length
  cl : c.length = m
  rlow : ∀ d : Int, d ∣ rd → (∀ k, k < g.length → d ∣ ith r k) → d ∣ 1
  clow : ∀ d : Int, d ∣ cd → (∀ k, k < m → d ∣ ith c k) → d ∣ 1
  vlow : Int.gcd vn vd = 1
  rb : rd ≤ 2199023255552
  cb : cd ≤ 2199023255552
  vb : vd ≤ 2199023255552
  vb1 : -2199023255552 ≤ vn ∧ vn ≤ 2199023255552
theorem dvd_gcdE {s : Int} {f : Nat → Int} {d : Int} (hs : d ∣ s) : ∀ k, (∀ i, i < k → d ∣ f i) → d ∣ (gcdE s f k : Int)
  | 0, _ => by
    show d ∣ ((s.natAbs : Nat) : Int)
    rw [Int.dvd_natAbs]
    exact hs
  | k + 1, h => by
    show d ∣ ((Nat.gcd (gcdE s f k) (f k).natAbs : Nat) : Int)
    have h1 := dvd_gcdE hs k (fun i hi => h i (by omega))
    have h2 := Int.dvd_coe_gcd h1 (h k (by omega))
    exact h2
/-- Parts in lowest terms. -/
theorem parts_low {f : Nat → Int} {L : Nat} {z : Int} (hz : sm L f = z) (h0 : 0 < z) : ∃ q : Int, 0 < q ∧ (∀ k, k < L → f k = q * ith (partN f L) k) ∧ z = q * partD f L ∧ (partN f L).length = L ∧ 0 < partD f L ∧ partD f L ≤ z ∧
    ∀ d : Int, d ∣ partD f L → (∀ k, k < L → d ∣ ith (partN f L) k) → d ∣ 1 := by
  subst hz
  have hg := gcdE_pos h0 f L
  have hd := gcdE_dvd (sm L f) f L
  obtain ⟨q, hq⟩ : ∃ q : Int, q = (gcdE (sm L f) f L : Int) := ⟨_, rfl⟩
  have hq0 : 0 < q := by omega
  have hds : q ∣ sm L f := by rw [hq]; exact Int.ofNat_dvd_left.2 hd.1
  have hdf : ∀ k, k < L → q ∣ f k := fun k hk => by rw [hq]; exact Int.ofNat_dvd_left.2 (hd.2 k hk)
  have hat : ∀ k, k < L → ith (partN f L) k = f k / q := fun k hk => by
    simp [ith, partN, List.getD_eq_getElem?_getD, hk, hq]
  have hD : partD f L = sm L f / q := by rw [partD, hq]
  have e1 : ∀ k, k < L → f k = q * ith (partN f L) k := fun k hk => by rw [hat k hk]; exact (Int.mul_ediv_cancel' (hdf k hk)).symm
  have e2 : sm L f = q * partD f L := by rw [hD]; exact (Int.mul_ediv_cancel' hds).symm
  have hp : 0 < partD f L := by
    rcases Int.lt_or_le 0 (partD f L) with h | h
    · exact h
    · have := Int.mul_nonpos_of_nonneg_of_nonpos (show 0 ≤ q by omega) h; omega
  refine ⟨q, hq0, e1, e2, by simp [partN], hp, ?_, fun d h1 h2 => ?_⟩
  · rw [hD]; exact Int.ediv_le_self _ (by omega)
  · have h3 : q * d ∣ q * 1 := by
      rw [Int.mul_one]
      conv => rhs; rw [hq]
      refine dvd_gcdE ?_ L (fun k hk => ?_)
      · rw [e2]; exact Int.mul_dvd_mul_left q h1
      · rw [e1 k hk]; exact Int.mul_dvd_mul_left q (h2 k hk)
    exact Int.dvd_of_mul_dvd_mul_left (show q ≠ 0 by omega) h3
theorem gcd_low {a b : Int} (hb : 0 < b) : Int.gcd (a / (Int.gcd a b : Int)) (b / (Int.gcd a b : Int)) = 1 := by
  have hg := Int.gcd_pos_of_ne_zero_right a (show b ≠ 0 by omega)
  exact Int.gcd_ediv_gcd_ediv_gcd hg
/-- Solve finds a saddle of every game. -/
theorem solve_sol (g : List (List Int)) (m : Nat) (hG : IsG g m) : ∃ vn vd r rd c cd, Sol g m vn vd r rd c cd ∧
    ∀ (w : World) (go : Option Addr) (gc : Nat), GameIn w go g → g.length ≤ gc → Calls Tryd.prog 23 #[.slice go g.length gc] w (SadRes w vn vd r rd c cd) := by
  have hn := hG.n1
  have hm := hG.m1
  have hA : ∀ i l, i < g.length → l < m → 1 ≤ shG g i l := fun i l hi hl => (hG.sh i l hi hl).1
  obtain ⟨f, T, hr⟩ := (Gm.start g.length m (shG g)).ends hA hn
  obtain ⟨hGm, hp⟩ := Gm.run hA hn f _ T (Gm.start g.length m (shG g)) hr
  have hsad := (hGm.sad hn hm hp).less (addI g) (entI g) (fun i l _ _ => rfl)
  have hz := hsad.pos
  have hzb := hGm.z_abs hG.n5 (G := entI g) (d := addI g) (fun i l _ _ => rfl) hG.ent
  have hvb := hGm.v_abs hG.n5 (G := entI g) (d := addI g) (fun i l _ _ => rfl) hG.ent
  obtain ⟨p, hp0, p1, p2, p3, p4, p5, p6⟩ := parts_low (f := solY g m T) (L := g.length) hsad.sumY hz
  obtain ⟨k, hk0, k1, k2, k3, k4, k5, k6⟩ := parts_low (f := solX g m T) (L := m) hsad.sumX hz
  obtain ⟨z, hzd⟩ : ∃ z, z = T.R g.length (m + g.length) := ⟨_, rfl⟩
  obtain ⟨V, hV⟩ : ∃ V, V = solV g m T := ⟨_, rfl⟩
  have hgp := Int.gcd_pos_of_ne_zero_right V (show z ≠ 0 by omega)
  have hdV : ((Int.gcd V z : Nat) : Int) ∣ V := Int.gcd_dvd_left _ _
  have hdz : ((Int.gcd V z : Nat) : Int) ∣ z := Int.gcd_dvd_right _ _
  have eV : V = (Int.gcd V z : Int) * (V / (Int.gcd V z : Int)) := (Int.mul_ediv_cancel' hdV).symm
  have ez : z = (Int.gcd V z : Int) * (z / (Int.gcd V z : Int)) := (Int.mul_ediv_cancel' hdz).symm
  refine ⟨V / (Int.gcd V z : Int), z / (Int.gcd V z : Int), partN (solY g m T) g.length, partD (solY g m T) g.length, partN (solX g m T) m, partD (solX g m T) m, ⟨?_, p3, k3, p6, k6, gcd_low (by omega), by omega, by omega, ?_, ?_⟩, fun w go gc hI hgc => ?_⟩
  · rw [hzd] at ez
    have hV2 : V = T.b - addI g * T.R g.length (m + g.length) := hV
    refine Sad.sdl hsad hp0 hk0 (show (0 : Int) < (Int.gcd V z : Int) by omega) p1 p2 k1 k2 (hV2.symm.trans eV) ?_
    rw [← hzd] at ez ⊢
    exact ez
  · have := Int.ediv_le_self (a := z) (Int.gcd V z : Int) (by omega); omega
  · have hV2 : V = T.b - addI g * T.R g.length (m + g.length) := hV
    rw [← hV2] at hvb
    rw [← Int.tdiv_eq_ediv_of_dvd hdV]
    have h : (V.tdiv (Int.gcd V z : Int)).natAbs ≤ V.natAbs := by rw [Int.natAbs_tdiv]; exact Nat.div_le_self _ _
    omega
  · rw [hV, hzd]
    exact solve_calls w go gc g m f T hI hgc hG hr
end Go.Proofs.YtefmioppamdceaaDoor

/- Inspect, the boxes: upTo, the comparison of boxes, the stable sort of few of them. -/
namespace Go.Proofs.YtefmioppamdceaaDoor
open Go.RowKit Go.Shelf Go.Sort

def nums (n : Nat) : List Int := (List.range n).map fun k : Nat => (k : Int)
theorem nums_succ (k : Nat) : nums (k + 1) = nums k ++ [(k : Int)] := by simp [nums, List.range_succ]
theorem nums_at (n j : Nat) (h : j < n) : ith (nums n) j = (j : Int) := by
  simp [ith, nums, List.getD_eq_getElem?_getD, h]
theorem nums_length (n : Nat) : (nums n).length = n := by simp [nums]
set_option maxRecDepth 100000 in
theorem upTo_calls (w : World) (n : Nat) (hn : n ≤ 1000) : Calls Tryd.prog 34 #[.int .i64 n] w (Made w (nums n)) := by
  obtain ⟨i0, hi, hz0, hz1, hz2⟩ := info_parts info_int
  obtain ⟨W, hW⟩ : ∃ W, W = w.heap.size := ⟨_, rfl⟩
  go_enter Tryd.func34, Tryd.ntmps34
  go_wp2_with fail
  go_loopw [3, 6] (fun ov i wr => ∃ k : Nat, k ≤ n ∧ i = .int .i64 k ∧ Ext w wr ∧ Own wr W 1 ov (ints (nums k))) (fun _ i _ => n - (intOf i).toNat)
  case atStart => exact ⟨0, by omega, rfl, (by repeat (first | exact Ext.refl _ | assumption | refine Ext.alloc ?_ _ | refine Ext.drewN ?_ _ | refine Ext.drew ?_)), Own.nil _ _ _⟩
  case round =>
    rename World => wr2
    obtain ⟨k, hk, rfl, hx2, ho⟩ := hrel
    have hWr : W ≤ wr2.heap.size := by rw [hW]; exact hx2.size
    by_cases hlt : k < n
    · have hkl := nums_length k
      have hlow := ho.lt
      go_wp2_with (at_builtin; refine wpList_append_Own _ rfl _ _ 30 rfl 3 i0 (.int .i64 0) 1 8 Tryd.underlying30 hi hz0 hz1 hz2 rfl (by omega) W _ _ rfl (Own.ext ho ((Ext.refl _).alloc _)) (by first | omega | (simp; omega)) _ 1 1 [.int .i64 (k : Int)] rfl rfl (one_cell _ _ _ _ rfl) (by simp [Value.oneCell']) (by rw [ints_length, hkl]; unfold maxLen; simp only [List.length_cons, List.length_nil]; omega) (by rw [ints_length, hkl]; simp only [List.length_cons, List.length_nil]; omega) ?_; intro v5 w5 ho5 hg5 hb5)
      rw [ints_snoc, ← nums_succ] at ho5
      exact ⟨⟨k + 1, by omega, by go_num, (hx2.alloc _).onto hg5 (fun q hq => by have := (hlow q hq).1; omega), ho5⟩, by simp only [intOf]; omega⟩
    · obtain rfl : k = n := by omega
      go_wp2_with fail
      go_ret
      exact ⟨_, rfl, by rw [← hW]; exact ho, hx2⟩
set_option maxRecDepth 100000 in
theorem cmpIntE_calls (w : World) (x y : Int) : Calls Tryd.prog 37 #[.int .i64 x, .int .i64 y] w fun e w' => e = .returned (.int .i64 (cmpZ x y)) ∧ w' = w := by
  have hn : ∀ W (z : Int), Calls Tryd.prog 75 #[.int .i64 z] W fun e w' => e = .returned (.bool false) ∧ w' = W := by
    intro W z
    go_enter Tryd.func75, Tryd.ntmps75
    go_wp2_with fail
    go_ret
    exact ⟨rfl, rfl⟩
  go_enter Tryd.func37, Tryd.ntmps37
  go_wp2_with fail
  refine (hn _ x).mono ?_
  rintro e w2 ⟨rfl, rfl⟩
  go_wp2_with fail
  refine (hn _ y).mono ?_
  rintro e w3 ⟨rfl, rfl⟩
  rcases cmpZ_cases x y with ⟨h1, h2⟩ | ⟨h1, h2⟩ | ⟨h1, h2⟩
  all_goals
    have HC := Lib.hid h2
    clear h2
    try subst h1
    go_wp2_with fail
    go_ret
    exact ⟨ret_int HC.out.symm, rfl⟩
set_option maxRecDepth 100000 in
/-- Boxes are compared by their worth, the greater first. -/
theorem boxCmp_calls (W : World) (bx cap : Nat) (ao : Option Addr) (ws : List Int) (x y : Nat) (hx : x < ws.length) (hy : y < ws.length) (hc : W.cell? ⟨bx, 0, none⟩ = some (.slice ao ws.length cap)) (hI : IntsIn W ao ws) :
    Calls Tryd.prog 36 #[.int .i64 x, .int .i64 y, .pointer (some ⟨bx, 0, none⟩)] W fun e w' => e = .returned (.int .i64 (cmpZ (ith ws y) (ith ws x))) ∧ ∃ q, w' = W.drewN q := by
  obtain ⟨b, off, hao, hb, c1⟩ := hI x hx
  obtain ⟨b2, off2, hao2, hb2, c2⟩ := hI y hy
  rw [hao] at hao2
  simp only [Option.some.injEq, Addr.mk.injEq] at hao2
  obtain ⟨rfl, rfl, -⟩ := hao2
  subst hao
  have hxz : (x : Int) < (ws.length : Int) := by omega
  have hyz : (y : Int) < (ws.length : Int) := by omega
  clear hI
  go_enter Tryd.func36, Tryd.ntmps36
  go_wp2_with fail
  go_quiet ((go_at_call 37; refine Calls.quiet_of_same (cmpIntE_calls _ _ _)))
  go_wp2_with fail
  go_ret
  exact ⟨rfl, nq, rfl⟩
/-- This program bears the library's insertion sort. -/
def insRen : Ren := ⟨fun | 20 => 106 | n => n, fun | 0 => 0 | 3 => 3 | 4 => 4 | 22 => 30 | 24 => 3 | 25 => 28 | n => n, fun n => n⟩
theorem insLay : SlLaysF.n20 Tryd.prog insRen where
  mixed := by kernel_rfl
  f20 := ⟨Tryd.f106.name, by kernel_rfl, Tryd.func106.trans (congrArg some (by kernel_rfl))⟩
  t0 := Tryd.underlying0
  a0 := Tryd.isAgg0
  z0 := Tryd.sizeOf0
  v0 := Tryd.zeroValue0
  t3 := Tryd.underlying3
  a3 := Tryd.isAgg3
  z3 := Tryd.sizeOf3
  v3 := Tryd.zeroValue3
  t4 := Tryd.underlying4
  a4 := Tryd.isAgg4
  z4 := Tryd.sizeOf4
  v4 := Tryd.zeroValue4
  t22 := Tryd.underlying30
  a22 := Tryd.isAgg30
  z22 := Tryd.sizeOf30
  v22 := Tryd.zeroValue30
  a24 := Tryd.isAgg3
  z24 := Tryd.sizeOf3
  t25 := Tryd.underlying28
  a25 := Tryd.isAgg28
  z25 := Tryd.sizeOf28
  v25 := Tryd.zeroValue28

section
variable {m : Nat}
def encF (i : Fin (m + 1)) : Value := .int .i64 (i.val : Nat)
/-- The comparison of boxes by their worth. -/
def cmpF (ws : List Int) (x y : Fin (m + 1)) : Int := cmpZ (ith ws y.val) (ith ws x.val)
theorem lt_cmpF (ws : List Int) (x y : Fin (m + 1)) : ltOf (cmpF ws) x y = decide (ith ws y.val < ith ws x.val) := by
  unfold ltOf cmpF
  rw [decide_eq_decide]
  rcases cmpZ_cases (ith ws y.val) (ith ws x.val) with ⟨h1, h2⟩ | ⟨h1, h2⟩ | ⟨h1, h2⟩ <;> rw [h2] <;> omega
theorem swo_cmpF (ws : List Int) : SWO (ltOf (cmpF (m := m) ws)) where
  irrefl x := by rw [lt_cmpF]; simp
  trans x y z h1 h2 := by rw [lt_cmpF] at *; simp only [decide_eq_true_eq] at *; omega
  ntrans x y z h1 h2 := by rw [lt_cmpF] at *; simp only [decide_eq_false_iff_not] at *; omega
theorem grown_sortWorld (w : World) (n g off : Nat) (d : Array (Fin (m + 1))) (os : Array Obj) : w.grownBy (sortWorld encF w g off n d os) (some g) := by
  have h1 : w.grownBy (putRow encF (Sort.ahead w n) g off d) (some g) := by
    refine ⟨rfl, rfl, rfl, by simp [putRow, mapBlock, Sort.ahead], fun k _ hk => ?_⟩
    have hne : ¬ g = k := fun e => hk (by rw [e])
    unfold putRow mapBlock
    simp [Sort.ahead, Array.getElem?_modify, hne]
  unfold sortWorld
  exact grownBy_trans h1 ⟨rfl, rfl, rfl, by simp, fun _ hk _ => heap_grow_old _ os hk⟩
theorem cmp_lays (ws : List Int) (w : World) (g off bx cap : Nat) (ao : Option Addr) (hn : ws.length = m + 1) (hbx : bx < w.heap.size) (hc : w.cell? ⟨bx, 0, none⟩ = some (.slice ao ws.length cap)) (hI : IntsIn w ao ws) (hgb : bx ≠ g) (hga : ∀ a, ao = some a → a.block ≠ g) (size : Nat) :
    CmpLays1 Tryd.prog 36 #[.pointer (some ⟨bx, 0, none⟩)] encF (cmpF (m := m) ws) g off size w := by
  intro k os dk _ x y
  have hg := grown_sortWorld w k g off dk os
  have hc' := (grownBy_cell hg (p := ⟨bx, 0, none⟩) hbx (by simpa using hgb)).trans hc
  have hI' : IntsIn (sortWorld encF w g off k dk os) ao ws := by
    intro j hj
    obtain ⟨b, o, e, hb, h0⟩ := hI j hj
    exact ⟨b, o, e, Nat.lt_of_lt_of_le hb hg.size, (grownBy_cell hg (p := ⟨b, o + j, none⟩) hb (by have := hga _ e; simpa using this)).trans h0⟩
  refine (boxCmp_calls _ bx cap ao ws x.val y.val (by have := x.isLt; omega) (by have := y.isLt; omega) hc' hI').mono ?_
  rintro e w' ⟨he, q, hq⟩
  exact ⟨he, q, #[], by rw [hq, grow_empty]⟩
theorem eg_box : ∀ args w, (callFunc 36 args).run Tryd.prog w = .ok (.enter 36 args) w := enters_of Tryd.func36 (by kernel_rfl) rfl
/-- The first numbers, as an array. -/
def firstF (m : Nat) : Array (Fin (m + 1)) := Array.ofFn (fun i : Fin (m + 1) => i)
theorem firstF_at (j : Nat) (hj : j < m + 1) : (firstF m)[j]! = ⟨j, hj⟩ := by
  rw [getElem!_pos _ j (by simp [firstF]; exact hj)]
  simp [firstF]
/-- An order of boxes. -/
structure Order (ws od : List Int) : Prop where
  perm : od.Perm (nums ws.length)
  fall : ∀ i j : Nat, i < j → j < ws.length → ith ws (ith od j).toNat ≤ ith ws (ith od i).toNat
def OrdRes (w : World) (ws : List Int) (g off : Nat) (e : Ending) (w' : World) : Prop :=
  e = .returned (.tuple #[]) ∧ ∃ od : List Int, Order ws od ∧ (∀ j, j < ws.length → w'.cell? ⟨g, off + j, none⟩ = some (.int .i64 (ith od j))) ∧ w.grownBy w' (some g)
theorem insert_calls (ws : List Int) (w : World) (B g off cap bx wcap : Nat) (ao : Option Addr) (hn : ws.length = m + 1) (hl : ws.length ≤ 1000000) (ho : Own w B 1 (.slice (some ⟨g, off, none⟩) ws.length cap) (ints (nums ws.length)))
    (hbx : bx < w.heap.size) (hc : w.cell? ⟨bx, 0, none⟩ = some (.slice ao ws.length wcap)) (hI : IntsIn w ao ws) (hgb : bx ≠ g) (hga : ∀ a, ao = some a → a.block ≠ g) :
    Calls Tryd.prog 106 #[.slice (some ⟨g, off, none⟩) ws.length cap, .int .i64 0, .int .i64 ws.length, .func (.func 36) #[] #[.pointer (some ⟨bx, 0, none⟩)]] w (OrdRes w ws g off) := by
  have hsz : (firstF m).size = m + 1 := by simp [firstF]
  have hH : Holds encF w g off (firstF m) := by
    intro j hj
    rw [hsz] at hj
    have h := ho.cellAt j (by rw [ints_length, nums_length]; omega)
    refine ⟨?_, h.2⟩
    rw [h.1, firstF_at j hj, ints_at (nums ws.length) j (by rw [nums_length]; omega), nums_at _ _ (by omega)]
    rfl
  have h := Any.insertionSortCmpFunc_s insLay encF (cmpF ws) 36 #[.pointer (some ⟨bx, 0, none⟩)] g off cap 0 (m + 1) (firstF m) (firstF m) w w eg_box (cmp_lays ws w g off bx wcap ao hn hbx hc hI hgb hga _) ⟨fun _ => rfl, hH, (ho.lt g rfl).2⟩ rfl (SW.start hH) (by omega) (by omega) (by omega)
  rw [hsz] at h
  rw [hn]
  refine h.mono ?_
  rintro e w' ⟨rfl, hS⟩
  obtain ⟨⟨h1, -, h2⟩, hSo⟩ := insertionSort_holds (swo_cmpF ws) (firstF m) 0 (m + 1) (by omega) (by omega)
  obtain ⟨d, hd⟩ : ∃ d, d = insertionSort (ltOf (cmpF ws)) (firstF m) 0 (m + 1) := ⟨_, rfl⟩
  rw [← hd] at hS h1 h2 hSo
  rw [hsz] at h1
  have e1 : d.extract 0 (m + 1) = d := Array.ext (by simp; omega) (fun i _ _ => by simp)
  have e2 : (firstF m).extract 0 (m + 1) = firstF m := Array.ext (by simp; omega) (fun i _ _ => by simp)
  rw [e1, e2] at h2
  have hH' := hS.holds (ho.lt g rfl).2 hH (by rw [h1, hsz])
  have hat : ∀ j : Nat, j < m + 1 → ith (d.toList.map fun i => ((i.val : Nat) : Int)) j = ((d[j]!).val : Int) := by
    intro j hj
    rw [getElem!_pos d j (by omega)]
    simp [ith, List.getD_eq_getElem?_getD, h1, hj]
  refine ⟨rfl, d.toList.map fun i => ((i.val : Nat) : Int), ⟨?_, fun i j hij hj => ?_⟩, fun j hj => ?_, ?_⟩
  · have h3 := h2.map (fun i : Fin (m + 1) => ((i.val : Nat) : Int))
    refine h3.trans (List.Perm.of_eq ?_)
    refine List.ext_getElem (by simp [hsz, nums, hn]) (fun k a b => ?_)
    simp only [List.getElem_map, Array.getElem_toList, firstF, Array.getElem_ofFn, nums, List.getElem_range]
  · rw [hat i (by omega), hat j (by omega)]
    have h3 := hSo i j (by omega) hij (by omega)
    rw [lt_cmpF, decide_eq_false_iff_not] at h3
    simpa using h3
  · rw [hat j (by omega)]
    exact (hH' j (by omega)).1
  · obtain ⟨k, os, rfl⟩ := hS
    exact grown_sortWorld _ _ _ _ _ _
set_option maxRecDepth 100000 in
set_option maxHeartbeats 2000000 in
theorem stable_calls (ws : List Int) (w : World) (B g off cap bx wcap : Nat) (ao : Option Addr) (hn : ws.length = m + 1) (hl : ws.length < 20) (ho : Own w B 1 (.slice (some ⟨g, off, none⟩) ws.length cap) (ints (nums ws.length)))
    (hbx : bx < w.heap.size) (hc : w.cell? ⟨bx, 0, none⟩ = some (.slice ao ws.length wcap)) (hI : IntsIn w ao ws) (hgb : bx ≠ g) (hga : ∀ a, ao = some a → a.block ≠ g) :
    Calls Tryd.prog 74 #[.slice (some ⟨g, off, none⟩) ws.length cap, .int .i64 ws.length, .func (.func 36) #[] #[.pointer (some ⟨bx, 0, none⟩)]] w (OrdRes w ws g off) := by
  have hins := insert_calls ws w B g off cap bx wcap ao hn (by omega) ho hbx hc hI hgb hga
  have hlz : (ws.length : Int) < 20 := by omega
  clear ho hc hI hga hn
  generalize ws.length = N at *
  go_enter Tryd.func74, Tryd.ntmps74
  go_wp2_with fail
  go_loopw [7, 8] (fun a b wr => a = .int .i64 0 ∧ b = .int .i64 20 ∧ wr = w) (fun _ _ _ => 0)
  case atStart => exact ⟨rfl, rfl, rfl⟩
  case round =>
    obtain ⟨rfl, rfl, rfl⟩ := hrel
    go_wp2_with fail
    (with_reducible refine Calls.mono hins ?_)
    intro e w2 hR
    have he := hR.1
    subst he
    go_wp2_with fail
    go_loopw [6, 7, 8, 9] (fun a _ _ _ wr => a = .int .i64 20 ∧ wr = w2) (fun _ _ _ _ _ => 0)
    case atStart => exact ⟨rfl, rfl⟩
    case round =>
      obtain ⟨rfl, rfl⟩ := hrel
      go_wp2_with fail
      exact bodyPost_end (v := .tuple #[]) (by simp [results, Tryd.results74, go_sem]) rfl hR
set_option maxRecDepth 100000 in
theorem stableFn_calls (ws : List Int) (w : World) (B g off cap bx wcap : Nat) (ao : Option Addr) (hn : ws.length = m + 1) (hl : ws.length < 20) (ho : Own w B 1 (.slice (some ⟨g, off, none⟩) ws.length cap) (ints (nums ws.length)))
    (hbx : bx < w.heap.size) (hc : w.cell? ⟨bx, 0, none⟩ = some (.slice ao ws.length wcap)) (hI : IntsIn w ao ws) (hgb : bx ≠ g) (hga : ∀ a, ao = some a → a.block ≠ g) :
    Calls Tryd.prog 35 #[.slice (some ⟨g, off, none⟩) ws.length cap, .func (.func 36) #[] #[.pointer (some ⟨bx, 0, none⟩)]] w (OrdRes w ws g off) := by
  have hins := stable_calls ws w B g off cap bx wcap ao hn hl ho hbx hc hI hgb hga
  clear ho hc hI hga hn
  generalize ws.length = N at *
  go_enter Tryd.func35, Tryd.ntmps35
  go_wp2_with fail
  (with_reducible refine Calls.mono hins ?_)
  intro e w2 hR
  have he := hR.1
  subst he
  go_wp2_with fail
  exact bodyPost_end (v := .tuple #[]) (by simp [results, Tryd.results35, go_sem]) rfl hR
end
end Go.Proofs.YtefmioppamdceaaDoor

/- Inspect: gcd, fraction, plus, minus of fractions in lowest terms. -/
namespace Go.Proofs.YtefmioppamdceaaDoor
open Go.RowKit Go.Shelf

/-- A fraction as the program has it. -/
def ratV (q : Rat) : Value := .agg #[.int .i64 q.num, .int .i64 q.den]
set_option maxRecDepth 100000 in
theorem gcdI_calls (w : World) (a b : Int) (ha : -4611686018427387904 ≤ a ∧ a ≤ 4611686018427387904) (hb : -4611686018427387904 ≤ b ∧ b ≤ 4611686018427387904) :
    Calls Tryd.prog 41 #[.int .i64 a, .int .i64 b] w fun e w' => e = .returned (.int .i64 (Int.gcd a b)) ∧ Ext w w' := by
  go_enter Tryd.func41, Tryd.ntmps41
  go_wp2_with fail
  go_loopw [0, 1] (fun x y wr => ∃ p q : Int, x = .int .i64 p ∧ y = .int .i64 q ∧ Hid (Int.gcd p q = Int.gcd a b) ∧ (-4611686018427387904 ≤ p ∧ p ≤ 4611686018427387904) ∧ (-4611686018427387904 ≤ q ∧ q ≤ 4611686018427387904) ∧ Ext w wr) (fun _ y _ => (intOf y).natAbs)
  case atStart => exact ⟨a, b, rfl, rfl, Lib.hid rfl, ha, hb, Ext.refl _⟩
  case round =>
    obtain ⟨p, q, rfl, rfl, HG, hp, hq, hx⟩ := hrel
    by_cases h0 : q = 0
    · subst h0
      have hg := HG.out
      by_cases hn : p < 0
      · have hp2 : ¬ -p ≤ p := by omega
        have hp3 : p ≤ -p := by omega
        go_wp2_with fail
        go_ret
        refine ⟨ret_int ?_, hx⟩
        rw [← hg, Int.gcd_zero]
        omega
      · have hp2 : -p ≤ p := by omega
        by_cases hz : p = 0
        · subst hz
          go_wp2_with fail
          go_ret
          refine ⟨ret_int ?_, hx⟩
          rw [← hg]; rfl
        · have hp3 : ¬ p ≤ -p := by omega
          go_wp2_with fail
          go_ret
          refine ⟨ret_int ?_, hx⟩
          rw [← hg, Int.gcd_zero]
          omega
    · have h1 : (p.tmod q).natAbs < q.natAbs := by
        rw [Int.natAbs_tmod]; exact Nat.mod_lt _ (by omega)
      go_wp2_with fail
      go_region
      go_wp2_with fail
      refine ⟨⟨q, p.tmod q, rfl, rfl, Lib.hid ?_, hq, by omega, (by repeat (first | exact Ext.refl _ | assumption | refine Ext.alloc ?_ _ | refine Ext.drewN ?_ _ | refine Ext.drew ?_))⟩, by simp only [intOf]; omega⟩
      rw [← HG.out, Int.gcd, Int.gcd, Int.natAbs_tmod, Nat.gcd_comm, ← Nat.gcd_rec, Nat.gcd_comm]
theorem divInt_num {a b : Int} (hb : 0 < b) : (Rat.divInt a b).num = a / (Int.gcd a b : Int) := by
  rw [Rat.num_divInt, Int.sign_eq_one_of_pos hb, Int.one_mul, Int.gcd_comm]
theorem divInt_den {a b : Int} (hb : 0 < b) : (((Rat.divInt a b).den : Nat) : Int) = b / (Int.gcd a b : Int) := by
  rw [Rat.den_divInt, if_neg (by omega), Int.gcd_comm]
  obtain ⟨k, rfl⟩ : ∃ k : Nat, b = (k : Int) := ⟨b.natAbs, by omega⟩
  simp
set_option maxRecDepth 100000 in
set_option maxHeartbeats 2000000 in
theorem fractionI_calls (w : World) (a b : Int) (ha : -4611686018427387904 ≤ a ∧ a ≤ 4611686018427387904) (hb : 0 < b ∧ b ≤ 4611686018427387904) :
    Calls Tryd.prog 76 #[.int .i64 a, .int .i64 b] w fun e w' => e = .returned (ratV (Rat.divInt a b)) ∧ Ext w w' := by
  obtain ⟨g, hg⟩ : ∃ g : Int, g = (Int.gcd a b : Int) := ⟨_, rfl⟩
  have hgc := fun W => gcdI_calls W a b ha (by omega)
  have hg0 : 0 < g := by rw [hg]; have := Int.gcd_pos_of_ne_zero_right a (show b ≠ 0 by omega); omega
  have hga : g ∣ a := by rw [hg]; exact Int.gcd_dvd_left _ _
  have hgb : g ∣ b := by rw [hg]; exact Int.gcd_dvd_right _ _
  obtain ⟨rn, hrn⟩ : ∃ rn, rn = a / g := ⟨_, rfl⟩
  obtain ⟨rd, hrd⟩ : ∃ rd, rd = b / g := ⟨_, rfl⟩
  have HV : Hid (.agg #[.int .i64 rn, .int .i64 rd] = ratV (Rat.divInt a b)) := Lib.hid (by rw [ratV, divInt_num hb.1, divInt_den hb.1, ← hg, hrn, hrd])
  have hq1 : a.tdiv g = rn := by rw [hrn]; exact Int.tdiv_eq_ediv_of_dvd hga
  have hq2 : b.tdiv g = rd := by rw [hrd]; exact Int.tdiv_eq_ediv_of_dvd hgb
  have hr1 : -4611686018427387904 ≤ rn ∧ rn ≤ 4611686018427387904 := by
    have h1 : rn.natAbs ≤ a.natAbs := by rw [hrn, Int.natAbs_ediv_of_dvd hga]; exact Nat.div_le_self _ _
    omega
  have hr2 : -4611686018427387904 ≤ rd ∧ rd ≤ 4611686018427387904 := by
    have h1 : rd.natAbs ≤ b.natAbs := by rw [hrd, Int.natAbs_ediv_of_dvd hgb]; exact Nat.div_le_self _ _
    omega
  have hmx : max g 1 = g := by omega
  have hgz : ¬ g = 0 := by omega
  have hgz2 : (g == 0) = false := by simp; omega
  rw [← hg] at hgc
  clear hrn hrd hg hga hgb
  go_enter Tryd.func76, Tryd.ntmps76
  go_wp2_with fail
  have hx1 : Ext w (w.alloc (Obj.cells #[.int .i64 0, .int .i64 0] 23)) := (by repeat (first | exact Ext.refl _ | assumption | refine Ext.alloc ?_ _ | refine Ext.drewN ?_ _ | refine Ext.drew ?_))
  have hsp := Spot.new w 23 (.int .i64 0) (.int .i64 0)
  obtain ⟨W, hW⟩ : ∃ W, W = w.heap.size := ⟨_, rfl⟩
  generalize hw1 : (w.alloc (Obj.cells #[.int .i64 0, .int .i64 0] 23)) = w1 at *
  rw [← hW] at hsp ⊢
  have hWw : w.heap.size ≤ W := by omega
  clear hw1 hW
  refine (hgc w1).mono ?_
  rintro e w2 ⟨rfl, hx2⟩
  have hsq := hsp.ext hx2
  have hx12 := hx1.trans hx2
  obtain ⟨s0, hs0⟩ := Option.isSome_iff_exists.1 hsq.some0
  obtain ⟨s1, hs1⟩ := Option.isSome_iff_exists.1 hsq.some1
  have f0 := hsq.free0
  have f1 := hsq.free1
  have hlq := hsq.lt
  clear hgc
  go_wp2_with fail
  go_region
  all_goals
    go_wp2_with fail
    obtain ⟨q0, q1⟩ := hsq.put (.int .i64 rn) (.int .i64 rd)
    refine bodyPost_ret (v := .agg #[.int .i64 rn, .int .i64 rd]) (by simp [results, Tryd.results76, go_sem, q0, q1]) rfl ?_
    exact ⟨by rw [HV.out], ((hx12.setOwn _ _ hWw).setOwn _ _ hWw).drew⟩
end Go.Proofs.YtefmioppamdceaaDoor
