/- Inspect: what Solve returns is a saddle in lowest terms, within the limits. -/
import Derived.Test.YtefmioppamdceaaDoorMIM
import Derived.Test.YtefmioppamdceaaDoorMIH
import Derived.Test.YtefmioppamdceaaDoorMKD
import Derived.Laws.StructEq
import Derived.Test.YtefmioppamdceaaDoorMYK
namespace Go.Proofs.YtefmioppamdceaaDoor
open Go.RowKit Go.Shelf

/-- A saddle of a game in lowest terms. -/
structure Sol (g : List (List Int)) (m : Nat) (vn vd : Int) (r : List Int) (rd : Int) (c : List Int) (cd : Int) : Prop where
  sdl : Sdl g.length m (entI g) (ith r) rd (ith c) cd vn vd
  rl : r.length = g.length
  cl : c.length = m
  rlow : ∀ d : Int, d ∣ rd → (∀ k, k < g.length → d ∣ ith r k) → d ∣ 1
  clow : ∀ d : Int, d ∣ cd → (∀ k, k < m → d ∣ ith c k) → d ∣ 1
  vlow : Int.gcd vn vd = 1
  rb : rd ≤ 2199023255552
  cb : cd ≤ 2199023255552
  vb : vd ≤ 2199023255552
  vb1 : -2199023255552 ≤ vn ∧ vn ≤ 2199023255552
theorem dvd_gcdE {s : Int} {f : Nat → Int} {d : Int} (hs : d ∣ s) : ∀ k, (∀ i, i < k → d ∣ f i) → d ∣ (gcdE s f k : Int)
  | 0, _ => by
    show d ∣ ((s.natAbs : Nat) : Int)
    rw [Int.dvd_natAbs]
    exact hs
  | k + 1, h => by
    show d ∣ ((Nat.gcd (gcdE s f k) (f k).natAbs : Nat) : Int)
    have h1 := dvd_gcdE hs k (fun i hi => h i (by omega))
    have h2 := Int.dvd_coe_gcd h1 (h k (by omega))
    exact h2
/-- Parts in lowest terms. -/
theorem parts_low {f : Nat → Int} {L : Nat} {z : Int} (hz : sm L f = z) (h0 : 0 < z) : ∃ q : Int, 0 < q ∧ (∀ k, k < L → f k = q * ith (partN f L) k) ∧ z = q * partD f L ∧ (partN f L).length = L ∧ 0 < partD f L ∧ partD f L ≤ z ∧
    ∀ d : Int, d ∣ partD f L → (∀ k, k < L → d ∣ ith (partN f L) k) → d ∣ 1 := by
  subst hz
  have hg := gcdE_pos h0 f L
  have hd := gcdE_dvd (sm L f) f L
  obtain ⟨q, hq⟩ : ∃ q : Int, q = (gcdE (sm L f) f L : Int) := ⟨_, rfl⟩
  have hq0 : 0 < q := by omega
  have hds : q ∣ sm L f := by rw [hq]; exact Int.ofNat_dvd_left.2 hd.1
  have hdf : ∀ k, k < L → q ∣ f k := fun k hk => by rw [hq]; exact Int.ofNat_dvd_left.2 (hd.2 k hk)
  have hat : ∀ k, k < L → ith (partN f L) k = f k / q := fun k hk => by
    simp [ith, partN, List.getD_eq_getElem?_getD, hk, hq]
  have hD : partD f L = sm L f / q := by rw [partD, hq]
  have e1 : ∀ k, k < L → f k = q * ith (partN f L) k := fun k hk => by rw [hat k hk]; exact (Int.mul_ediv_cancel' (hdf k hk)).symm
  have e2 : sm L f = q * partD f L := by rw [hD]; exact (Int.mul_ediv_cancel' hds).symm
  have hp : 0 < partD f L := by
    rcases Int.lt_or_le 0 (partD f L) with h | h
    · exact h
    · have := Int.mul_nonpos_of_nonneg_of_nonpos (show 0 ≤ q by omega) h; omega
  refine ⟨q, hq0, e1, e2, by simp [partN], hp, ?_, fun d h1 h2 => ?_⟩
  · rw [hD]; exact Int.ediv_le_self _ (by omega)
  · have h3 : q * d ∣ q * 1 := by
      rw [Int.mul_one]
      conv => rhs; rw [hq]
      refine dvd_gcdE ?_ L (fun k hk => ?_)
      · rw [e2]; exact Int.mul_dvd_mul_left q h1
      · rw [e1 k hk]; exact Int.mul_dvd_mul_left q (h2 k hk)
    exact Int.dvd_of_mul_dvd_mul_left (show q ≠ 0 by omega) h3
theorem gcd_low {a b : Int} (hb : 0 < b) : Int.gcd (a / (Int.gcd a b : Int)) (b / (Int.gcd a b : Int)) = 1 := by
  have hg := Int.gcd_pos_of_ne_zero_right a (show b ≠ 0 by omega)
  exact Int.gcd_ediv_gcd_ediv_gcd hg
/-- Solve finds a saddle of every game. -/
theorem solve_sol (g : List (List Int)) (m : Nat) (hG : IsG g m) : ∃ vn vd r rd c cd, Sol g m vn vd r rd c cd ∧
    ∀ (w : World) (go : Option Addr) (gc : Nat), GameIn w go g → g.length ≤ gc → Calls Tryd.prog 23 #[.slice go g.length gc] w (SadRes w vn vd r rd c cd) := by
  have hn := hG.n1
  have hm := hG.m1
  have hA : ∀ i l, i < g.length → l < m → 1 ≤ shG g i l := fun i l hi hl => (hG.sh i l hi hl).1
  obtain ⟨f, T, hr⟩ := (Gm.start g.length m (shG g)).ends hA hn
  obtain ⟨hGm, hp⟩ := Gm.run hA hn f _ T (Gm.start g.length m (shG g)) hr
  have hsad := (hGm.sad hn hm hp).less (addI g) (entI g) (fun i l _ _ => rfl)
  have hz := hsad.pos
  have hzb := hGm.z_abs hG.n5 (G := entI g) (d := addI g) (fun i l _ _ => rfl) hG.ent
  have hvb := hGm.v_abs hG.n5 (G := entI g) (d := addI g) (fun i l _ _ => rfl) hG.ent
  obtain ⟨p, hp0, p1, p2, p3, p4, p5, p6⟩ := parts_low (f := solY g m T) (L := g.length) hsad.sumY hz
  obtain ⟨k, hk0, k1, k2, k3, k4, k5, k6⟩ := parts_low (f := solX g m T) (L := m) hsad.sumX hz
  obtain ⟨z, hzd⟩ : ∃ z, z = T.R g.length (m + g.length) := ⟨_, rfl⟩
  obtain ⟨V, hV⟩ : ∃ V, V = solV g m T := ⟨_, rfl⟩
  have hgp := Int.gcd_pos_of_ne_zero_right V (show z ≠ 0 by omega)
  have hdV : ((Int.gcd V z : Nat) : Int) ∣ V := Int.gcd_dvd_left _ _
  have hdz : ((Int.gcd V z : Nat) : Int) ∣ z := Int.gcd_dvd_right _ _
  have eV : V = (Int.gcd V z : Int) * (V / (Int.gcd V z : Int)) := (Int.mul_ediv_cancel' hdV).symm
  have ez : z = (Int.gcd V z : Int) * (z / (Int.gcd V z : Int)) := (Int.mul_ediv_cancel' hdz).symm
  refine ⟨V / (Int.gcd V z : Int), z / (Int.gcd V z : Int), partN (solY g m T) g.length, partD (solY g m T) g.length, partN (solX g m T) m, partD (solX g m T) m, ⟨?_, p3, k3, p6, k6, gcd_low (by omega), by omega, by omega, ?_, ?_⟩, fun w go gc hI hgc => ?_⟩
  · rw [hzd] at ez
    have hV2 : V = T.b - addI g * T.R g.length (m + g.length) := hV
    refine Sad.sdl hsad hp0 hk0 (show (0 : Int) < (Int.gcd V z : Int) by omega) p1 p2 k1 k2 (hV2.symm.trans eV) ?_
    rw [← hzd] at ez ⊢
    exact ez
  · have := Int.ediv_le_self (a := z) (Int.gcd V z : Int) (by omega); omega
  · have hV2 : V = T.b - addI g * T.R g.length (m + g.length) := hV
    rw [← hV2] at hvb
    rw [← Int.tdiv_eq_ediv_of_dvd hdV]
    have h : (V.tdiv (Int.gcd V z : Int)).natAbs ≤ V.natAbs := by rw [Int.natAbs_tdiv]; exact Nat.div_le_self _ _
    omega
  · rw [hV, hzd]
    exact solve_calls w go gc g m f T hI hgc hG hr
end Go.Proofs.YtefmioppamdceaaDoor

/- Inspect: alive. -/
namespace Go.Proofs.YtefmioppamdceaaDoor
open Go.RowKit Go.Shelf

theorem eq_ratio (x y : Int) (w : World) : (binOp .eql 23 (.agg #[.int .i64 x, .int .i64 y]) (.agg #[.int .i64 x, .int .i64 y])).run Tryd.prog w = .ok (.bool true) w := by
  have u3 := Tryd.underlying3
  have a3 := Tryd.isAgg3
  have z3 := Tryd.sizeOf3
  have hS : Tryd.prog.underlying 23 = some (.struct (Tryd.prog.fieldsOf 23)) := by kernel_rfl
  have hp : Tryd.prog.stoodInHeld 23 = false := by kernel_rfl
  rw [run_eql_struct, show (10000 : Nat) = 9999 + 1 from rfl, run_equalIn_agg w 9999 23 _ _ hS hp]
  simp only [Program.fieldsOf, Tryd.underlying23]
  go_simp
theorem wsBy_perm {ws od : List Int} (h : Order ws od) : (wsBy ws od).Perm ws := by
  refine (h.perm.map _).trans (List.Perm.of_eq ?_)
  refine List.ext_getElem (by simp [nums]) (fun k a b => ?_)
  simp [nums, ith, b]
theorem wsBy_sorted {ws od : List Int} (h : Order ws od) : (wsBy ws od).Pairwise fun a b => b ≤ a := by
  rw [List.pairwise_iff_getElem]
  intro i j hi hj hij
  rw [wsBy_length h] at hi hj
  have e : ∀ k (hk : k < ws.length), (wsBy ws od)[k]'(by rw [wsBy_length h]; exact hk) = ith ws (ith od k).toNat := fun k hk => by
    have := wsBy_at h hk
    rw [List.getD_eq_getElem?_getD, List.getElem?_eq_getElem (by rw [wsBy_length h]; exact hk)] at this
    exact this
  rw [e i hi, e j hj]
  exact h.fall i j hij hj
/-- The falling list of worths is the only one. -/
theorem wsBy_uniq {ws od L : List Int} (h : Order ws od) (hp : L.Perm ws) (hs : L.Pairwise fun a b => b ≤ a) : wsBy ws od = L :=
  List.Perm.eq_of_pairwise (le := fun a b => b ≤ a) (fun a b _ _ h1 h2 => by omega) (wsBy_sorted h) hs ((wsBy_perm h).trans hp.symm)
theorem box321 {od : List Int} (h : Order [3, 2, 1] od) : (boxOut [3, 2, 1] od 1).v.num = 6 ∧ ((boxOut [3, 2, 1] od 1).v.den : Int) = 5 := by
  have e := wsBy_uniq h (L := [3, 2, 1]) (List.Perm.refl _) (by simp)
  rw [boxOut, if_neg (by decide)]
  simp only [e]
  exact ⟨by decide +kernel, by decide +kernel⟩
def gameA : List (List Int) := [[0, -1], [-1, 1]]
theorem gameA_ok : IsG gameA 2 := (gameB_iff gameA).1 (by decide +kernel)
theorem gameA_sdl : Sdl 2 2 (entI gameA) (fun i => if i = 0 then 2 else 1) 3 (fun i => if i = 0 then 2 else 1) 3 (-1) 3 := by
  have c2 : ∀ i, i < 2 → i = 0 ∨ i = 1 := fun i h => by omega
  refine ⟨fun i _ => by split <;> omega, fun i _ => by split <;> omega, by decide, by decide, by decide, by decide, by decide, fun j hj => ?_, fun i hi => ?_⟩
  · rcases c2 j hj with rfl | rfl <;> decide
  · rcases c2 i hi with rfl | rfl <;> decide
theorem gameA_val {vn vd rd cd : Int} {r c : List Int} (h : Sol gameA 2 vn vd r rd c cd) : vn = -1 ∧ vd = 3 :=
  low_eq h.sdl.vp (by decide) h.vlow (by decide) (h.sdl.same gameA_sdl)
set_option maxRecDepth 100000 in
set_option maxHeartbeats 2000000 in
theorem alive_calls (w : World) (hG : Glob w) : Calls Tryd.prog 11 #[] w fun e w' => e = .returned (.bool true) ∧ Ext w w' := by
  obtain ⟨vn, vd, r, rd, c, cd, hsol, hsc⟩ := solve_sol gameA 2 gameA_ok
  obtain ⟨rfl, rfl⟩ := gameA_val hsol
  clear hsol
  have hd21 : dresV 2 1 = .tuple #[.agg #[.int .i64 1, .int .i64 3], .int .i64 0] := by
    have e : valR 2 1 = 1 / 3 := by rw [valR_eq 1 1]; decide +kernel
    have e2 : ratV (1 / 3 : Rat) = .agg #[.int .i64 1, .int .i64 3] := by
      have h1 : (1 / 3 : Rat).num = 1 := by decide +kernel
      have h2 : (1 / 3 : Rat).den = 3 := by decide +kernel
      rw [ratV, h1, h2]; rfl
    unfold dresV
    rw [if_pos (by unfold DayOk; omega), show (2 : Int).toNat = 2 from rfl, show (1 : Int).toNat = 1 from rfl, e, e2]
  have hdc := fun W (h : Glob W) => dresher_calls W 2 1 h (by omega) (by omega)
  rw [hd21] at hdc
  have q1 := eq_ratio (-1) 3
  have q2 := eq_ratio 1 3
  have q3 := eq_ratio 6 5
  have HGl := Lib.hid hG
  clear hd21 hG
  go_enter Tryd.func11, Tryd.ntmps11
  go_wp2_with fail
  obtain ⟨w1, hw1⟩ : ∃ w1, w1 = (((w.alloc (Obj.cells #[.int .i64 0, .int .i64 (-1)] 3)).alloc (Obj.cells #[.int .i64 (-1), .int .i64 1] 3)).alloc (Obj.cells #[.slice (some ⟨w.heap.size, 0, none⟩) 2 2, .slice (some ⟨w.heap.size + 1, 0, none⟩) 2 2] 30)) := ⟨_, rfl⟩
  have hx1 : Ext w w1 := by rw [hw1]; exact (by repeat (first | exact Ext.refl _ | assumption | refine Ext.alloc ?_ _ | refine Ext.drewN ?_ _ | refine Ext.drew ?_))
  have hga : GameIn w1 (some ⟨w.heap.size + 1 + 1, 0, none⟩) gameA := by
    intro k hk
    have hk2 : k = 0 ∨ k = 1 := by simp [gameA] at hk; omega
    have hl : w1.heap.size = w.heap.size + 3 := by rw [hw1]; simp
    rcases hk2 with rfl | rfl
    · refine ⟨_, 0, some ⟨w.heap.size, 0, none⟩, 2, rfl, by omega, by rw [hw1]; simp [go_sem, gameA, rowI], by decide, fun j hj => ⟨_, 0, rfl, by omega, ?_⟩⟩
      have hj2 : j = 0 ∨ j = 1 := by simp [gameA, rowI] at hj; omega
      rcases hj2 with rfl | rfl <;> (rw [hw1]; simp [go_sem, gameA, rowI, ith])
    · refine ⟨_, 0, some ⟨w.heap.size + 1, 0, none⟩, 2, rfl, by omega, by rw [hw1]; simp [go_sem, gameA, rowI], by decide, fun j hj => ⟨_, 0, rfl, by omega, ?_⟩⟩
      have hj2 : j = 0 ∨ j = 1 := by simp [gameA, rowI] at hj; omega
      rcases hj2 with rfl | rfl <;> (rw [hw1]; simp [go_sem, gameA, rowI, ith])
  rw [← hw1]
  clear hw1
  refine (hsc w1 _ 2 hga (by decide)).mono ?_
  rintro e w2 ⟨rv, cv, rfl, hr, hc, hx2⟩
  obtain ⟨ro, rn, rc, rfl, -⟩ := hr.shapeCap
  obtain ⟨co, cn, cc, rfl, -⟩ := hc.shapeCap
  have hx02 := hx1.trans hx2
  clear hr hc hx1 hx2 hga hsc
  go_wp2_with fail
  obtain ⟨w3, hw3⟩ : ∃ w3, w3 = w2.alloc (Obj.cells #[.int .i64 (-1), .int .i64 3, .slice ro rn rc, .int .i64 rd, .slice co cn cc, .int .i64 cd] 42) := ⟨_, rfl⟩
  obtain ⟨A, hA⟩ : ∃ A, A = w2.heap.size := ⟨_, rfl⟩
  have hx3 : Ext w2 w3 := by rw [hw3]; exact (by repeat (first | exact Ext.refl _ | assumption | refine Ext.alloc ?_ _ | refine Ext.drewN ?_ _ | refine Ext.drew ?_))
  have a0 : w3.cell? ⟨A, 0, none⟩ = some (.int .i64 (-1)) := by rw [hw3, hA]; simp [go_sem]
  have a1 : w3.cell? ⟨A, 1, none⟩ = some (.int .i64 3) := by rw [hw3, hA]; simp [go_sem]
  have hAl : A < w3.heap.size := by rw [hw3, hA]; simp
  rw [← hw3, ← hA]
  clear hw3 hA
  have hx03 := hx02.trans hx3
  refine (hdc w3 (HGl.out.ext hx03)).mono ?_
  rintro e w4 ⟨rfl, hx4⟩
  have a0 := (hx4.cell (p := ⟨A, 0, none⟩) hAl).trans a0
  have a1 := (hx4.cell (p := ⟨A, 1, none⟩) hAl).trans a1
  have hAl := Nat.lt_of_lt_of_le hAl hx4.size
  have hx04 := hx03.trans hx4
  clear hdc hx02 hx3 hx03 hx4
  go_wp2_with fail
  obtain ⟨w5, hw5⟩ : ∃ w5, w5 = ((w4.alloc (Obj.cells #[.int .i64 1, .int .i64 3] 23)).alloc (Obj.cells #[.int .i64 3, .int .i64 2, .int .i64 1] 3)) := ⟨_, rfl⟩
  obtain ⟨B, hB⟩ : ∃ B, B = w4.heap.size := ⟨_, rfl⟩
  have hx5 : Ext w4 w5 := by rw [hw5]; exact (by repeat (first | exact Ext.refl _ | assumption | refine Ext.alloc ?_ _ | refine Ext.drewN ?_ _ | refine Ext.drew ?_))
  have b0 : w5.cell? ⟨B, 0, none⟩ = some (.int .i64 1) := by rw [hw5, hB]; simp [go_sem]
  have b1 : w5.cell? ⟨B, 1, none⟩ = some (.int .i64 3) := by rw [hw5, hB]; simp [go_sem]
  have hBl : B + 1 < w5.heap.size := by rw [hw5, hB]; simp
  have hI : IntsIn w5 (some ⟨B + 1, 0, none⟩) [3, 2, 1] := fun j hj => ⟨_, 0, rfl, hBl, by
    have hj3 : j = 0 ∨ j = 1 ∨ j = 2 := by simp at hj; omega
    rcases hj3 with rfl | rfl | rfl <;> (rw [hw5, hB]; simp [go_sem, ith])⟩
  have a0 := (hx5.cell (p := ⟨A, 0, none⟩) hAl).trans a0
  have a1 := (hx5.cell (p := ⟨A, 1, none⟩) hAl).trans a1
  have hAl := Nat.lt_of_lt_of_le hAl hx5.size
  have hx05 := hx04.trans hx5
  rw [← hw5, ← hB]
  clear hw5 hB hx5 hx04
  refine (boxes_good w5 (some ⟨B + 1, 0, none⟩) 3 [3, 2, 1] 1 (HGl.out.ext hx05) hI (by decide +kernel)).mono ?_
  rintro e w6 ⟨od, hod, rv, cv, rfl, hr, hc, hx6⟩
  rw [(box321 hod).1, (box321 hod).2]
  obtain ⟨ro2, rn2, rc2, rfl, -⟩ := hr.shapeCap
  obtain ⟨co2, cn2, cc2, rfl, -⟩ := hc.shapeCap
  have a0 := (hx6.cell (p := ⟨A, 0, none⟩) hAl).trans a0
  have a1 := (hx6.cell (p := ⟨A, 1, none⟩) hAl).trans a1
  have b0 := (hx6.cell (p := ⟨B, 0, none⟩) (by show B < _; omega)).trans b0
  have b1 := (hx6.cell (p := ⟨B, 1, none⟩) (by show B < _; omega)).trans b1
  have hAl := Nat.lt_of_lt_of_le hAl hx6.size
  have hBl : B < w6.heap.size := by have := hx6.size; omega
  have hx06 := hx05.trans hx6
  generalize (boxOut [3, 2, 1] od 1).rd = rd2
  generalize (boxOut [3, 2, 1] od 1).cd = cd2
  clear hod hr hc hI hx05 hx6
  go_wp2_with fail
  go_ret
  exact ⟨rfl, hx06.alloc _⟩
end Go.Proofs.YtefmioppamdceaaDoor

/- The specification's whole numbers of any size: trim, whole, Of, cmpD. -/
namespace Go.Proofs.YtefmioppamdceaaDoor
--@optional
open Go.RowKit Go.Shelf

set_option maxRecDepth 100000 in
theorem trim_calls (w : World) (ao : Option Addr) (cap : Nat) (l : List Int) (hI : IntsIn w ao l) (hD : Digits l) (hl : l.length ≤ 100000) :
    Calls Tryd.prog 102 #[.slice ao l.length cap] w (Made w (digs (worth l).toNat)) := by
  obtain ⟨i0, hi, hz0, hz1, hz2⟩ := info_parts info_int
  obtain ⟨W, hW⟩ : ∃ W, W = w.heap.size := ⟨_, rfl⟩
  have HT : Hid (∀ p, p ≤ l.length → (∀ k, p ≤ k → k < l.length → ith l k = 0) → (p = 0 ∨ ith l (p - 1) ≠ 0) → l.take p = digs (worth l).toNat) := Lib.hid (fun p h1 h2 h3 => digs_of_take hD p h1 h2 h3)
  clear hD
  go_enter Tryd.func102, Tryd.ntmps102
  go_wp2_with fail
  go_loopw [3] (fun nv wr => ∃ p : Nat, p ≤ l.length ∧ nv = .int .i64 p ∧ Ext w wr ∧ Hid (∀ k, p ≤ k → k < l.length → ith l k = 0)) (fun nv _ => (intOf nv).toNat)
  case atStart => exact ⟨l.length, by omega, rfl, Ext.refl _, Lib.hid (fun k h1 h2 => by omega)⟩
  case round =>
    obtain ⟨p, hp, rfl, hx, HZ⟩ := hrel
    rcases Nat.eq_zero_or_pos p with hp0 | hp0
    · subst hp0
      replace HT : Hid (l.take 0 = digs (worth l).toNat) := Lib.hid (HT.out 0 hp (fun k h1 h2 => HZ.out k (by omega) h2) (.inl rfl))
      go_wp2_with fail
      rename World => wr1
      go_loopw [4, 5] (fun ov i wr => i = .int .i64 0 ∧ ov = .slice none 0 0 ∧ Ext w wr) (fun _ i _ => 0)
      case atStart => exact ⟨rfl, rfl, hx⟩
      case round =>
        rename World => wr2
        obtain ⟨rfl, rfl, hx2⟩ := hrel
        go_wp2_with fail
        go_ret
        have h1 := HT.out
        rw [List.take_zero] at h1
        exact ⟨_, rfl, by rw [← h1]; exact Own.nil _ _ _, hx2⟩
    · obtain ⟨q, hq⟩ : ∃ q, p = q + 1 := ⟨p - 1, by omega⟩
      obtain ⟨b, off, rfl, hb, hc⟩ := hI.ext hx q (by omega)
      have e1 : (p : Int) - 1 = (q : Int) := by omega
      have k1 : (0 : Int) < (p : Int) := by omega
      have HQ := Lib.hid hq
      clear hq
      by_cases h0 : ith l q = 0
      · have h0b : (ith l q == 0) = true := by simp [h0]
        have H0 := Lib.hid h0
        clear h0
        go_wp2_with fail
        have hq := HQ.out
        exact ⟨⟨q, by omega, rfl, hx, Lib.hid (fun k h1 h2 => by
          by_cases e : k = q
          · subst e; exact H0.out
          · exact HZ.out k (by omega) h2)⟩, by simp only [intOf]; omega⟩
      · have h0b : (ith l q == 0) = false := by simp [h0]
        replace HT : Hid (l.take p = digs (worth l).toNat) := Lib.hid (HT.out p hp (fun k h1 h2 => HZ.out k (by omega) h2) (.inr (by rw [HQ.out]; exact h0)))
        clear h0
        go_wp2_with fail
        rename World => wr1
        go_loopw [4, 5] (fun ov i wr => ∃ k : Nat, k ≤ p ∧ i = .int .i64 k ∧ Ext w wr ∧ Own wr W 1 ov (ints (l.take k))) (fun _ i _ => p - (intOf i).toNat)
        case atStart => exact ⟨0, by omega, rfl, hx, Own.nil _ _ _⟩
        case round =>
          rename World => wr2
          obtain ⟨k, hk, rfl, hx2, ho⟩ := hrel
          have hWr : W ≤ wr2.heap.size := by rw [hW]; exact hx2.size
          by_cases hlt : k < p
          · obtain ⟨b2, off2, hao, hb, hc⟩ := hI.ext hx2 k (by omega)
            simp only [Option.some.injEq, Addr.mk.injEq] at hao
            obtain ⟨rfl, rfl, -⟩ := hao
            have hkl : (l.take k).length = k := by rw [List.length_take]; omega
            have hlow := ho.lt
            go_wp2_with (at_builtin; refine wpList_append_Own _ rfl _ _ 30 rfl 3 i0 (.int .i64 0) 1 8 Tryd.underlying30 hi hz0 hz1 hz2 rfl (by omega) W _ _ rfl (Own.ext ho ((Ext.refl _).alloc _)) (by first | omega | (simp; omega)) _ 1 1 [.int .i64 ((ith l k) : Int)] rfl rfl (one_cell _ _ _ _ rfl) (by simp [Value.oneCell']) (by rw [ints_length, hkl]; unfold maxLen; simp only [List.length_cons, List.length_nil]; omega) (by rw [ints_length, hkl]; simp only [List.length_cons, List.length_nil]; omega) ?_; intro v5 w5 ho5 hg5 hb5)
            rw [ints_snoc, ← take_snoc l k (by omega)] at ho5
            exact ⟨⟨k + 1, by omega, rfl, (hx2.alloc _).onto hg5 (fun q hq => by have := (hlow q hq).1; omega), ho5⟩, by simp only [intOf]; omega⟩
          · have hkp : k = p := by omega
            rw [hkp] at ho
            have hlk : ¬ (k : Int) < (p : Nat) := by omega
            clear hkp
            go_wp2_with fail
            go_ret
            rw [HT.out] at ho
            exact ⟨_, rfl, by rw [← hW]; exact ho, hx2⟩

/-- A whole number is handed back. -/
def Bg (w : World) (z : Int) (e : Ending) (w' : World) : Prop := ∃ v, e = .returned (.agg #[.bool (decide (z < 0)), v]) ∧ Own w' w.heap.size 1 v (ints (digs z.natAbs)) ∧ Ext w w'
set_option maxRecDepth 100000 in
theorem whole_calls (w : World) (neg : Bool) (ao : Option Addr) (cap : Nat) (l : List Int) (hI : IntsIn w ao l) (hD : Digits l) (hl : l.length ≤ 100000) :
    Calls Tryd.prog 68 #[.bool neg, .slice ao l.length cap] w (Bg w (if neg = true then -(worth l) else worth l)) := by
  obtain ⟨z, hz⟩ : ∃ z, z = (if neg = true then -(worth l) else worth l) := ⟨_, rfl⟩
  rw [← hz]
  have hwn := (worth_nonneg hD).1
  have HZ : Hid (digs (worth l).toNat = digs z.natAbs) := Lib.hid (by
    congr 1
    rw [hz]; split <;> omega)
  have HW := Lib.hid (show (worth l).toNat = 0 ↔ worth l = 0 by omega)
  have HZZ := Lib.hid hz
  clear hz
  go_enter Tryd.func68, Tryd.ntmps68
  go_wp2_with fail
  obtain ⟨R, hR⟩ : ∃ R, R = w.heap.size := ⟨_, rfl⟩
  have hs1 := Spot.new w 32 (.bool false) (.slice none 0 0)
  have hx1 : Ext w (w.alloc (.cells #[.bool false, .slice none 0 0] 32)) := (by repeat (first | exact Ext.refl _ | assumption | refine Ext.alloc ?_ _ | refine Ext.drewN ?_ _ | refine Ext.drew ?_))
  generalize (w.alloc (.cells #[.bool false, .slice none 0 0] 32)) = w1 at *
  rw [← hR] at hs1 ⊢
  have hRw : w.heap.size ≤ R := by omega
  clear hR
  have hRl := hs1.lt
  refine (trim_calls _ ao cap l (hI.ext hx1) hD hl).mono ?_
  rintro e w2 ⟨v, rfl, ho, hx2⟩
  have hx12 := hx1.trans hx2
  obtain ⟨vo, vc, rfl, -, -⟩ := ho.intsShape
  obtain ⟨N, hN, hN0⟩ : ∃ N, (digs (worth l).toNat).length = N ∧ (N = 0 ↔ (worth l).toNat = 0) := ⟨_, rfl, by rw [digs_length]; exact many_eq_zero⟩
  rw [hN] at ho ⊢
  clear hN
  cases neg with
  | false =>
    have HBB : Hid (false = decide (z < 0)) := Lib.hid (by
          rw [HZZ.out]; simp; omega)
    have hsb := hs1.ext hx2
    obtain ⟨c0, hc0⟩ := Option.isSome_iff_exists.1 hsb.some0
    obtain ⟨c1, hc1⟩ := Option.isSome_iff_exists.1 hsb.some1
    have hf0 := hsb.free0
    have hf1 := hsb.free1
    go_wp2_with fail
    obtain ⟨q0, q1⟩ := hsb.put (.bool false) (.slice vo N vc)
    have ho2 := (ho.keep (grownBy_setCell _ ⟨R, 0, none⟩ (.bool false)) (by right; intro e; have := (ho.lt R e).1; omega)).keep (grownBy_setCell _ ⟨R, 1, none⟩ (.slice vo N vc)) (by right; intro e; have := (ho.lt R e).1; omega)
    refine bodyPost_ret (v := .agg #[.bool false, .slice vo N vc]) (by simp [results, Tryd.results68, go_sem, q0, q1]) rfl ?_
    refine ⟨.slice vo N vc, by rw [HBB.out], ?_, (hx12.setOwn _ _ hRw).setOwn _ _ hRw⟩
    rw [← HZ.out]
    exact ho2.rebase hx1.size
  | true =>
    by_cases h0 : 0 < N
    · have hm : worth l ≠ 0 := fun h => by have := HW.out.2 h; omega
      have HBB : Hid (true = decide (z < 0)) := Lib.hid (by
              rw [HZZ.out]; simp; omega)
      have hsb := hs1.ext hx2
      obtain ⟨c0, hc0⟩ := Option.isSome_iff_exists.1 hsb.some0
      obtain ⟨c1, hc1⟩ := Option.isSome_iff_exists.1 hsb.some1
      have hf0 := hsb.free0
      have hf1 := hsb.free1
      go_wp2_with fail
      obtain ⟨q0, q1⟩ := hsb.put (.bool true) (.slice vo N vc)
      have ho2 := (ho.keep (grownBy_setCell _ ⟨R, 0, none⟩ (.bool true)) (by right; intro e; have := (ho.lt R e).1; omega)).keep (grownBy_setCell _ ⟨R, 1, none⟩ (.slice vo N vc)) (by right; intro e; have := (ho.lt R e).1; omega)
      refine bodyPost_ret (v := .agg #[.bool true, .slice vo N vc]) (by simp [results, Tryd.results68, go_sem, q0, q1]) rfl ?_
      refine ⟨.slice vo N vc, by rw [HBB.out], ?_, (hx12.setOwn _ _ hRw).setOwn _ _ hRw⟩
      rw [← HZ.out]
      exact ho2.rebase hx1.size
    · have hm : worth l = 0 := HW.out.1 (by omega)
      have HBB : Hid (false = decide (z < 0)) := Lib.hid (by
              rw [HZZ.out]; simp; omega)
      have hsb := hs1.ext hx2
      obtain ⟨c0, hc0⟩ := Option.isSome_iff_exists.1 hsb.some0
      obtain ⟨c1, hc1⟩ := Option.isSome_iff_exists.1 hsb.some1
      have hf0 := hsb.free0
      have hf1 := hsb.free1
      go_wp2_with fail
      obtain ⟨q0, q1⟩ := hsb.put (.bool false) (.slice vo N vc)
      have ho2 := (ho.keep (grownBy_setCell _ ⟨R, 0, none⟩ (.bool false)) (by right; intro e; have := (ho.lt R e).1; omega)).keep (grownBy_setCell _ ⟨R, 1, none⟩ (.slice vo N vc)) (by right; intro e; have := (ho.lt R e).1; omega)
      refine bodyPost_ret (v := .agg #[.bool false, .slice vo N vc]) (by simp [results, Tryd.results68, go_sem, q0, q1]) rfl ?_
      refine ⟨.slice vo N vc, by rw [HBB.out], ?_, (hx12.setOwn _ _ hRw).setOwn _ _ hRw⟩
      rw [← HZ.out]
      exact ho2.rebase hx1.size

theorem tdiv_facts (p : Int) : (p.tdiv 10000).natAbs = p.natAbs / 10000 ∧ (0 ≤ p → 0 ≤ p.tdiv 10000) ∧ (p ≤ 0 → p.tdiv 10000 ≤ 0) := by
  refine ⟨Int.natAbs_tdiv _ _, fun h => Int.tdiv_nonneg h (by omega), fun h => ?_⟩
  obtain ⟨q, rfl⟩ : ∃ q, p = -q := ⟨-p, by omega⟩
  rw [Int.neg_tdiv]
  have := Int.tdiv_nonneg (a := q) (b := 10000) (by omega) (by omega)
  omega
theorem tmod_facts (p : Int) : (p.tmod 10000).natAbs = p.natAbs % 10000 := Int.natAbs_tmod _ _
set_option maxRecDepth 100000 in
set_option maxHeartbeats 1000000 in
theorem of_calls (w : World) (n : Int) (hn : -9223372036854775808 < n ∧ n ≤ 9223372036854775807) : Calls Tryd.prog 31 #[.int .i64 n] w (Bg w n) := by
  obtain ⟨i0, hi, hz0, hz1, hz2⟩ := info_parts info_int
  obtain ⟨nb, hnb⟩ : ∃ nb, decide (n < 0) = nb := ⟨_, rfl⟩
  go_enter Tryd.func31, Tryd.ntmps31
  go_wp2_with fail
  obtain ⟨R, hR⟩ : ∃ R, R = w.heap.size := ⟨_, rfl⟩
  have hs1 := Spot.new w 32 (.bool false) (.slice none 0 0)
  have hx1 : Ext w (w.alloc (.cells #[.bool false, .slice none 0 0] 32)) := (by repeat (first | exact Ext.refl _ | assumption | refine Ext.alloc ?_ _ | refine Ext.drewN ?_ _ | refine Ext.drew ?_))
  generalize (w.alloc (.cells #[.bool false, .slice none 0 0] 32)) = w1 at *
  rw [← hR] at hs1 ⊢
  have hRw : w.heap.size ≤ R := by omega
  clear hR
  have hRl := hs1.lt
  obtain ⟨W, hW⟩ : ∃ W, W = w1.heap.size := ⟨_, rfl⟩
  have HNB := Lib.hid hnb
  clear hnb
  go_loopw [0, 3] (fun pv ov wr => ∃ (p : Int) (k : Nat), k ≤ 5 ∧ pv = .int .i64 p ∧ (-9223372036854775808 < p ∧ p ≤ 9223372036854775807) ∧ ((0 ≤ n → 0 ≤ p) ∧ (n < 0 → p ≤ 0)) ∧ Hid (p.natAbs = n.natAbs / 10000 ^ k) ∧ Ext w1 wr ∧ Own wr W 1 ov (ints (low k n.natAbs))) (fun pv _ _ => (intOf pv).natAbs)
  case atStart => exact ⟨n, 0, by omega, rfl, hn, ⟨fun h => h, fun h => by omega⟩, Lib.hid (by simp), Ext.refl _, Own.nil _ _ _⟩
  case round =>
    obtain ⟨p, k, hk, rfl, hp, hsg, HA, hx, ho⟩ := hrel
    have hWr : W ≤ wr.heap.size := by rw [hW]; exact hx.size
    by_cases h0 : p = 0
    · subst h0
      obtain ⟨so, sc, rfl, hSI, -⟩ := ho.intsShape
      have hwl : worth (low k n.natAbs) = n.natAbs := by
        rw [worth_low, Nat.mod_eq_of_lt]
        have h1 := HA.out
        simp only [Int.natAbs_zero] at h1
        exact (Nat.div_eq_zero_iff_lt (Nat.pow_pos (by omega))).1 h1.symm
      have hwh := whole_calls wr nb so sc (low k n.natAbs) hSI (digits_low _ _) (by rw [low_length]; omega)
      have hzn : (if nb = true then -(worth (low k n.natAbs)) else worth (low k n.natAbs)) = n := by
        rw [hwl, ← HNB.out]
        by_cases h : n < 0
        · simp [h]; omega
        · simp [h]; omega
      rw [hzn] at hwh
      clear hzn hwl hSI ho
      go_wp2_with fail
      refine hwh.mono ?_
      rintro e w3 ⟨v, rfl, ho, hx3⟩
      obtain ⟨vo, vc, rfl, -, -⟩ := ho.intsShape
      have hx13 := hx.trans hx3
      have hsb := hs1.ext hx13
      obtain ⟨c0, hc0⟩ := Option.isSome_iff_exists.1 hsb.some0
      obtain ⟨c1, hc1⟩ := Option.isSome_iff_exists.1 hsb.some1
      have hf0 := hsb.free0
      have hf1 := hsb.free1
      clear hwh
      obtain ⟨nb2, hnb2⟩ : ∃ nb2, decide (n < 0) = nb2 := ⟨_, rfl⟩
      obtain ⟨N, hN⟩ : ∃ N, (digs n.natAbs).length = N := ⟨_, rfl⟩
      rw [hN] at ho
      go_wp2_with fail
      obtain ⟨q0, q1⟩ := hsb.put (.bool nb2) (.slice vo N vc)
      have hs1' := hx1.size
      have hs2' := hx.size
      have ho2 := (ho.keep (grownBy_setCell _ ⟨R, 0, none⟩ (.bool nb2)) (by right; intro e; have := (ho.lt R e).1; omega)).keep (grownBy_setCell _ ⟨R, 1, none⟩ (.slice vo N vc)) (by right; intro e; have := (ho.lt R e).1; omega)
      refine bodyPost_ret (v := .agg #[.bool nb2, .slice vo N vc]) (by simp [results, Tryd.results31, go_sem, q0, q1]) rfl ?_
      exact ⟨.slice vo N vc, by rw [hnb2], ho2.rebase (by omega), ((hx1.trans hx13).setOwn _ _ hRw).setOwn _ _ hRw⟩
    · obtain ⟨t1, t2, t3⟩ := tdiv_facts p
      have t4 := tmod_facts p
      have hk4 : k ≤ 4 := by
        rcases Nat.lt_or_ge k 5 with h | h
        · omega
        · obtain rfl : k = 5 := by omega
          have h1 := HA.out
          rw [Nat.div_eq_of_lt (by omega)] at h1
          omega
      obtain ⟨p', hp'⟩ : ∃ p', p.tdiv 10000 = p' := ⟨_, rfl⟩
      obtain ⟨r, hr⟩ : ∃ r, p.tmod 10000 = r := ⟨_, rfl⟩
      rw [hp'] at t1 t2 t3
      rw [hr] at t4
      have HP : Hid (p'.natAbs = n.natAbs / 10000 ^ (k + 1)) := Lib.hid (by rw [t1, HA.out, Nat.pow_succ, Nat.div_div_eq_div_mul])
      have hdg : dig n.natAbs k = p.natAbs % 10000 := by rw [dig, HA.out]
      by_cases hr0 : r < 0
      · have HD : Hid ((dig n.natAbs k : Int) = -r) := Lib.hid (by rw [hdg, ← t4]; omega)
        clear hdg
        have hkl : (low k n.natAbs).length = k := low_length _ _
        have hlow := ho.lt
        go_wp2_with (at_builtin; refine wpList_append_Own _ rfl _ _ 30 rfl 3 i0 (.int .i64 0) 1 8 Tryd.underlying30 hi hz0 hz1 hz2 rfl (by omega) W _ _ rfl (Own.ext ho ((Ext.refl _).alloc _)) (by first | omega | (simp; omega)) _ 1 1 [.int .i64 ((-r) : Int)] rfl rfl (one_cell _ _ _ _ rfl) (by simp [Value.oneCell']) (by rw [ints_length, hkl]; unfold maxLen; simp only [List.length_cons, List.length_nil]; omega) (by rw [ints_length, hkl]; simp only [List.length_cons, List.length_nil]; omega) ?_; intro v5 w5 ho5 hg5 hb5)
        have e2 : low k n.natAbs ++ [(-r)] = low (k + 1) n.natAbs := by rw [low_snoc, HD.out]
        rw [ints_snoc, e2] at ho5
        refine ⟨⟨p', k + 1, by omega, rfl, by omega, ⟨by omega, by omega⟩, HP, (hx.alloc _).onto hg5 (fun q hq => by have := (hlow q hq).1; omega), ho5⟩, by simp only [intOf]; omega⟩
      · have HD : Hid ((dig n.natAbs k : Int) = r) := Lib.hid (by rw [hdg, ← t4]; omega)
        clear hdg
        have hkl : (low k n.natAbs).length = k := low_length _ _
        have hlow := ho.lt
        go_wp2_with (at_builtin; refine wpList_append_Own _ rfl _ _ 30 rfl 3 i0 (.int .i64 0) 1 8 Tryd.underlying30 hi hz0 hz1 hz2 rfl (by omega) W _ _ rfl (Own.ext ho ((Ext.refl _).alloc _)) (by first | omega | (simp; omega)) _ 1 1 [.int .i64 (r : Int)] rfl rfl (one_cell _ _ _ _ rfl) (by simp [Value.oneCell']) (by rw [ints_length, hkl]; unfold maxLen; simp only [List.length_cons, List.length_nil]; omega) (by rw [ints_length, hkl]; simp only [List.length_cons, List.length_nil]; omega) ?_; intro v5 w5 ho5 hg5 hb5)
        have e2 : low k n.natAbs ++ [r] = low (k + 1) n.natAbs := by rw [low_snoc, HD.out]
        rw [ints_snoc, e2] at ho5
        refine ⟨⟨p', k + 1, by omega, rfl, by omega, ⟨by omega, by omega⟩, HP, (hx.alloc _).onto hg5 (fun q hq => by have := (hlow q hq).1; omega), ho5⟩, by simp only [intOf]; omega⟩

set_option maxRecDepth 100000 in
set_option maxHeartbeats 1000000 in
theorem cmpD_calls (w : World) (ao bo : Option Addr) (cap cap2 : Nat) (m n : Nat) (hI : IntsIn w ao (digs m)) (hJ : IntsIn w bo (digs n)) (hl : (digs m).length ≤ 100000) (hl2 : (digs n).length ≤ 100000) :
    Calls Tryd.prog 67 #[.slice ao (digs m).length cap, .slice bo (digs n).length cap2] w fun e w' => e = .returned (.int .i64 (cmpZ m n)) ∧ Ext w w' := by
  have hM := digs_length m
  have hN := digs_length n
  obtain ⟨A, hA⟩ : ∃ A, (digs m).length = A := ⟨_, rfl⟩
  obtain ⟨B, hB⟩ : ∃ B, (digs n).length = B := ⟨_, rfl⟩
  have hI' : ∀ k, k < A → ∃ b off, ao = some ⟨b, off, none⟩ ∧ b < w.heap.size ∧ w.cell? ⟨b, off + k, none⟩ = some (.int .i64 (dig m k)) := fun k hk => by
    obtain ⟨b, off, h1, h2, h3⟩ := hI k (by omega)
    exact ⟨b, off, h1, h2, by rw [h3, ith_getD, digs_at]⟩
  have hJ' : ∀ k, k < B → ∃ b off, bo = some ⟨b, off, none⟩ ∧ b < w.heap.size ∧ w.cell? ⟨b, off + k, none⟩ = some (.int .i64 (dig n k)) := fun k hk => by
    obtain ⟨b, off, h1, h2, h3⟩ := hJ k (by omega)
    exact ⟨b, off, h1, h2, by rw [h3, ith_getD, digs_at]⟩
  rw [hA, hB]
  have HLT : Hid (A < B → m < n) := Lib.hid (fun h => lt_of_many (by omega))
  have HGT : Hid (B < A → n < m) := Lib.hid (fun h => lt_of_many (by omega))
  have HTOP : Hid (A = B → m / 10000 ^ A = n / 10000 ^ A) := Lib.hid (fun h => by
    rw [Nat.div_eq_of_lt (by rw [← hA, hM]; exact lt_many m), Nat.div_eq_of_lt (by rw [h, ← hB, hN]; exact lt_many n)])
  have hA9 : A ≤ 100000 := by omega
  have hB9 : B ≤ 100000 := by omega
  clear hI hJ hM hN hA hB hl hl2
  go_enter Tryd.func67, Tryd.ntmps67
  by_cases h1 : A < B
  · go_wp2_with fail
    go_ret
    have := HLT.out h1
    exact ⟨ret_int (by unfold cmpZ; rw [if_pos (by omega)]), Ext.refl _⟩
  · by_cases h2 : B < A
    · go_wp2_with fail
      go_ret
      have := HGT.out h2
      exact ⟨ret_int (by unfold cmpZ; rw [if_neg (by omega), if_pos (by omega)]), Ext.refl _⟩
    · obtain rfl : A = B := by omega
      go_wp2_with fail
      go_loopw [5] (fun iv wr => ∃ p : Nat, p ≤ A ∧ iv = .int .i64 ((p : Int) - 1) ∧ Ext w wr ∧ Hid (m / 10000 ^ p = n / 10000 ^ p)) (fun iv _ => (intOf iv + 1).toNat)
      case atStart => exact ⟨A, by omega, rfl, Ext.refl _, Lib.hid (by first | exact HTOP.out rfl | exact HTOP.out trivial)⟩
      case round =>
        obtain ⟨p, hp, rfl, hx, HE⟩ := hrel
        rcases Nat.eq_zero_or_pos p with h0 | h0
        · subst h0
          go_wp2_with fail
          go_ret
          have := HE.out
          simp only [Nat.pow_zero, Nat.div_one] at this
          exact ⟨ret_int (by unfold cmpZ; rw [if_neg (by omega), if_neg (by omega)]), hx⟩
        · obtain ⟨q, hq⟩ : ∃ q, p = q + 1 := ⟨p - 1, by omega⟩
          have e1 : (p : Int) - 1 = (q : Int) := by omega
          have HE2 : Hid (m / 10000 ^ (q + 1) = n / 10000 ^ (q + 1)) := Lib.hid (by rw [← hq]; exact HE.out)
          have HQ := Lib.hid hq
          have hqA : q < A := by omega
          obtain ⟨b, off, rfl, hb, hc⟩ := hI' q hqA
          obtain ⟨b2, off2, rfl, hb2, hc2⟩ := hJ' q hqA
          have d1 := (hx.cell (p := ⟨b, off + q, none⟩) hb).trans hc
          have d2 := (hx.cell (p := ⟨b2, off2 + q, none⟩) hb2).trans hc2
          have k1 := Nat.lt_of_lt_of_le hb hx.size
          have k2 := Nat.lt_of_lt_of_le hb2 hx.size
          clear hq h1 h2
          rw [e1]
          obtain ⟨x, hxx⟩ : ∃ x : Nat, x = dig m q := ⟨_, rfl⟩
          obtain ⟨y, hyy⟩ : ∃ y : Nat, y = dig n q := ⟨_, rfl⟩
          rw [← hxx] at d1
          rw [← hyy] at d2
          have HX := Lib.hid hxx
          have HY := Lib.hid hyy
          clear hxx hyy hc hc2
          by_cases h3 : x < y
          · go_wp2_with fail
            go_region
            go_wp2_with fail
            go_ret
            have := high_lt HE2.out (show dig m q < dig n q by rw [← HX.out, ← HY.out]; exact h3)
            exact ⟨ret_int (by unfold cmpZ; rw [if_pos (by omega)]), (by repeat (first | exact Ext.refl _ | assumption | refine Ext.alloc ?_ _ | refine Ext.drewN ?_ _ | refine Ext.drew ?_))⟩
          · by_cases h4 : y < x
            · go_wp2_with fail
              go_region
              go_wp2_with fail
              go_region
              go_wp2_with fail
              go_ret
              have := high_lt HE2.out.symm (show dig n q < dig m q by rw [← HX.out, ← HY.out]; exact h4)
              exact ⟨ret_int (by unfold cmpZ; rw [if_neg (by omega), if_pos (by omega)]), (by repeat (first | exact Ext.refl _ | assumption | refine Ext.alloc ?_ _ | refine Ext.drewN ?_ _ | refine Ext.drew ?_))⟩
            · go_wp2_with fail
              go_region
              go_wp2_with fail
              go_region
              go_wp2_with fail
              have hxy : dig m q = dig n q := by rw [← HX.out, ← HY.out]; omega
              exact ⟨⟨q, by omega, by simp, (by repeat (first | exact Ext.refl _ | assumption | refine Ext.alloc ?_ _ | refine Ext.drewN ?_ _ | refine Ext.drew ?_)), Lib.hid (high_eq HE2.out hxy)⟩, by simp only [intOf]; omega⟩
end Go.Proofs.YtefmioppamdceaaDoor
