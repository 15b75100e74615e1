/- Lists of the specification's fractions in memory; Parts. -/
import Derived.Test.YtcngecibljgndaaMRPB
import Derived.Test.YtcngecibljgndaaMBK
import Derived.Test.YtcngecibljgndaaMQH
import Derived.Test.YtcngecibljgndaaMQPD
namespace Go.Proofs.Ytcngecibljgndaa
open Go.RowKit Go.Shelf

def qth (qs : List Rat) (k : Nat) : Rat := qs.getD k 0
/-- A list of fractions in memory. -/
structure QCells (w : World) (b o : Nat) (nb : Bool) (zo : Option Addr) (A zc : Nat) (mb : Bool) (yo : Option Addr) (B yc : Nat) : Prop where
  c0 : w.cell? ⟨b, o, none⟩ = some (.bool nb)
  c1 : w.cell? ⟨b, o + 1, none⟩ = some (.slice zo A zc)
  c2 : w.cell? ⟨b, o + 2, none⟩ = some (.bool mb)
  c3 : w.cell? ⟨b, o + 3, none⟩ = some (.slice yo B yc)
def QsIn (w : World) (lo : Option Addr) (qs : List Rat) : Prop :=
  ∀ k, k < qs.length → ∃ b off nb zo A zc mb yo B yc, lo = some ⟨b, off, none⟩ ∧ b < w.heap.size ∧ QCells w b (off + k * 4) nb zo A zc mb yo B yc ∧ QNum w (qth qs k) nb zo A mb yo B
theorem QCells.ext {w w' : World} {b o : Nat} {nb mb : Bool} {zo yo : Option Addr} {A zc B yc : Nat} (h : QCells w b o nb zo A zc mb yo B yc) (hb : b < w.heap.size) (hx : Ext w w') : QCells w' b o nb zo A zc mb yo B yc :=
  ⟨(hx.cell (p := ⟨b, o, none⟩) hb).trans h.c0, (hx.cell (p := ⟨b, o + 1, none⟩) hb).trans h.c1, (hx.cell (p := ⟨b, o + 2, none⟩) hb).trans h.c2, (hx.cell (p := ⟨b, o + 3, none⟩) hb).trans h.c3⟩
theorem QsIn.ext {w w' : World} {lo : Option Addr} {qs : List Rat} (h : QsIn w lo qs) (hx : Ext w w') : QsIn w' lo qs := by
  intro k hk
  obtain ⟨b, off, nb, zo, A, zc, mb, yo, B, yc, rfl, hb, hc, hq⟩ := h k hk
  exact ⟨b, off, nb, zo, A, zc, mb, yo, B, yc, rfl, Nat.lt_of_lt_of_le hb hx.size, hc.ext hb hx, hq.ext hx⟩

/-- The least common multiple of what is left of a divisor. -/
theorem lcm_step {D g h : Nat} (hD : 0 < D) (hg : g ∣ D) (hh : h ∣ D) : D / g / Nat.gcd (D / g) (D / h) * (D / h) = D / Nat.gcd g h := by
  obtain ⟨a, ha⟩ := hg
  obtain ⟨b, hb⟩ := hh
  have hg0 : 0 < g := Nat.pos_of_ne_zero (fun e => by subst e; simp at ha; omega)
  have hh0 : 0 < h := Nat.pos_of_ne_zero (fun e => by subst e; simp at hb; omega)
  have ha0 : 0 < a := Nat.pos_of_ne_zero (fun e => by subst e; simp at ha; omega)
  have e1 : D / g = a := by rw [ha, Nat.mul_div_cancel_left _ hg0]
  have e2 : D / h = b := by rw [hb, Nat.mul_div_cancel_left _ hh0]
  rw [e1, e2]
  have hu0 : 0 < Nat.gcd g h := Nat.gcd_pos_of_pos_left _ hg0
  have hl : a / Nat.gcd a b * b = Nat.lcm a b := by
    rw [Nat.lcm, Nat.mul_comm, Nat.mul_comm a b]
    exact (Nat.mul_div_assoc b (Nat.gcd_dvd_left a b)).symm
  rw [hl]
  refine (Nat.div_eq_of_eq_mul_left hu0 ?_).symm
  refine Nat.dvd_antisymm ?_ ?_
  · -- D divides the product
    have h1 : D ∣ Nat.lcm a b * g := by
      obtain ⟨s, hs⟩ := Nat.dvd_lcm_left a b
      exact ⟨s, by rw [hs, ha]; ac_rfl⟩
    have h2 : D ∣ Nat.lcm a b * h := by
      obtain ⟨s, hs⟩ := Nat.dvd_lcm_right a b
      exact ⟨s, by rw [hs]; conv => rhs; rw [hb]
                   ac_rfl⟩
    have := Nat.dvd_gcd h1 h2
    rwa [Nat.gcd_mul_left] at this
  · obtain ⟨u, hu⟩ := Nat.gcd_dvd_left g h
    obtain ⟨v, hv⟩ := Nat.gcd_dvd_right g h
    have h1 : a ∣ a * u := Nat.dvd_mul_right _ _
    have h2 : b ∣ a * u := by
      have : Nat.gcd g h * (a * u) = Nat.gcd g h * (b * v) := by
        calc Nat.gcd g h * (a * u) = Nat.gcd g h * u * a := by ac_rfl
          _ = D := by rw [← hu, ha]
          _ = Nat.gcd g h * v * b := by rw [← hv, hb]
          _ = _ := by ac_rfl
      exact ⟨v, Nat.eq_of_mul_eq_mul_left hu0 this⟩
    have h3 := Nat.lcm_dvd h1 h2
    obtain ⟨s, hs⟩ := h3
    refine ⟨s, ?_⟩
    calc D = Nat.gcd g h * u * a := by rw [← hu, ha]
      _ = a * u * Nat.gcd g h := by ac_rfl
      _ = _ := by rw [hs]; ac_rfl
/-- The divisors of a list of fractions with the same divisor, put together. -/
theorem parts_step {D n : Int} {l : List Int} (hD : 0 < D) :
    D / (gcdL D l : Int) / ((Int.gcd (D / (gcdL D l : Int)) (((Rat.divInt n D).den : Nat) : Int) : Nat) : Int) * (((Rat.divInt n D).den : Nat) : Int) = D / ((Int.gcd (gcdL D l) n : Nat) : Int) := by
  obtain ⟨d, rfl⟩ : ∃ d : Nat, D = d := ⟨D.toNat, by omega⟩
  have hg := (gcdL_dvd (d : Int) l).1
  generalize gcdL (d : Int) l = g at *
  have hden : (((Rat.divInt n d).den : Nat) : Int) = ((d / Nat.gcd n.natAbs d : Nat) : Int) := by
    have := low_den (n := n) (d := (d : Int)) (n' := n) (by omega) (by rw [Int.sign_eq_one_of_pos hD]; simp)
    rw [this]; simp
  rw [hden]
  have hgd : g ∣ d := Int.natCast_dvd_natCast.1 hg
  have hk := lcm_step (D := d) (g := g) (h := Nat.gcd n.natAbs d) (by omega) hgd (Nat.gcd_dvd_right _ _)
  have e1 : (d : Int) / (g : Int) = ((d / g : Nat) : Int) := by simp
  rw [e1, Int.gcd_natCast_natCast]
  have e2 : Int.gcd (g : Int) n = Nat.gcd g (Nat.gcd n.natAbs d) := by
    rw [Int.gcd, Int.natAbs_natCast, Nat.gcd_comm n.natAbs d, ← Nat.gcd_assoc, Nat.gcd_eq_left hgd]
  rw [e2, ← Int.natCast_ediv, ← Int.natCast_ediv, ← Int.natCast_mul, hk]
theorem field_N (w : World) (b : Bool) (o : Option Addr) (n c : Nat) (b' : Bool) (o' : Option Addr) (n' c' : Nat) : (Instr.field 41 (.agg #[.bool b, .slice o n c, .bool b', .slice o' n' c']) 0).run Try.prog w = .ok (.agg #[.bool b, .slice o n c]) w := by kernel_rfl
theorem c4 {w w' : World} {b o : Nat} {nb mb : Bool} {zo yo : Option Addr} {A zc B yc : Nat} (hb : b < w.heap.size) (h : QCells w b o nb zo A zc mb yo B yc) (hx : Ext w w') :
    (w'.cell? ⟨b, o, none⟩ = some (.bool nb)) ∧ (w'.cell? ⟨b, o + 1, none⟩ = some (.slice zo A zc)) ∧ (w'.cell? ⟨b, o + 2, none⟩ = some (.bool mb)) ∧ (w'.cell? ⟨b, o + 3, none⟩ = some (.slice yo B yc)) :=
  ⟨(h.ext hb hx).c0, (h.ext hb hx).c1, (h.ext hb hx).c2, (h.ext hb hx).c3⟩
theorem den_le {n D : Int} (hD : 0 < D) : (((Rat.divInt n D).den : Nat) : Int) ≤ D := by
  have := low_den (n := n) (d := D) (n' := n) (by omega) (by rw [Int.sign_eq_one_of_pos hD]; simp)
  rw [this, show ((D.natAbs : Nat) : Int) = D by omega]
  exact Int.ediv_le_self _ (by omega)
theorem parts_num {D n g : Int} (hD : 0 < D) (hg : 0 < g) (h1 : g ∣ D) (h2 : g ∣ n) : (Rat.divInt n D * Rat.divInt (D / g) 1).num = n / g := by
  obtain ⟨a, rfl⟩ := h1
  obtain ⟨b, rfl⟩ := h2
  rw [Int.mul_ediv_cancel_left _ (by omega), Int.mul_ediv_cancel_left _ (by omega), Rat.divInt_mul_divInt]
  have : Rat.divInt (g * b * a) (g * a * 1) = Rat.divInt b 1 := (Rat.divInt_eq_divInt_iff (by omega) (by omega)).2 (by ac_rfl)
  rw [this, low_num (n' := b) (by omega) (by simp)]
  simp
set_option maxRecDepth 100000 in
set_option maxHeartbeats 4000000 in
theorem qparts_calls (w : World) (lo : Option Addr) (cap : Nat) (ns : List Int) (D : Int) (hQ : QsIn w lo (ns.map fun n => Rat.divInt n D)) (hl : ns.length ≤ 1000) (hD : 0 < D ∧ D ≤ 1000000000000000)
    (hn : ∀ k, k < ns.length → 0 ≤ ith ns k ∧ ith ns k ≤ 1000000000000000) :
    Calls Try.prog 50 #[.slice lo ns.length cap] w (MadeParts w (ns.map (· / (gcdL D ns : Int))) (D / gcdL D ns)) := by
  have HB := Lib.hid hn
  clear hn
  obtain ⟨i0, hi, hz0, hz1, hz2⟩ := info_parts info_int
  go_enter Try.func50, Try.ntmps50
  go_wp2_with fail
  obtain ⟨W, hW⟩ : ∃ W, W = w.heap.size := ⟨_, rfl⟩
  have hxa : Ext w (w.alloc (Obj.cells #[Value.slice none 0 0, Value.int IntKind.i64 0] 26)) := (by repeat (first | exact Ext.refl _ | assumption | refine Ext.alloc ?_ _ | refine Ext.drewN ?_ _ | refine Ext.drew ?_))
  have hra : (w.alloc (Obj.cells #[Value.slice none 0 0, Value.int IntKind.i64 0] 26)).cell? ⟨W, 0, none⟩ = some (.slice none 0 0) ∧ (w.alloc (Obj.cells #[Value.slice none 0 0, Value.int IntKind.i64 0] 26)).cell? ⟨W, 1, none⟩ = some (.int .i64 0) ∧
      (w.alloc (Obj.cells #[Value.slice none 0 0, Value.int IntKind.i64 0] 26)).frozen? ⟨W, 0, none⟩ = false ∧ (w.alloc (Obj.cells #[Value.slice none 0 0, Value.int IntKind.i64 0] 26)).frozen? ⟨W, 1, none⟩ = false := by
    subst hW
    exact ⟨by simp [go_sem], by simp [go_sem], by simp [go_sem], by simp [go_sem]⟩
  have hs1 : (w.alloc (Obj.cells #[Value.slice none 0 0, Value.int IntKind.i64 0] 26)).heap.size = W + 1 := by simp [hW]
  have HWe : w.heap.size ≤ W := by omega
  generalize (w.alloc (Obj.cells #[Value.slice none 0 0, Value.int IntKind.i64 0] 26)) = w1 at *
  rw [← hW]
  clear hW
  have hql : (ns.map fun n => Rat.divInt n D).length = ns.length := by simp
  have HQL := Lib.hid hql
  clear hql
  go_loopw [3, 4, 5, 6] (fun g i u v wr => ∃ k : Nat, k ≤ ns.length ∧ i = .int .i64 k ∧ g = .int .i64 (D / (gcdL D (ns.take k) : Int)) ∧ Ext w1 wr) (fun _ i _ _ _ => ns.length - (intOf i).toNat)
  case atStart => exact ⟨0, by omega, rfl, by rw [List.take_zero, gcdL_nil, show ((D.natAbs : Nat) : Int) = D by omega, Int.ediv_self (by omega)], Ext.refl _⟩
  case round =>
    rename World => wr
    obtain ⟨k, hk, rfl, rfl, hx⟩ := hrel
    by_cases hlt : k < ns.length
    · obtain ⟨b, off, nb, zo, A, zc, mb, yo, B, yc, rfl, hb, ⟨c0, c1, c2, c3⟩, hq⟩ := (hQ.ext hxa).ext hx k (by rw [HQL.out]; exact hlt)
      have hqe : qth (ns.map fun n => Rat.divInt n D) k = Rat.divInt (ith ns k) D := by simp [qth, ith, hlt]
      rw [hqe] at hq
      have h1 := HB.out k hlt
      have h2 := gcdL_bounds (ns.take k) hD.1
      have hst := parts_step (n := ith ns k) (l := ns.take k) hD.1
      have hft := (hq.fine (fine_small (by omega) (by omega) (by omega))).2
      have hdl := den_le (n := ith ns k) hD.1
      obtain ⟨q, hqq⟩ : ∃ q, Rat.divInt (ith ns k) D = q := ⟨_, rfl⟩
      have hqp := q.den_pos
      rw [hqq] at hdl hst hq
      obtain ⟨d, hd⟩ : ∃ d, q.den = d := ⟨_, rfl⟩
      have hqd := hq.den
      rw [hd] at hqd hdl hst hqp
      have hwv : withinV ((d : Nat) : Int) 1152921504606846976 = (d : Int) := by unfold withinV; rw [if_pos (by omega)]
      have hwb : withinB ((d : Nat) : Int) 1152921504606846976 = true := by unfold withinB; rw [decide_eq_true (by omega)]
      have hg1 := gcdL_bounds (ns.take (k + 1)) hD.1
      rw [gcdL_take D ns k hlt] at hg1
      have hgt := Lib.hid (gcdL_take D ns k hlt)
      obtain ⟨p, hp⟩ : ∃ p, D / (gcdL D (ns.take k) : Int) = p := ⟨_, rfl⟩
      have hp0 : 0 < p := by rw [← hp]; exact Int.ediv_pos_of_pos_of_dvd hD.1 (by omega) (gcdL_dvd D (ns.take k)).1
      have hp1 : p ≤ D := by rw [← hp]; exact Int.ediv_le_self _ (by omega)
      obtain ⟨r, hr⟩ : ∃ r, D / ((Int.gcd (gcdL D (ns.take k)) (ith ns k) : Nat) : Int) = r := ⟨_, rfl⟩
      have hr1 : r ≤ D := by rw [← hr]; exact Int.ediv_le_self _ (by omega)
      rw [hp, hr] at hst
      have HR : Hid (D / ((gcdL D (ns.take (k + 1)) : Nat) : Int) = r) := Lib.hid (by rw [hgt.out]; exact hr)
      rw [hp]
      obtain ⟨g, hg⟩ : ∃ g, Int.gcd p (d : Int) = g := ⟨_, rfl⟩
      have hg0 : 0 < g := by rw [← hg]; exact Int.gcd_pos_of_ne_zero_left _ (by omega)
      rw [hg] at hst
      obtain ⟨s, hs⟩ : ∃ s, p / (g : Int) = s := ⟨_, rfl⟩
      have hs0 : 0 ≤ s := by rw [← hs]; exact Int.ediv_nonneg (by omega) (by omega)
      have hs1 : s ≤ p := by rw [← hs]; exact Int.ediv_le_self _ (by omega)
      rw [hs] at hst
      have hts : p.tdiv (g : Int) = s := by rw [Int.tdiv_eq_ediv_of_nonneg (by omega)]; exact hs
      have hsd : 0 ≤ s * (d : Int) := Int.mul_nonneg hs0 (by omega)
      have HST := Lib.hid hst
      have hw1 : IntKind.i64.wrap s = s := by rw [IntKind.wrap_i64]; omega
      have hw2 : IntKind.i64.wrap (s * (d : Int)) = s * (d : Int) := by rw [IntKind.wrap_i64]; omega
      have hgi : ¬ ((g : Int) = 0) := by omega
      clear hst hgt hp hr hqq hd hg1
      have hwc := fun W h => within_calls W mb yo B yc (d : Int) 1152921504606846976 h (by omega) (by omega)
      rw [hwv, hwb] at hwc
      have hgc := fun W => refGcd_calls W p (d : Int) (by omega) (by omega)
      rw [hg] at hgc
      clear hwv hwb hg
      go_wp2_with fail
      refine (hwc _ hqd).mono ?_
      rintro e w2 ⟨rfl, hx2⟩
      go_wp2_with fail
      refine (hgc _).mono ?_
      rintro e w3 ⟨rfl, hx3⟩
      go_wp2_with fail
      exact ⟨⟨k + 1, by omega, rfl, by rw [HST.out, HR.out], (hx.trans hx2).trans hx3⟩, by simp only [intOf]; omega⟩
    · obtain rfl : k = ns.length := by omega
      rw [List.take_length]
      have h2 := gcdL_bounds ns hD.1
      have HGD := Lib.hid (gcdL_dvd D ns)
      go_wp2_with fail
      obtain ⟨g, hg⟩ : ∃ g, g = (gcdL D ns : Int) := ⟨_, rfl⟩
      rw [← hg] at h2 HGD ⊢
      have hgp : 0 < g := by omega
      have HGG := Lib.hid hg
      clear hg
      obtain ⟨d, hdd⟩ : ∃ d, D / g = d := ⟨_, rfl⟩
      rw [hdd]
      have hd0 : 0 < d := by rw [← hdd]; exact Int.ediv_pos_of_pos_of_dvd hD.1 (by omega) HGD.out.1
      have hd1 : d ≤ D := by rw [← hdd]; exact Int.ediv_le_self _ (by omega)
      have HDD := Lib.hid hdd
      clear hdd
      obtain ⟨B, hB⟩ : ∃ B, B = wr.heap.size := ⟨_, rfl⟩
      have hx2 : Ext w1 (wr.alloc (Obj.cells #[Value.slice none 0 0, Value.int IntKind.i64 d] 26)) := (by repeat (first | exact Ext.refl _ | assumption | refine Ext.alloc ?_ _ | refine Ext.drewN ?_ _ | refine Ext.drew ?_))
      have hc2 : (wr.alloc (Obj.cells #[Value.slice none 0 0, Value.int IntKind.i64 d] 26)).cell? ⟨B, 0, none⟩ = some (.slice none 0 0) ∧ (wr.alloc (Obj.cells #[Value.slice none 0 0, Value.int IntKind.i64 d] 26)).frozen? ⟨B, 0, none⟩ = false := by
        subst hB
        exact ⟨by simp [go_sem], by simp [go_sem]⟩
      have hd2 : (wr.alloc (Obj.cells #[Value.slice none 0 0, Value.int IntKind.i64 d] 26)).cell? ⟨B, 1, none⟩ = some (.int .i64 d) := by
        subst hB
        simp [go_sem]
      have hs2 : (wr.alloc (Obj.cells #[Value.slice none 0 0, Value.int IntKind.i64 d] 26)).heap.size = B + 1 := by simp [hB]
      have hWB : W < B := by have := hx.size; omega
      generalize (wr.alloc (Obj.cells #[Value.slice none 0 0, Value.int IntKind.i64 d] 26)) = w2 at *
      rw [← hB]
      clear hB hx
      have hfN := field_N
      go_loopw [8, 9, 10] (fun i u v ws => ∃ (k : Nat) (ov : Value), k ≤ ns.length ∧ i = .int .i64 k ∧ Ext w1 ws ∧ B + 1 ≤ ws.heap.size ∧ (ws.cell? ⟨B, 0, none⟩ = some ov ∧ ws.frozen? ⟨B, 0, none⟩ = false) ∧ ws.cell? ⟨B, 1, none⟩ = some (.int .i64 d) ∧ Own ws (B + 1) 1 ov (ints ((ns.take k).map (· / g)))) (fun i _ _ _ => ns.length - (intOf i).toNat)
      case atStart => exact ⟨0, _, by omega, rfl, hx2, by omega, hc2, hd2, Own.nil _ _ _⟩
      case round =>
        rename World => ws
        obtain ⟨k, ov, hk, rfl, hx, hBs, ⟨hc, hf⟩, hd1, ho⟩ := hrel
        by_cases hlt : k < ns.length
        · obtain ⟨b, off, nb, zo, A, zc, mb, yo, Y, yc, rfl, hb, ⟨c0, c1, c2, c3⟩, hq⟩ := (hQ.ext hxa).ext hx k (by rw [HQL.out]; exact hlt)
          have hqe : qth (ns.map fun n => Rat.divInt n D) k = Rat.divInt (ith ns k) D := by simp [qth, ith, hlt]
          rw [hqe] at hq
          clear hqe
          have h1 := HB.out k hlt
          have hpn := parts_num hD.1 hgp HGD.out.1 (HGD.out.2 (ith ns k) (ith_mem hlt))
          rw [HDD.out] at hpn
          have hq4 : 0 ≤ ith ns k / g := Int.ediv_nonneg (by omega) (by omega)
          have hq5 : ith ns k / g ≤ ith ns k := Int.ediv_le_self _ (by omega)
          obtain ⟨x, hxx⟩ : ∃ x, ith ns k / g = x := ⟨_, rfl⟩
          have HXX := Lib.hid hxx
          rw [hxx] at hpn hq4 hq5
          have f1 : Fine (Rat.divInt (ith ns k) D) := fine_small (by omega) (by omega) (by omega)
          have f2 : Fine (Rat.divInt d 1) := fine_small (by omega) (by omega) (by omega)
          have hwv : withinV x 1152921504606846976 = x := by unfold withinV; rw [if_pos (by omega)]
          have hwb : withinB x 1152921504606846976 = true := by unfold withinB; rw [decide_eq_true (by omega)]
          have hwc := fun W rb ro RA rc h hA => within_calls W rb ro RA rc x 1152921504606846976 h hA (by omega)
          rw [hwv, hwb] at hwc
          have hmy := many_i64 (n := x) (by omega)
          have hk0 : (0 : Int) ≤ (k : Int) := by omega
          have hkl : (k : Int) < (ns.length : Int) := by omega
          clear hxx hwv hwb
          go_wp2_with fail
          go_region_held3 (fun w' => (w'.cell? ⟨b, off + k * 4, none⟩ = some (.bool nb)) ∧ (w'.cell? ⟨b, off + k * 4 + 1, none⟩ = some (.slice zo A zc)) ∧ (w'.cell? ⟨b, off + k * 4 + 2, none⟩ = some (.bool mb)) ∧ (w'.cell? ⟨b, off + k * 4 + 3, none⟩ = some (.slice yo Y yc)))
            (exact c4 hb ⟨c0, c1, c2, c3⟩ (by repeat (first | exact Ext.refl _ | with_reducible assumption | refine Ext.alloc ?_ _ | refine Ext.drew ?_ | (refine Ext.setOwn ?_ _ _ (by first | exact Nat.le_refl _ | exact hxk1.size | exact hxk2.size)))))
            ((first
              | (go_at_call 84; refine (hwc _ nb2 zo2 A2 zc2 (by have := hR2.num; rw [hpn] at this; exact this.ext (by repeat (first | exact Ext.refl _ | with_reducible assumption | refine Ext.alloc ?_ _ | refine Ext.drew ?_ | (refine Ext.setOwn ?_ _ _ (by first | exact Nat.le_refl _ | exact hxk1.size | exact hxk2.size))))) (by have := hR2.num.digs.many; rw [hpn] at this; omega)).mono ?_; rintro e v3 ⟨rfl, hx13⟩; have hxk3 : Ext ws v3 := hxk2.trans (Ext.trans (by repeat (first | exact Ext.refl _ | with_reducible assumption | refine Ext.alloc ?_ _ | refine Ext.drew ?_ | (refine Ext.setOwn ?_ _ _ (by first | exact Nat.le_refl _ | exact hxk1.size | exact hxk2.size)))) hx13))
              | (go_at_call 86; refine (mul_calls _ nb mb nb1 mb1 zo yo zo1 yo1 A zc Y yc A1 zc1 B1 yc1 _ _ (hq.ext (hxk1.trans (by repeat (first | exact Ext.refl _ | with_reducible assumption | refine Ext.alloc ?_ _ | refine Ext.drew ?_ | (refine Ext.setOwn ?_ _ _ (by first | exact Nat.le_refl _ | exact hxk1.size | exact hxk2.size)))))) (hR1.ext (by repeat (first | exact Ext.refl _ | with_reducible assumption | refine Ext.alloc ?_ _ | refine Ext.drew ?_ | (refine Ext.setOwn ?_ _ _ (by first | exact Nat.le_refl _ | exact hxk1.size | exact hxk2.size))))) f1 f2).mono ?_; rintro e v2 ⟨nb2, zo2, A2, zc2, mb2, yo2, B2, yc2, rfl, hR2, hbk2, hbm2, hx12⟩; have hxk2 : Ext ws v2 := hxk1.trans (Ext.trans (by repeat (first | exact Ext.refl _ | with_reducible assumption | refine Ext.alloc ?_ _ | refine Ext.drew ?_ | (refine Ext.setOwn ?_ _ _ (by first | exact Nat.le_refl _ | exact hxk1.size | exact hxk2.size)))) hx12))
              | (go_at_call 31; refine (frac_calls _ d 1 (by omega) (by omega) (by omega)).mono ?_; rintro e v1 ⟨nb1, zo1, A1, zc1, mb1, yo1, B1, yc1, rfl, hR1, hbk1, hbm1, hx11⟩; have hxk1 : Ext ws v1 := Ext.trans (by repeat (first | exact Ext.refl _ | with_reducible assumption | refine Ext.alloc ?_ _ | refine Ext.drew ?_ | (refine Ext.setOwn ?_ _ _ (by first | exact Nat.le_refl _ | exact hxk1.size | exact hxk2.size)))) hx11)))
          have hBl : B < ws.heap.size := by omega
          have hc3 := (hxk3.cell (p := ⟨B, 0, none⟩) hBl).trans hc
          have hf3 := (hxk3.frozen (p := ⟨B, 0, none⟩) hBl).trans hf
          have hd3 := (hxk3.cell (p := ⟨B, 1, none⟩) hBl).trans hd1
          have ho3 := ho.ext hxk3
          have hB3 := Nat.lt_of_lt_of_le hBl hxk3.size
          have hlow := ho3.lt
          have hneA : some (⟨B, 0, none⟩ : Addr).block ≠ ov.ownBlock := fun e => by have := (ho3.lt B e.symm).1; omega
          have hx03 := hx.trans hxk3
          clear hc hf hd1 ho c0 c1 c2 c3 hpn hwc hR1 hR2 hq hx11 hx12 hx13
          go_wp2_with (at_builtin; refine wpList_append_Own _ rfl _ _ 22 rfl 3 i0 (.int .i64 0) 1 8 Try.underlying22 hi hz0 hz1 hz2 rfl (by omega) (B + 1) _ (ints ((ns.take k).map (· / g))) rfl (Own.ext ho3 ((Ext.refl _).alloc _)) (by simp; omega) _ 1 1 [.int .i64 x] rfl rfl (one_cell _ _ _ _ (by simp)) (by simp [Value.oneCell']) (by simp [ints_length]; unfold maxLen; omega) (by simp [ints_length]; omega) ?_; intro v' w5 ho5 hg5 hb5; have hc5 := (grownBy_cell hg5 (p := ⟨B, 0, none⟩) (by simp; omega) hneA).trans ((((Ext.refl _).alloc _).cell (p := ⟨B, 0, none⟩) hB3).trans hc3); have hf5 := (grownBy_frozen hg5 (p := ⟨B, 0, none⟩) (by simp; omega) hneA).trans ((((Ext.refl _).alloc _).frozen (p := ⟨B, 0, none⟩) hB3).trans hf3); have he5 := (grownBy_cell hg5 (p := ⟨B, 1, none⟩) (by simp; omega) hneA).trans ((((Ext.refl _).alloc _).cell (p := ⟨B, 1, none⟩) hB3).trans hd3); obtain ⟨no, nn, nc, rfl, -⟩ := ho5.shapeCap)
          rw [← HXX.out, ints_snoc, ← map_snoc (· / g) ns k hlt] at ho5
          have hs5 := hg5.size
          simp only [World.size_alloc] at hs5
          have hx5 : Ext w1 w5 := (hx03.alloc _).onto hg5 (fun q hq => by have := (hlow q hq).1; omega)
          refine ⟨⟨k + 1, .slice no nn nc, by omega, rfl, hx5.setOwn _ _ (by simp; omega), by simp [World.setCell]; omega, ⟨World.cell?_setCell_same _ _ _ hc5, by rw [World.frozen?_setCell]; exact hf5⟩, by rw [World.cell?_setCell_other _ _ _ _ (by simp)]; exact he5, ho5.keep (grownBy_setCell w5 ⟨B, 0, none⟩ (.slice no nn nc)) (by
            right
            intro e
            have := (ho5.lt B e).1
            omega)⟩, by simp only [intOf]; omega⟩
        · obtain rfl : k = ns.length := by omega
          rw [List.take_length] at ho
          have hWl : W < w1.heap.size := by omega
          obtain ⟨hra0, hra1, hrf0, hrf1⟩ := hra
          have e0 := (hx.cell (p := ⟨W, 0, none⟩) hWl).trans hra0
          have e1 := (hx.cell (p := ⟨W, 1, none⟩) hWl).trans hra1
          have f0 := (hx.frozen (p := ⟨W, 0, none⟩) hWl).trans hrf0
          have f1 := (hx.frozen (p := ⟨W, 1, none⟩) hWl).trans hrf1
          obtain ⟨no, nn, nc, rfl, -⟩ := ho.shapeCap
          go_wp2_with fail
          have q0 : ((ws.setCell ⟨W, 0, none⟩ (.slice no nn nc)).setCell ⟨W, 1, none⟩ (.int .i64 d)).cell? ⟨W, 0, none⟩ = some (.slice no nn nc) := by
            rw [World.cell?_setCell_other _ _ _ _ (by simp)]; exact World.cell?_setCell_same _ _ _ e0
          have q1 : ((ws.setCell ⟨W, 0, none⟩ (.slice no nn nc)).setCell ⟨W, 1, none⟩ (.int .i64 d)).cell? ⟨W, 1, none⟩ = some (.int .i64 d) :=
            World.cell?_setCell_same _ _ _ (by rw [World.cell?_setCell_other _ _ _ _ (by simp)]; exact e1)
          have ho2 := (ho.keep (grownBy_setCell ws ⟨W, 0, none⟩ (.slice no nn nc)) (by right; intro e; have := (ho.lt W e).1; omega)).keep (grownBy_setCell _ ⟨W, 1, none⟩ (.int .i64 d)) (by right; intro e; have := (ho.lt W e).1; omega)
          refine bodyPost_ret (v := .agg #[.slice no nn nc, .int .i64 d]) (by simp [results, Try.results50, go_sem, q0, q1]) rfl ?_
          rw [← HGG.out, HDD.out]
          have hxw := ((hxa.trans hx).setOwn ⟨W, 0, none⟩ (.slice no nn nc) (by simp; omega)).setOwn ⟨W, 1, none⟩ (.int .i64 d) (by simp; omega)
          exact ⟨_, rfl, ho2.rebase (by omega), hxw⟩
end Go.Proofs.Ytcngecibljgndaa
