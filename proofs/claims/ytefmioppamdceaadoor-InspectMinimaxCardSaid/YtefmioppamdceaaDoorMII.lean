/- Inspect: parts, ratio. -/
import Derived.Test.YtefmioppamdceaaDoorMIE
import Derived.Test.YtefmioppamdceaaDoorMDig
namespace Go.Proofs.YtefmioppamdceaaDoor
open Go.RowKit Go.Shelf

/-- The divisor of parts. -/
def gcdE (s : Int) (f : Nat → Int) : Nat → Nat
  | 0 => s.natAbs
  | k + 1 => Nat.gcd (gcdE s f k) (f k).natAbs
theorem gcdE_dvd (s : Int) (f : Nat → Int) : ∀ k, gcdE s f k ∣ s.natAbs ∧ ∀ i, i < k → gcdE s f k ∣ (f i).natAbs
  | 0 => ⟨Nat.dvd_refl _, fun i hi => absurd hi (by omega)⟩
  | k + 1 => by
    obtain ⟨h1, h2⟩ := gcdE_dvd s f k
    have e1 : gcdE s f (k + 1) ∣ gcdE s f k := Nat.gcd_dvd_left _ _
    refine ⟨Nat.dvd_trans e1 h1, fun i hi => ?_⟩
    by_cases e : i = k
    · subst e; exact Nat.gcd_dvd_right _ _
    · exact Nat.dvd_trans e1 (h2 i (by omega))
theorem gcdE_pos {s : Int} (hs : 0 < s) (f : Nat → Int) (k : Nat) : 0 < gcdE s f k := by
  rcases Nat.eq_zero_or_pos (gcdE s f k) with h | h
  · have := (gcdE_dvd s f k).1
    rw [h] at this
    have := Nat.eq_zero_of_zero_dvd this
    omega
  · exact h
theorem gcdE_le {s : Int} (hs : 0 < s) (f : Nat → Int) (k : Nat) : gcdE s f k ≤ s.natAbs := Nat.le_of_dvd (by omega) (gcdE_dvd s f k).1
def MadeParts (w : World) (xs : List Int) (d : Int) (e : Ending) (w' : World) : Prop := ∃ v, e = .returned (.agg #[v, .int .i64 d]) ∧ Own w' w.heap.size 1 v (ints xs) ∧ Ext w w'
/-- A part of a row of entries. -/
def RowO (w : World) (b off L : Nat) (f : Nat → Int) : Prop := b < w.heap.size ∧ ∀ k, k < L → EntC w ⟨b, off + k, none⟩ (f k)
theorem RowO.ext {w w' : World} {b off L : Nat} {f : Nat → Int} (h : RowO w b off L f) (hx : Ext w w') : RowO w' b off L f := ⟨Nat.lt_of_lt_of_le h.1 hx.size, fun k hk => (h.2 k hk).ext h.1 hx⟩
theorem BigAt.zero {w : World} {T : TypeId} : BigAt (w.alloc (Obj.cells #[.bool false, .slice none 0 0] T)) w.heap.size 0 :=
  ⟨⟨⟨false, by simp [go_sem]⟩, ⟨_, by simp [go_sem]; rfl⟩, by simp [go_sem], by simp [go_sem], by simp⟩, by simp [go_sem], none, 0, 0, by simp [go_sem], WNum.nil _⟩
theorem many_small {z : Int} (h : z.natAbs < 18446744073709551616) : W.many z.natAbs ≤ 1000 := Nat.le_trans (many2 h) (by omega)
theorem Ext.set {w w1 w2 : World} {a : Nat} (h : Ext w w1) (hg : w1.grownBy w2 (some a)) (ha : w.heap.size ≤ a) : Ext w w2 := h.onto hg (fun q hq => by simp only [Option.some.injEq] at hq; omega)
theorem sm_bnd {f : Nat → Int} {L : Nat} (hf : ∀ k, k < L → 0 ≤ f k ∧ f k ≤ 1000000000000000) (hL : L ≤ 100) (k : Nat) (hk : k ≤ L) : 0 ≤ sm k f ∧ sm k f ≤ 100000000000000000 := by
  have h1 := sm_nonneg k (fun i hi => (hf i (by omega)).1)
  have h2 := sm_le (g := fun _ => (1000000000000000 : Int)) k (fun i hi => (hf i (by omega)).2)
  rw [sm_const] at h2
  have : (k : Int) ≤ 100 := by omega
  omega
theorem box3 {wz X w5 : World} {B : Nat} {ov : Value} {d : Int} (h : ∀ W2, Ext wz W2 → W2.cell? ⟨B, 0, none⟩ = some ov ∧ W2.frozen? ⟨B, 0, none⟩ = false ∧ W2.cell? ⟨B, 1, none⟩ = some (.int .i64 d) ∧ B < W2.heap.size) (hg : X.grownBy w5 ov.ownBlock) (hne : some B ≠ ov.ownBlock) (hx : Ext wz X) :
    w5.cell? ⟨B, 0, none⟩ = some ov ∧ w5.frozen? ⟨B, 0, none⟩ = false ∧ w5.cell? ⟨B, 1, none⟩ = some (.int .i64 d) ∧ wz.grownBy w5 ov.ownBlock :=
  ⟨(grownBy_cell hg (p := ⟨B, 0, none⟩) (h X hx).2.2.2 hne).trans (h X hx).1, (grownBy_frozen hg (p := ⟨B, 0, none⟩) (h X hx).2.2.2 hne).trans (h X hx).2.1, (grownBy_cell hg (p := ⟨B, 1, none⟩) (h X hx).2.2.2 hne).trans (h X hx).2.2.1, grownBy_trans (hx.grown _) hg⟩
set_option maxRecDepth 100000 in
set_option maxHeartbeats 8000000 in
theorem gparts_calls (w : World) (b off L cap : Nat) (f : Nat → Int) (hR : RowO w b off L f) (hL : L ≤ 100) (hf : ∀ k, k < L → 0 ≤ f k ∧ f k ≤ 1000000000000000) (hs : 0 < sm L f) :
    Calls Tryd.prog 60 #[.slice (some ⟨b, off, none⟩) L cap] w (MadeParts w ((List.range L).map fun k => f k / (gcdE (sm L f) f L : Int)) (sm L f / (gcdE (sm L f) f L : Int))) := by
  have HF := Lib.hid hf
  have HS := Lib.hid (fun k hk => sm_bnd hf hL k hk)
  clear hf
  obtain ⟨i0, hi, hz0, hz1, hz2⟩ := info_parts info_int
  obtain ⟨s, hsd⟩ : ∃ s, s = sm L f := ⟨_, rfl⟩
  obtain ⟨G, hGd⟩ : ∃ G : Int, G = (gcdE s f L : Int) := ⟨_, rfl⟩
  rw [← hsd] at hs ⊢
  rw [← hGd]
  have HSD := Lib.hid hsd
  have HGD := Lib.hid hGd
  have hG1 : 0 < G ∧ G ≤ s := by
    have h1 := gcdE_pos hs f L
    have h2 := gcdE_le hs f L
    omega
  have hsB := HS.out L (Nat.le_refl _)
  rw [← hsd] at hsB
  clear hsd hGd
  go_enter Tryd.func60, Tryd.ntmps60
  go_wp2_with fail
  obtain ⟨w1, hw1⟩ : ∃ w1, w1 = ((w.alloc (Obj.cells #[.slice none 0 0, .int .i64 0] 40)).alloc (Obj.cells #[.bool false, .slice none 0 0] 94)) := ⟨_, rfl⟩
  obtain ⟨W, hW⟩ : ∃ W, W = w.heap.size := ⟨_, rfl⟩
  have hx1 : Ext w w1 := by rw [hw1]; exact (by repeat (first | exact Ext.refl _ | assumption | refine Ext.alloc ?_ _ | refine Ext.drewN ?_ _ | refine Ext.drew ?_))
  have hsp1 : Spot w1 W := by rw [hw1, hW]; exact (Spot.new w _ _ _).ext ((Ext.refl _).alloc _)
  have hB1 : BigAt w1 (W + 1) 0 := by
    have := BigAt.zero (w := w.alloc (Obj.cells #[.slice none 0 0, .int .i64 0] 40)) (T := 94)
    rw [hw1, hW]
    simpa using this
  have hs1 : w1.heap.size = W + 2 := by rw [hw1, hW]; simp
  rw [← hw1, ← hW]
  have hWw : w.heap.size ≤ W := by omega
  clear hw1 hW
  go_loopw [15] (fun q wr => ∃ k : Nat, k ≤ L ∧ q = .int .i64 k ∧ Ext w wr ∧ w1.grownBy wr (some (W + 1)) ∧ BigAt wr (W + 1) (sm k f)) (fun q _ => L - (intOf q).toNat)
  case atStart => exact ⟨0, by omega, rfl, hx1, (Ext.refl _).grown _, hB1⟩
  case round =>
    obtain ⟨k, hk, rfl, hx, hg, hB⟩ := hrel
    have hbk := HS.out k hk
    by_cases hlt : k < L
    · obtain ⟨hbl, hent⟩ := hR.ext hx
      obtain ⟨a, hca, hBa⟩ := hent k hlt
      have hfk := HF.out k hlt
      have hac := iadd_calls wr (W + 1) (W + 1) a _ _ hB.spot hB hBa (many_small (by omega)) (many_small (by omega))
      go_wp2_with fail
      refine hac.mono ?_
      rintro e w2 ⟨rfl, hg2, hB2⟩
      clear hac
      have hx2 := hx.set hg2 (by omega)
      have hg3 := grownBy_trans hg hg2
      have HZ : Hid (sm k f + f k = sm (k + 1) f) := Lib.hid rfl
      rw [HZ.out] at hB2
      go_wp2_with fail
      exact ⟨⟨k + 1, by omega, rfl, hx2, hg3, hB2⟩, by simp only [intOf]; omega⟩
    · obtain rfl : L = k := by omega
      rw [← HSD.out] at hB
      have hspk : Spot wr W := by
        have hne : ∀ o, some (⟨W, o, none⟩ : Addr).block ≠ some (W + 1) := fun o => by simp
        have hl1 : W < w1.heap.size := by omega
        exact ⟨Nat.lt_of_lt_of_le hl1 hg.size, by rw [grownBy_cell hg (p := ⟨W, 0, none⟩) hl1 (hne 0)]; exact hsp1.some0, by rw [grownBy_cell hg (p := ⟨W, 1, none⟩) hl1 (hne 1)]; exact hsp1.some1, by rw [grownBy_frozen hg (p := ⟨W, 0, none⟩) hl1 (hne 0)]; exact hsp1.free0, by rw [grownBy_frozen hg (p := ⟨W, 1, none⟩) hl1 (hne 1)]; exact hsp1.free1⟩
      clear hg hB1 hsp1 hx1 hbk
      go_wp2_with fail
      have hx2 : Ext wr (wr.alloc (Obj.cells #[.bool false, .slice none 0 0] 94)) := (by repeat (first | exact Ext.refl _ | assumption | refine Ext.alloc ?_ _ | refine Ext.drewN ?_ _ | refine Ext.drew ?_))
      have hs2 := IntSpot.new wr
      obtain ⟨N, hN⟩ : ∃ N, N = wr.heap.size := ⟨_, rfl⟩
      generalize hw2 : (wr.alloc (Obj.cells #[.bool false, .slice none 0 0] 94)) = w2 at *
      rw [← hN] at hs2 ⊢
      have hNw : wr.heap.size ≤ N := by omega
      have hNS : N ≠ W + 1 := by have := hB.spot.lt; omega
      have hNW : N ≠ W := by have := hspk.lt; omega
      have hNw0 : w.heap.size ≤ N := by have := hx.size; omega
      clear hw2 hN
      refine (isetTo_calls w2 N (W + 1) s hs2 (hB.ext hx2)).mono ?_
      rintro e w3 ⟨rfl, hg3, hB3⟩
      have hx3 := (hx2.set hg3 hNw)
      have hx03 := hx.trans hx3
      have hBs3 := hB.ext hx3
      have hsp3 := hspk.ext hx3
      clear hg3 hB hspk hx2 hs2 hs1
      go_wp2_with fail
      go_loopw [31] (fun q ws => ∃ k : Nat, k ≤ L ∧ q = .int .i64 k ∧ Ext w ws ∧ w3.grownBy ws (some N) ∧ BigAt ws N (gcdE s f k : Int)) (fun q _ => L - (intOf q).toNat)
      case atStart => exact ⟨0, by omega, rfl, hx03, (Ext.refl _).grown _, by rw [show ((gcdE s f 0 : Nat) : Int) = s by show ((s.natAbs : Nat) : Int) = s; omega]; exact hB3⟩
      case round =>
        rename World => ws
        obtain ⟨k, hk, rfl, hxs, hgs, hBk⟩ := hrel
        have hgk := gcdE_le hs f k
        have hgk0 := gcdE_pos hs f k
        by_cases hlt : k < L
        · obtain ⟨hbl, hent⟩ := hR.ext hxs
          obtain ⟨a, hca, hBa⟩ := hent k hlt
          have hfk := HF.out k hlt
          have hac := igcd_calls ws N N a _ _ hBk.spot hBk hBa (by omega) (by omega)
          have HZ : Hid ((Int.gcd (gcdE s f k : Int) (f k) : Int) = (gcdE s f (k + 1) : Int)) := Lib.hid rfl
          rw [HZ.out] at hac
          go_wp2_with fail
          refine hac.mono ?_
          rintro e w4 ⟨rfl, hg4, hB4⟩
          clear hac
          have hx4 := hxs.set hg4 hNw0
          have hg5 := grownBy_trans hgs hg4
          go_wp2_with fail
          exact ⟨⟨k + 1, by omega, rfl, hx4, hg5, hB4⟩, by simp only [intOf]; omega⟩
        · obtain rfl : L = k := by omega
          rw [← HGD.out] at hBk
          have hspk : Spot ws W := by
            have hne : ∀ o, some (⟨W, o, none⟩ : Addr).block ≠ some N := fun o => by simp only [ne_eq, Option.some.injEq]; omega
            exact ⟨Nat.lt_of_lt_of_le hsp3.lt hgs.size, by rw [grownBy_cell hgs (p := ⟨W, 0, none⟩) hsp3.lt (hne 0)]; exact hsp3.some0, by rw [grownBy_cell hgs (p := ⟨W, 1, none⟩) hsp3.lt (hne 1)]; exact hsp3.some1, by rw [grownBy_frozen hgs (p := ⟨W, 0, none⟩) hsp3.lt (hne 0)]; exact hsp3.free0, by rw [grownBy_frozen hgs (p := ⟨W, 1, none⟩) hsp3.lt (hne 1)]; exact hsp3.free1⟩
          have hBS := hBs3.far (by first | exact (hB3.spot) | assumption) (Ne.symm hNS) hgs
          clear hgs hBs3 hsp3 hx03 hx3 hgk hgk0 hB3
          have hdiv : s.tdiv G = s / G := Int.tdiv_eq_ediv_of_nonneg (by omega)
          have hd0 : 0 ≤ s / G := Int.ediv_nonneg (by omega) (by omega)
          have hd1 : s / G ≤ s := Int.ediv_le_self _ (by omega)
          obtain ⟨d, hdd⟩ : ∃ d, d = s / G := ⟨_, rfl⟩
          rw [← hdd] at hdiv hd0 hd1
          have HDD := Lib.hid hdd
          clear hdd
          go_wp2_with fail
          have hx2 : Ext ws (ws.alloc (Obj.cells #[.bool false, .slice none 0 0] 94)) := (by repeat (first | exact Ext.refl _ | assumption | refine Ext.alloc ?_ _ | refine Ext.drewN ?_ _ | refine Ext.drew ?_))
          have hs2 := IntSpot.new ws
          obtain ⟨D, hD⟩ : ∃ D, D = ws.heap.size := ⟨_, rfl⟩
          generalize hw2 : (ws.alloc (Obj.cells #[.bool false, .slice none 0 0] 94)) = w4 at *
          rw [← hD] at hs2 ⊢
          have hDw : ws.heap.size ≤ D := by omega
          clear hw2 hD
          have hqc := iquo_calls w4 D (W + 1) N s G hs2 (hBS.ext hx2) (hBk.ext hx2) (many_small (by omega)) (by omega) (by omega)
          rw [hdiv] at hqc
          refine hqc.mono ?_
          rintro e w5 ⟨rfl, hg5, hB5⟩
          have hx5 := hx2.set hg5 hDw
          clear hqc hg5 hs2 hx2 hdiv
          go_wp2_with fail
          refine (iint64_calls w5 D d hB5 (by omega)).mono ?_
          rintro e w6 ⟨rfl, hx6⟩
          have hx06 := hxs.trans (hx5.trans hx6)
          have hBG := hBk.ext (hx5.trans hx6)
          have hspW := hspk.ext (hx5.trans hx6)
          clear hB5 hx5 hx6 hBk hspk hxs hBS
          go_wp2_with fail
          obtain ⟨w7, hw7⟩ : ∃ w7, w7 = (w6.alloc (Obj.cells #[.slice none 0 0, .int .i64 d] 40)) := ⟨_, rfl⟩
          obtain ⟨B, hB⟩ : ∃ B, B = w6.heap.size := ⟨_, rfl⟩
          have hx7 : Ext w6 w7 := by rw [hw7]; exact (by repeat (first | exact Ext.refl _ | assumption | refine Ext.alloc ?_ _ | refine Ext.drewN ?_ _ | refine Ext.drew ?_))
          have hc7 : w7.cell? ⟨B, 0, none⟩ = some (.slice none 0 0) ∧ w7.frozen? ⟨B, 0, none⟩ = false := by rw [hw7, hB]; exact ⟨by simp [go_sem], by simp [go_sem]⟩
          have hd7 : w7.cell? ⟨B, 1, none⟩ = some (.int .i64 d) := by rw [hw7, hB]; simp [go_sem]
          have hs7 : w7.heap.size = B + 1 := by rw [hw7, hB]; simp
          rw [← hw7, ← hB]
          have hBw : w6.heap.size ≤ B := by omega
          clear hw7 hB
          go_loopw [50] (fun i wz => ∃ (k : Nat) (ov : Value), k ≤ L ∧ i = .int .i64 k ∧ Ext w6 wz ∧ B + 1 ≤ wz.heap.size ∧ (wz.cell? ⟨B, 0, none⟩ = some ov ∧ wz.frozen? ⟨B, 0, none⟩ = false) ∧ wz.cell? ⟨B, 1, none⟩ = some (.int .i64 d) ∧ Own wz (B + 1) 1 ov (ints ((List.range k).map fun k => f k / G))) (fun i _ => L - (intOf i).toNat)
          case atStart => exact ⟨0, _, by omega, rfl, hx7, by omega, hc7, hd7, Own.nil _ _ _⟩
          case round =>
            rename World => wz
            clear hx7 hc7 hd7 hs7
            obtain ⟨k, ov, hk, rfl, hx, hBs, ⟨hc, hf⟩, hd1, ho⟩ := hrel
            by_cases hlt : k < L
            · obtain ⟨hbl, hent⟩ := hR.ext (hx06.trans hx)
              obtain ⟨a, hca, hBa⟩ := hent k hlt
              have hfk := HF.out k hlt
              have hGz := hBG.ext hx
              have hq3 : (f k).tdiv G = f k / G := Int.tdiv_eq_ediv_of_nonneg (by omega)
              have hq4 : 0 ≤ f k / G := Int.ediv_nonneg (by omega) (by omega)
              have hq5 : f k / G ≤ f k := Int.ediv_le_self _ (by omega)
              have hkl : ((List.range k).map fun k => f k / G).length = k := by simp
              have hlow := ho.lt
              have hBl : B < wz.heap.size := by omega
              have hneA : some (⟨B, 0, none⟩ : Addr).block ≠ ov.ownBlock := fun e => by have := (ho.lt B e.symm).1; omega
              obtain ⟨q, hqd⟩ : ∃ q, q = f k / G := ⟨_, rfl⟩
              rw [← hqd] at hq3 hq4 hq5
              have HQD := Lib.hid hqd
              clear hqd
              have hqc := fun W2 (hxW : Ext wz W2) (hsp : IntSpot W2 wz.heap.size) => (iquo_calls W2 wz.heap.size a N (f k) G hsp (hBa.ext hxW) (hGz.ext hxW) (many_small (by omega)) (by omega) (by omega)).mono (R' := SetRes wz wz.heap.size q) (fun e w' h => by rw [hq3] at h; exact MutRes.set hxW (Nat.le_refl _) h)
              have hic := fun W2 (hB : BigAt W2 wz.heap.size q) => iint64_calls W2 wz.heap.size q hB (by omega)
              have HM : Hid ((List.range (k + 1)).map (fun k => f k / G) = (List.range k).map (fun k => f k / G) ++ [q]) := Lib.hid (by rw [List.range_succ, List.map_append, HQD.out]; rfl)
              have HCA : Hid (∀ W2, Ext wz W2 → W2.cell? ⟨B, 0, none⟩ = some ov ∧ W2.frozen? ⟨B, 0, none⟩ = false ∧ W2.cell? ⟨B, 1, none⟩ = some (.int .i64 d) ∧ B < W2.heap.size) := Lib.hid (fun W2 h => ⟨(h.cell hBl).trans hc, (h.frozen hBl).trans hf, (h.cell hBl).trans hd1, Nat.lt_of_lt_of_le hBl h.size⟩)
              have HBZ : Hid (∀ W2, Ext wz W2 → B + 1 ≤ W2.heap.size) := Lib.hid (fun W2 h => Nat.le_trans hBs h.size)
              go_wp2_with fail
              go_region_law ((first
                | (go_simp; go_at_call 100; (with_reducible refine Calls.mono (hqc _ ?_ ?_) ?_); (exact (by repeat (with_reducible first | exact Ext.refl _ | assumption | refine Ext.alloc ?_ _ | refine Ext.drew ?_))); (first | exact IntSpot.ofNew _ _ | exact (IntSpot.ofNew _ _).ext ((Ext.refl _).drew)); rintro e v1 ⟨rfl, hxv1, hBv⟩; dsimp only; have kp1 := (HCA.out v1 hxv1).1; have kl1 := (HCA.out v1 hxv1).2.2.2)
                | (go_simp; go_at_call 97; (with_reducible refine Calls.mono (hic _ ?_) ?_); (exact hBv.ext (by repeat (with_reducible first | exact Ext.refl _ | assumption | refine Ext.alloc ?_ _ | refine Ext.drew ?_))); rintro e v2 ⟨rfl, hxv12⟩; dsimp only; have hxv2 : Ext wz v2 := hxv1.trans (Ext.trans (by repeat (with_reducible first | exact Ext.refl _ | assumption | refine Ext.alloc ?_ _ | refine Ext.drew ?_)) hxv12); have kp2 := (HCA.out v2 hxv2).1; have kl2 := (HCA.out v2 hxv2).2.2.2)
                | (refine step_append_Own _ (by rfl) _ _ 30 (by rfl) 3 i0 (.int .i64 0) 1 8 Tryd.underlying30 hi hz0 hz1 hz2 rfl (by omega) (B + 1) _ (ints ((List.range k).map fun k => f k / G)) (by rfl) (Own.ext ho (by repeat (with_reducible first | exact Ext.refl _ | assumption | refine Ext.alloc ?_ _ | refine Ext.drew ?_))) (HBZ.out _ (by repeat (with_reducible first | exact Ext.refl _ | assumption | refine Ext.alloc ?_ _ | refine Ext.drew ?_))) ⟨v2.heap.size, 0, none⟩ 1 1 [.int .i64 q] (by rfl) (by rfl) (one_cell _ _ _ _ (by simp)) (by simp [Value.oneCell']) (by simp [ints_length]; unfold maxLen; omega) (by simp [ints_length]; omega) ?_; intro v' w5 ho5 hg5 hb5; obtain ⟨hc5, hf5, he5, hg6⟩ := box3 HCA.out hg5 hneA (by repeat (with_reducible first | exact Ext.refl _ | assumption | refine Ext.alloc ?_ _ | refine Ext.drew ?_)); clear hg5; obtain ⟨no, nn, nc, rfl, -⟩ := ho5.shapeCap)))
              all_goals
                rw [ints_snoc, ← HM.out] at ho5
                have hx5 : Ext w6 w5 := hx.onto hg6 (fun q hq => by have := (hlow q hq).1; omega)
                have hs5 := hg6.size
                go_wp2_with fail
                refine ⟨⟨k + 1, .slice no nn nc, by omega, rfl, hx5.setOwn _ _ (by simp; omega), by simp [World.setCell]; omega, ⟨World.cell?_setCell_same _ _ _ hc5, by rw [World.frozen?_setCell]; exact hf5⟩, by rw [World.cell?_setCell_other _ _ _ _ (by simp)]; exact he5, ho5.keep (grownBy_setCell w5 ⟨B, 0, none⟩ (.slice no nn nc)) (by
                  right
                  intro e
                  have := (ho5.lt B e).1
                  omega)⟩, by simp only [intOf]; omega⟩
            · obtain rfl : L = k := by omega
              obtain ⟨⟨e0, he0⟩, ⟨e1, he1⟩⟩ := (⟨Option.isSome_iff_exists.1 (hspW.ext hx).some0, Option.isSome_iff_exists.1 (hspW.ext hx).some1⟩ : (∃ e0, wz.cell? ⟨W, 0, none⟩ = some e0) ∧ (∃ e1, wz.cell? ⟨W, 1, none⟩ = some e1))
              have f0 := (hspW.ext hx).free0
              have f1 := (hspW.ext hx).free1
              have hWl := (hspW.ext hx).lt
              have hBW : W < B := by have := hspW.lt; omega
              have hBl : B < wz.heap.size := by omega
              obtain ⟨no, nn, nc, rfl, -⟩ := ho.shapeCap
              go_wp2_with fail
              have q0 : ((wz.setCell ⟨W, 0, none⟩ (.slice no nn nc)).setCell ⟨W, 1, none⟩ (.int .i64 d)).cell? ⟨W, 0, none⟩ = some (.slice no nn nc) := by
                rw [World.cell?_setCell_other _ _ _ _ (by simp)]; exact World.cell?_setCell_same _ _ _ he0
              have q1 : ((wz.setCell ⟨W, 0, none⟩ (.slice no nn nc)).setCell ⟨W, 1, none⟩ (.int .i64 d)).cell? ⟨W, 1, none⟩ = some (.int .i64 d) :=
                World.cell?_setCell_same _ _ _ (by rw [World.cell?_setCell_other _ _ _ _ (by simp)]; exact he1)
              have ho2 := (ho.keep (grownBy_setCell wz ⟨W, 0, none⟩ (.slice no nn nc)) (by right; intro e; have := (ho.lt W e).1; omega)).keep (grownBy_setCell _ ⟨W, 1, none⟩ (.int .i64 d)) (by right; intro e; have := (ho.lt W e).1; omega)
              refine bodyPost_ret (v := .agg #[.slice no nn nc, .int .i64 d]) (by simp [results, Tryd.results60, go_sem, q0, q1]) rfl ?_
              have hxw := ((hx06.trans hx).setOwn ⟨W, 0, none⟩ (.slice no nn nc) (by simp; omega)).setOwn ⟨W, 1, none⟩ (.int .i64 d) (by simp; omega)
              rw [← HDD.out]
              exact ⟨_, rfl, ho2.rebase (by omega), hxw⟩
end Go.Proofs.YtefmioppamdceaaDoor
