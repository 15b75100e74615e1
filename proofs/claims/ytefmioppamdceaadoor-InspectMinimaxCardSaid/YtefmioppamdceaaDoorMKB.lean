/- Inspect, the boxes: lowest: numbers over a divisor in lowest terms. -/
import Derived.Test.YtefmioppamdceaaDoorMKE
import Derived.Test.YtefmioppamdceaaDoorMJB
import Derived.Test.YtefmioppamdceaaDoorMII
namespace Go.Proofs.YtefmioppamdceaaDoor
open Go.RowKit Go.Shelf

/-- The greatest number that divides a number and all of a list. -/
def gcdL (D : Int) (l : List Int) : Int := l.foldl (fun g n => (Int.gcd g n : Int)) D
theorem gcdL_snoc (D : Int) (l : List Int) (x : Int) : gcdL D (l ++ [x]) = (Int.gcd (gcdL D l) x : Int) := by simp [gcdL]
theorem gcdL_spec : ∀ (l : List Int) {D : Int}, 0 < D → 0 < gcdL D l ∧ gcdL D l ≤ D ∧ gcdL D l ∣ D ∧ (∀ x ∈ l, gcdL D l ∣ x) ∧ ∀ g : Int, g ∣ D → (∀ x ∈ l, g ∣ x) → g ∣ gcdL D l
  | [], D, hD => ⟨hD, Int.le_refl _, Int.dvd_refl _, by simp, fun g h _ => h⟩
  | x :: l, D, hD => by
    have hp : 0 < (Int.gcd D x : Int) := by have := Int.gcd_pos_of_ne_zero_left x (show D ≠ 0 by omega); omega
    obtain ⟨h1, h2, h3, h4, h5⟩ := gcdL_spec l hp
    have e : gcdL D (x :: l) = gcdL (Int.gcd D x : Int) l := rfl
    have hd : (Int.gcd D x : Int) ∣ D := Int.gcd_dvd_left _ _
    rw [e]
    refine ⟨h1, Int.le_trans h2 (Int.le_of_dvd hD hd), Int.dvd_trans h3 hd, fun y hy => ?_, fun g hg hl => ?_⟩
    · rcases List.mem_cons.1 hy with hy | hy
      · subst hy
        exact Int.dvd_trans h3 (Int.gcd_dvd_right _ _)
      · exact h4 y hy
    · exact h5 g (Int.dvd_coe_gcd hg (hl x (by simp))) (fun y hy => hl y (by simp [hy]))
def lowN (D : Int) (l : List Int) : List Int := l.map fun n => n.tdiv (gcdL D l)
def lowD (D : Int) (l : List Int) : Int := D.tdiv (gcdL D l)
set_option maxRecDepth 100000 in
set_option maxHeartbeats 4000000 in
theorem lowest_calls (w : World) (ao : Option Addr) (cap : Nat) (l : List Int) (D : Int) (hI : IntsIn w ao l) (hl : l.length ≤ 1000) (hD : 0 < D ∧ D ≤ 4611686018427387904) (hb : ∀ x ∈ l, -4611686018427387904 ≤ x ∧ x ≤ 4611686018427387904) :
    Calls Tryd.prog 42 #[.slice ao l.length cap, .int .i64 D] w (MadeParts w (lowN D l) (lowD D l)) := by
  obtain ⟨i0, hi, hz0, hz1, hz2⟩ := info_parts info_int
  have HB : Hid (∀ k, k < l.length → -4611686018427387904 ≤ ith l k ∧ ith l k ≤ 4611686018427387904) := Lib.hid (fun k hk => by
    rw [ith, List.getD_eq_getElem?_getD, List.getElem?_eq_getElem hk]
    exact hb _ (List.getElem_mem hk))
  have HG : Hid (∀ k, 0 < gcdL D (l.take k) ∧ gcdL D (l.take k) ≤ D) := Lib.hid (fun k => ⟨(gcdL_spec _ hD.1).1, (gcdL_spec _ hD.1).2.1⟩)
  obtain ⟨G, hG⟩ : ∃ G, G = gcdL D l := ⟨_, rfl⟩
  have hG0 : 0 < G ∧ G ≤ D := by rw [hG]; exact ⟨(gcdL_spec _ hD.1).1, (gcdL_spec _ hD.1).2.1⟩
  obtain ⟨d, hd⟩ : ∃ d, d = D.tdiv G := ⟨_, rfl⟩
  have HV : Hid (lowD D l = d ∧ lowN D l = l.map fun n => n.tdiv G) := Lib.hid ⟨by rw [lowD, ← hG, hd], by rw [lowN, ← hG]⟩
  have hbd : -4611686018427387904 ≤ d ∧ d ≤ 4611686018427387904 := by rw [hd]; exact tdivB (by omega)
  have HD := Lib.hid hd.symm
  have HGL := Lib.hid hG
  clear hb hd hG
  go_enter Tryd.func42, Tryd.ntmps42
  go_wp2_with fail
  obtain ⟨w0, hw0⟩ : ∃ w0, w0 = (w.alloc (Obj.cells #[.slice none 0 0, .int .i64 0] 40)) := ⟨_, rfl⟩
  obtain ⟨W, hW⟩ : ∃ W, W = w.heap.size := ⟨_, rfl⟩
  have hx0 : Ext w w0 := by rw [hw0]; exact (by repeat (first | exact Ext.refl _ | assumption | refine Ext.alloc ?_ _ | refine Ext.drewN ?_ _ | refine Ext.drew ?_))
  have hsp : Spot w0 W := by rw [hw0, hW]; exact Spot.new _ _ _ _
  rw [← hw0, ← hW]
  have hWw : w.heap.size ≤ W := by omega
  have hI0 := hI.ext hx0
  clear hw0 hW hI
  go_loopw [5, 14] (fun gv i wr => ∃ k : Nat, k ≤ l.length ∧ i = .int .i64 k ∧ gv = .int .i64 (gcdL D (l.take k)) ∧ Ext w0 wr) (fun _ i _ => l.length - (intOf i).toNat)
  case atStart => exact ⟨0, by omega, rfl, by simp [gcdL], Ext.refl _⟩
  case round =>
    obtain ⟨k, hk, rfl, rfl, hx⟩ := hrel
    by_cases hlt : k < l.length
    · obtain ⟨b, off, hao, hbl, hc⟩ := hI0.ext hx k hlt
      subst hao
      have hb1 := HB.out k hlt
      have hb2 := HG.out k
      have hgc := fun W2 => gcdI_calls W2 (gcdL D (l.take k)) (ith l k) (by omega) hb1
      have HN : Hid (((Int.gcd (gcdL D (l.take k)) (ith l k) : Nat) : Int) = gcdL D (l.take (k + 1))) := Lib.hid (by rw [take_snoc l k hlt, gcdL_snoc])
      clear HB
      go_wp2_with fail
      refine (hgc _).mono ?_
      rintro e w2 ⟨rfl, hx2⟩
      rw [HN.out]
      go_wp2_with fail
      exact ⟨⟨k + 1, by omega, by go_num, rfl, hx.trans hx2⟩, by simp only [intOf]; omega⟩
    · obtain rfl : k = l.length := by omega
      rw [List.take_length, ← HGL.out]
      have hdd := HD.out
      have hgz : ¬ G = 0 := by omega
      have hgz2 : (G == 0) = false := by simp; omega
      have hwd : IntKind.i64.wrap d = d := by rw [IntKind.wrap_i64]; omega
      go_wp2_with fail
      have hspr := hsp.ext hx
      have hxr := hx0.trans hx
      have hIr := hI0.ext hx
      clear HG HD hx hsp hI0 hx0
      obtain ⟨w7, hw7⟩ : ∃ w7, w7 = (wr.alloc (Obj.cells #[.slice none 0 0, .int .i64 d] 40)) := ⟨_, rfl⟩
      obtain ⟨B, hB⟩ : ∃ B, B = wr.heap.size := ⟨_, rfl⟩
      have hx7 : Ext wr w7 := by rw [hw7]; exact (by repeat (first | exact Ext.refl _ | assumption | refine Ext.alloc ?_ _ | refine Ext.drewN ?_ _ | refine Ext.drew ?_))
      have hc7 : w7.cell? ⟨B, 0, none⟩ = some (.slice none 0 0) ∧ w7.frozen? ⟨B, 0, none⟩ = false := by rw [hw7, hB]; exact ⟨by simp [go_sem], by simp [go_sem]⟩
      have hd7 : w7.cell? ⟨B, 1, none⟩ = some (.int .i64 d) := by rw [hw7, hB]; simp [go_sem]
      have hs7 : w7.heap.size = B + 1 := by rw [hw7, hB]; simp
      rw [← hw7, ← hB]
      have hBw : wr.heap.size ≤ B := by omega
      have hWB : W < B := by have := hspr.lt; omega
      clear hw7 hB
      go_loopw [28] (fun i wz => ∃ (k : Nat) (ov : Value), k ≤ l.length ∧ i = .int .i64 k ∧ Ext wr wz ∧ B + 1 ≤ wz.heap.size ∧ (wz.cell? ⟨B, 0, none⟩ = some ov ∧ wz.frozen? ⟨B, 0, none⟩ = false) ∧ wz.cell? ⟨B, 1, none⟩ = some (.int .i64 d) ∧ Own wz (B + 1) 1 ov (ints ((l.take k).map fun n => n.tdiv G))) (fun i _ => l.length - (intOf i).toNat)
      case atStart => exact ⟨0, _, by omega, rfl, hx7, by omega, hc7, hd7, Own.nil _ _ _⟩
      case round =>
        rename World => wz
        clear hx7 hc7 hd7 hs7
        obtain ⟨k, ov, hk, rfl, hx, hBs, ⟨hc, hf⟩, hd1, ho⟩ := hrel
        by_cases hlt : k < l.length
        · obtain ⟨b, off, hao, hbl, hck⟩ := hIr.ext hx k hlt
          subst hao
          have hb1 := HB.out k hlt
          have hkl : ((l.take k).map fun n => n.tdiv G).length = k := by rw [List.length_map, List.length_take]; omega
          have hlow := ho.lt
          have hBl : B < wz.heap.size := by omega
          have hneA : some (⟨B, 0, none⟩ : Addr).block ≠ ov.ownBlock := fun e => by have := (ho.lt B e.symm).1; omega
          obtain ⟨q, hqd⟩ : ∃ q, (ith l k).tdiv G = q := ⟨_, rfl⟩
          have hwq : IntKind.i64.wrap q = q := by rw [IntKind.wrap_i64, ← hqd]; have := tdivB (g := G) hb1; omega
          have HM : Hid ((l.take (k + 1)).map (fun n => n.tdiv G) = (l.take k).map (fun n => n.tdiv G) ++ [q]) := Lib.hid (by rw [take_snoc l k hlt, List.map_append, List.map_singleton, hqd])
          have HCA : Hid (∀ W2, Ext wz W2 → W2.cell? ⟨B, 0, none⟩ = some ov ∧ W2.frozen? ⟨B, 0, none⟩ = false ∧ W2.cell? ⟨B, 1, none⟩ = some (.int .i64 d) ∧ B < W2.heap.size) := Lib.hid (fun W2 h => ⟨(h.cell hBl).trans hc, (h.frozen hBl).trans hf, (h.cell hBl).trans hd1, Nat.lt_of_lt_of_le hBl h.size⟩)
          have HBZ : Hid (∀ W2, Ext wz W2 → B + 1 ≤ W2.heap.size) := Lib.hid (fun W2 h => Nat.le_trans hBs h.size)
          clear HB
          go_wp2_with fail
          go_region_law ((first
            | (refine step_append_Own _ (by rfl) _ _ 30 (by rfl) 3 i0 (.int .i64 0) 1 8 Tryd.underlying30 hi hz0 hz1 hz2 rfl (by omega) (B + 1) _ (ints ((l.take k).map fun n => n.tdiv G)) (by rfl) (Own.ext ho (by repeat (with_reducible first | exact Ext.refl _ | assumption | refine Ext.alloc ?_ _ | refine Ext.drew ?_))) (HBZ.out _ (by repeat (with_reducible first | exact Ext.refl _ | assumption | refine Ext.alloc ?_ _ | refine Ext.drew ?_))) ⟨_, 0, none⟩ 1 1 [.int .i64 q] (by rfl) (by rfl) (one_cell _ _ _ _ (by simp)) (by simp [Value.oneCell']) (by rw [ints_length, hkl]; unfold maxLen; simp only [List.length_cons, List.length_nil]; omega) (by rw [ints_length, hkl]; simp only [List.length_cons, List.length_nil]; omega) ?_; intro v' w5 ho5 hg5 hb5; obtain ⟨hc5, hf5, he5, hg6⟩ := box3 HCA.out hg5 hneA (by repeat (with_reducible first | exact Ext.refl _ | assumption | refine Ext.alloc ?_ _ | refine Ext.drew ?_)); clear hg5; obtain ⟨no, nn, nc, rfl, -⟩ := ho5.shapeCap)))
          all_goals
            rw [ints_snoc, ← HM.out] at ho5
            have hx5 : Ext wr w5 := hx.onto hg6 (fun q hq => by have := (hlow q hq).1; omega)
            have hs5 := hg6.size
            go_wp2_with fail
            refine ⟨⟨k + 1, .slice no nn nc, by omega, by go_num, hx5.setOwn _ _ (by simp; omega), by simp [World.setCell]; omega, ⟨World.cell?_setCell_same _ _ _ hc5, by rw [World.frozen?_setCell]; exact hf5⟩, by rw [World.cell?_setCell_other _ _ _ _ (by simp)]; exact he5, ho5.keep (grownBy_setCell w5 ⟨B, 0, none⟩ (.slice no nn nc)) (by
              right
              intro e
              have := (ho5.lt B e).1
              omega)⟩, by simp only [intOf]; omega⟩
        · obtain rfl : k = l.length := by omega
          obtain ⟨⟨e0, he0⟩, ⟨e1, he1⟩⟩ := (⟨Option.isSome_iff_exists.1 (hspr.ext hx).some0, Option.isSome_iff_exists.1 (hspr.ext hx).some1⟩ : (∃ e0, wz.cell? ⟨W, 0, none⟩ = some e0) ∧ (∃ e1, wz.cell? ⟨W, 1, none⟩ = some e1))
          have f0 := (hspr.ext hx).free0
          have f1 := (hspr.ext hx).free1
          have hWl := (hspr.ext hx).lt
          obtain ⟨no, nn, nc, rfl, -⟩ := ho.shapeCap
          rw [List.take_length] at ho
          go_wp2_with fail
          obtain ⟨q0, q1⟩ := (hspr.ext hx).put (.slice no nn nc) (.int .i64 d)
          have ho2 := (ho.keep (grownBy_setCell wz ⟨W, 0, none⟩ (.slice no nn nc)) (by right; intro e; have := (ho.lt W e).1; omega)).keep (grownBy_setCell _ ⟨W, 1, none⟩ (.int .i64 d)) (by right; intro e; have := (ho.lt W e).1; omega)
          refine bodyPost_ret (v := .agg #[.slice no nn nc, .int .i64 d]) (by simp [results, Tryd.results42, go_sem, q0, q1]) rfl ?_
          have hxw := ((hxr.trans hx).setOwn ⟨W, 0, none⟩ (.slice no nn nc) (by simp; omega)).setOwn ⟨W, 1, none⟩ (.int .i64 d) (by simp; omega)
          rw [HV.out.1, HV.out.2]
          exact ⟨_, rfl, ho2.rebase (by omega), hxw⟩
end Go.Proofs.YtefmioppamdceaaDoor

/- Inspect: mixtures, proper values, what a mixture gets against a column. -/
namespace Go.Proofs.YtefmioppamdceaaDoor
open Go.RowKit Go.Shelf

theorem sm_up {f : Nat → Int} : ∀ d k, (∀ i, k ≤ i → i < k + d → 0 ≤ f i) → sm k f ≤ sm (k + d) f
  | 0, k, _ => Int.le_refl _
  | d + 1, k, h => by
    have h1 := sm_up d k (fun i a b => h i a (by omega))
    have h2 := h (k + d) (by omega) (by omega)
    have e : sm (k + (d + 1)) f = sm (k + d) f + f (k + d) := rfl
    omega
/-- Parts that are a mixture. -/
structure IsMix (l : List Int) (den moves most : Int) : Prop where
  den1 : 1 ≤ den
  denM : den ≤ most
  len : (l.length : Int) = moves
  pos : ∀ k, k < l.length → 0 ≤ ith l k
  sum : sm l.length (ith l) = den
  low : gcdL den l = 1
open Classical in
noncomputable def mixB (l : List Int) (den moves most : Int) : Bool := decide (IsMix l den moves most)
theorem mixB_true {l : List Int} {den moves most : Int} : mixB l den moves most = true ↔ IsMix l den moves most := by
  classical
  unfold mixB
  rw [decide_eq_true_eq]
theorem mixB_false {l : List Int} {den moves most : Int} : ¬ IsMix l den moves most → false = mixB l den moves most := fun h => by
  cases e : mixB l den moves most with
  | false => rfl
  | true => exact absurd (mixB_true.1 e) h
theorem IsMix.upto {l : List Int} {den moves most : Int} (h : IsMix l den moves most) {k : Nat} (hk : k ≤ l.length) : sm k (ith l) ≤ den := by
  have e := sm_up (f := ith l) (l.length - k) k (fun i _ hi => h.pos i (by omega))
  rw [show k + (l.length - k) = l.length by omega, h.sum] at e
  exact e
set_option maxRecDepth 100000 in
set_option maxHeartbeats 2000000 in
theorem mixture_calls (w : World) (ao : Option Addr) (cap : Nat) (l : List Int) (den moves most : Int) (hI : IntsIn w ao l) (hl : l.length ≤ 1000000) (hm : most ≤ 2199023255552) :
    Calls Tryd.prog 61 #[.agg #[.slice ao l.length cap, .int .i64 den], .int .i64 moves, .int .i64 most] w fun e w' => e = .returned (.bool (mixB l den moves most)) ∧ Ext w w' := by
  by_cases h1 : den < 1
  · have HV := Lib.hid (mixB_false (l := l) (den := den) (moves := moves) (most := most) (fun h => by have := h.den1; omega))
    go_enter Tryd.func61, Tryd.ntmps61
    go_wp2_with fail
    go_ret
    exact ⟨ret_bool HV.out, (by repeat (first | exact Ext.refl _ | assumption | refine Ext.alloc ?_ _ | refine Ext.drewN ?_ _ | refine Ext.drew ?_))⟩
  · by_cases h2 : most < den
    · have HV := Lib.hid (mixB_false (l := l) (den := den) (moves := moves) (most := most) (fun h => by have := h.denM; omega))
      go_enter Tryd.func61, Tryd.ntmps61
      go_wp2_with fail
      go_ret
      exact ⟨ret_bool HV.out, (by repeat (first | exact Ext.refl _ | assumption | refine Ext.alloc ?_ _ | refine Ext.drewN ?_ _ | refine Ext.drew ?_))⟩
    · by_cases h3 : (l.length : Int) = moves
      · have h3b : ((l.length : Int) == moves) = true := by simpa using h3
        subst h3
        have HU : Hid (∀ k, k ≤ l.length → den < sm k (ith l) → false = mixB l den (l.length : Int) most) := Lib.hid (fun k hk hlt => mixB_false (fun h => by have := h.upto hk; omega))
        have HN : Hid (∀ k, k < l.length → ith l k < 0 → false = mixB l den (l.length : Int) most) := Lib.hid (fun k hk hlt => mixB_false (fun h => by have := h.pos k hk; omega))
        have HE : Hid ((∀ k, k < l.length → 0 ≤ ith l k) → (gcdL den l = 1 ∧ den - sm l.length (ith l) = 0 ↔ mixB l den (l.length : Int) most = true)) := Lib.hid (fun hp => by
          rw [mixB_true]
          exact ⟨fun h => ⟨by omega, by omega, rfl, hp, by omega, h.1⟩, fun h => ⟨h.low, by have := h.sum; omega⟩⟩)
        go_enter Tryd.func61, Tryd.ntmps61
        go_wp2_with fail
        go_region
        go_wp2_with fail
        obtain ⟨w1, hw1⟩ : ∃ w1, w1 = (w.alloc (Obj.cells #[.slice ao l.length cap, .int .i64 den] 40)).drew := ⟨_, rfl⟩
        have hx1 : Ext w w1 := by rw [hw1]; exact (by repeat (first | exact Ext.refl _ | assumption | refine Ext.alloc ?_ _ | refine Ext.drewN ?_ _ | refine Ext.drew ?_))
        rw [← hw1]
        clear hw1
        go_loopw [7, 8, 34] (fun gv lv iv wr => ∃ k : Nat, k ≤ l.length ∧ iv = .int .i64 k ∧ gv = .int .i64 (gcdL den (l.take k)) ∧ lv = .int .i64 (den - sm k (ith l)) ∧ Hid (∀ j, j < k → 0 ≤ ith l j) ∧ 0 ≤ den - sm k (ith l) ∧ 0 ≤ sm k (ith l) ∧ Ext w1 wr) (fun _ _ iv _ => l.length - (intOf iv).toNat)
        case atStart => exact ⟨0, by omega, rfl, rfl, by show _ = Value.int .i64 (den - 0); rw [Int.sub_zero], Lib.hid (fun j hj => by omega), by show 0 ≤ den - 0; omega, by show (0 : Int) ≤ 0; omega, Ext.refl _⟩
        case round =>
          obtain ⟨k, hk, rfl, rfl, rfl, HP, hle, hs0, hx⟩ := hrel
          by_cases hlt : k < l.length
          · obtain ⟨b, off, hao, hbl, hc⟩ := (hI.ext hx1).ext hx k hlt
            subst hao
            obtain ⟨x, hxd⟩ : ∃ x, x = ith l k := ⟨_, rfl⟩
            rw [← hxd] at hc
            have HX := Lib.hid hxd
            have hgk := gcdL_spec (l.take k) (show 0 < den by omega)
            have hsk : sm (k + 1) (ith l) = sm k (ith l) + x := by rw [hxd]; rfl
            have HS := Lib.hid hsk
            clear hxd hsk
            by_cases hn : x < 0
            · have HV := Lib.hid (HN.out k hlt (by rw [← HX.out]; exact hn))
              go_wp2_with fail
              go_ret
              exact ⟨ret_bool HV.out, hx1.trans hx⟩
            · by_cases hb : den - sm k (ith l) < x
              · have HV := Lib.hid (HU.out (k + 1) (by omega) (by rw [HS.out]; omega))
                go_wp2_with fail
                go_ret
                exact ⟨ret_bool HV.out, hx1.trans hx⟩
              · have hgc := fun W2 => gcdI_calls W2 (gcdL den (l.take k)) x (by omega) (by omega)
                have HG : Hid (((Int.gcd (gcdL den (l.take k)) x : Nat) : Int) = gcdL den (l.take (k + 1))) := Lib.hid (by rw [take_snoc l k hlt, gcdL_snoc, ← HX.out])
                have hw2 : IntKind.i64.wrap (den - sm k (ith l) - x) = den - sm k (ith l) - x := by rw [IntKind.wrap_i64]; omega
                go_wp2_with fail
                refine (hgc _).mono ?_
                rintro e w2 ⟨rfl, hx2⟩
                rw [HG.out]
                go_wp2_with fail
                exact ⟨⟨k + 1, by omega, by go_num, rfl, by rw [HS.out, Int.sub_sub], Lib.hid (fun j hj => by
                  by_cases e : j = k
                  · rw [e, ← HX.out]; omega
                  · exact HP.out j (by omega)), by rw [HS.out]; omega, by rw [HS.out]; omega, hx.trans hx2⟩, by simp only [intOf]; omega⟩
          · obtain rfl : k = l.length := by omega
            rw [List.take_length]
            have HE2 := Lib.hid (HE.out (HP.out))
            have hxx := hx1.trans hx
            obtain ⟨g, hg⟩ : ∃ g, g = gcdL den l := ⟨_, rfl⟩
            obtain ⟨s, hs⟩ : ∃ s, s = den - sm l.length (ith l) := ⟨_, rfl⟩
            rw [← hg, ← hs] at HE2
            rw [← hg, ← hs]
            clear hg hs HE HP HU HN hle hs0
            by_cases hg1 : g = 1
            · have hgb : (g == 1) = true := by simp [hg1]
              by_cases hs1 : s = 0
              · have hsb : (s == 0) = true := by simp [hs1]
                have HV := Lib.hid (HE2.out.1 ⟨hg1, hs1⟩)
                subst hg1
                subst hs1
                go_wp2_with fail
                go_ret
                exact ⟨ret_bool HV.out.symm, hxx⟩
              · have hsb : (s == 0) = false := by simpa using hs1
                have HV : Hid (mixB l den (l.length : Int) most = false) := Lib.hid (by
                  cases e : mixB l den (l.length : Int) most with
                  | false => rfl
                  | true => exact absurd (HE2.out.2 e).2 hs1)
                subst hg1
                go_wp2_with fail
                go_ret
                exact ⟨ret_bool HV.out.symm, hxx⟩
            · have hgb : (g == 1) = false := by simpa using hg1
              have HV : Hid (mixB l den (l.length : Int) most = false) := Lib.hid (by
                cases e : mixB l den (l.length : Int) most with
                | false => rfl
                | true => exact absurd (HE2.out.2 e).1 hg1)
              go_wp2_with fail
              go_ret
              exact ⟨ret_bool HV.out.symm, hxx⟩
      · have HV := Lib.hid (mixB_false (l := l) (den := den) (moves := moves) (most := most) (fun h => h3 h.len))
        have h3b : ((l.length : Int) == moves) = false := by simpa using h3
        go_enter Tryd.func61, Tryd.ntmps61
        go_wp2_with fail
        go_ret
        exact ⟨ret_bool HV.out, (by repeat (first | exact Ext.refl _ | assumption | refine Ext.alloc ?_ _ | refine Ext.drewN ?_ _ | refine Ext.drew ?_))⟩
def properB (vn vd : Int) : Bool := decide ((1 ≤ vd ∧ vd ≤ 2199023255552) ∧ (-2199023255552 ≤ vn ∧ vn ≤ 2199023255552) ∧ Int.gcd vd vn = 1)
set_option maxRecDepth 100000 in
set_option maxHeartbeats 2000000 in
theorem proper_calls (w : World) (vn vd : Int) : Calls Tryd.prog 62 #[.agg #[.int .i64 vn, .int .i64 vd]] w fun e w' => e = .returned (.bool (properB vn vd)) ∧ Ext w w' := by
  by_cases h1 : 1 ≤ vd
  · by_cases h2 : vd ≤ 2199023255552
    · by_cases h3 : -2199023255552 ≤ vn
      · by_cases h4 : vn ≤ 2199023255552
        · have hgc := fun W2 => gcdI_calls W2 vd vn (by omega) (by omega)
          have HV : Hid (decide (Int.gcd vd vn = 1) = properB vn vd) := Lib.hid (by
            unfold properB
            rw [decide_eq_decide]
            exact ⟨fun h => ⟨⟨h1, h2⟩, ⟨h3, h4⟩, h⟩, fun h => h.2.2⟩)
          go_enter Tryd.func62, Tryd.ntmps62
          go_wp2_with fail
          refine (hgc _).mono ?_
          rintro e w2 ⟨rfl, hx2⟩
          have hx : Ext w w2 := Ext.trans (by repeat (first | exact Ext.refl _ | assumption | refine Ext.alloc ?_ _ | refine Ext.drewN ?_ _ | refine Ext.drew ?_)) hx2
          by_cases hg : Int.gcd vd vn = 1
          · rw [hg] at HV ⊢
            go_wp2_with fail
            go_ret
            exact ⟨ret_bool (by rw [← HV.out]; rfl), hx⟩
          · have hgb : (((Int.gcd vd vn : Nat) : Int) == 1) = false := by simpa using (show ¬ ((Int.gcd vd vn : Nat) : Int) = 1 by omega)
            have HV2 : Hid (false = properB vn vd) := Lib.hid (by rw [← HV.out]; exact (decide_eq_false hg).symm)
            clear hg HV
            go_wp2_with fail
            go_ret
            exact ⟨ret_bool HV2.out, hx⟩
        · have HV : Hid (false = properB vn vd) := Lib.hid (by unfold properB; exact (decide_eq_false (fun h => by omega)).symm)
          go_enter Tryd.func62, Tryd.ntmps62
          go_wp2_with fail
          go_ret
          exact ⟨ret_bool HV.out, (by repeat (first | exact Ext.refl _ | assumption | refine Ext.alloc ?_ _ | refine Ext.drewN ?_ _ | refine Ext.drew ?_))⟩
      · have HV : Hid (false = properB vn vd) := Lib.hid (by unfold properB; exact (decide_eq_false (fun h => by omega)).symm)
        go_enter Tryd.func62, Tryd.ntmps62
        go_wp2_with fail
        go_ret
        exact ⟨ret_bool HV.out, (by repeat (first | exact Ext.refl _ | assumption | refine Ext.alloc ?_ _ | refine Ext.drewN ?_ _ | refine Ext.drew ?_))⟩
    · have HV : Hid (false = properB vn vd) := Lib.hid (by unfold properB; exact (decide_eq_false (fun h => by omega)).symm)
      go_enter Tryd.func62, Tryd.ntmps62
      go_wp2_with fail
      go_ret
      exact ⟨ret_bool HV.out, (by repeat (first | exact Ext.refl _ | assumption | refine Ext.alloc ?_ _ | refine Ext.drewN ?_ _ | refine Ext.drew ?_))⟩
  · have HV : Hid (false = properB vn vd) := Lib.hid (by unfold properB; exact (decide_eq_false (fun h => by omega)).symm)
    go_enter Tryd.func62, Tryd.ntmps62
    go_wp2_with fail
    go_ret
    exact ⟨ret_bool HV.out, (by repeat (first | exact Ext.refl _ | assumption | refine Ext.alloc ?_ _ | refine Ext.drewN ?_ _ | refine Ext.drew ?_))⟩
/-- What a mixture of rows gets against a column, times its divisor. -/
def payC (g : List (List Int)) (l : List Int) (j k : Nat) : Int := sm k fun i => ith l i * entI g i j
theorem payC_bd {g : List (List Int)} {l : List Int} {j : Nat} {B : Int} (hB : 0 ≤ B ∧ B ≤ 2199023255552) (hl : ∀ k, k < l.length → -B ≤ ith l k ∧ ith l k ≤ B) (hg : ∀ i, i < l.length → -100 ≤ entI g i j ∧ entI g i j ≤ 100) :
    ∀ k, k ≤ l.length → -(k * (B * 100)) ≤ payC g l j k ∧ payC g l j k ≤ k * (B * 100)
  | 0, _ => by rw [payC, sm]; omega
  | k + 1, hk => by
    have h1 := payC_bd hB hl hg k (by omega)
    have h2 := mulB (hl k (by omega)) (hg k (by omega))
    have e : payC g l j (k + 1) = payC g l j k + ith l k * entI g k j := rfl
    have e2 : ((k + 1 : Nat) : Int) * (B * 100) = k * (B * 100) + B * 100 := by rw [Int.natCast_add, Int.add_mul]; omega
    omega
set_option maxRecDepth 100000 in
set_option maxHeartbeats 2000000 in
theorem against_calls (w : World) (go ao : Option Addr) (gc cap : Nat) (g : List (List Int)) (l : List Int) (j : Nat) (hG : GameIn w go g) (hI : IntsIn w ao l) (hn : l.length ≤ g.length) (hl : l.length ≤ 1000) (hj : ∀ k, k < l.length → j < (rowI g k).length)
    (hb : ∀ k, k < l.length → -2199023255552 ≤ ith l k ∧ ith l k ≤ 2199023255552) (hg : ∀ i, i < l.length → -100 ≤ entI g i j ∧ entI g i j ≤ 100) :
    Calls Tryd.prog 64 #[.slice go g.length gc, .slice ao l.length cap, .int .i64 j] w fun e w' => e = .returned (.int .i64 (payC g l j l.length)) ∧ Ext w w' := by
  have HB := Lib.hid (payC_bd (B := 2199023255552) (by omega) hb hg)
  have HJ := Lib.hid hj
  have HL := Lib.hid hb
  have HE := Lib.hid hg
  clear hb hg hj
  go_enter Tryd.func64, Tryd.ntmps64
  go_wp2_with fail
  go_loopw [7, 12] (fun sv iv wr => ∃ k : Nat, k ≤ l.length ∧ iv = .int .i64 k ∧ sv = .int .i64 (payC g l j k) ∧ Ext w wr) (fun _ iv _ => l.length - (intOf iv).toNat)
  case atStart => exact ⟨0, by omega, rfl, rfl, Ext.refl _⟩
  case round =>
    obtain ⟨k, hk, rfl, rfl, hx⟩ := hrel
    by_cases hlt : k < l.length
    · obtain ⟨b, off, hao, hbl, hc⟩ := hI.ext hx k hlt
      subst hao
      obtain ⟨gb, goff, ro, rc, hgo, hgl, hgc, hrc, hri⟩ := hG.ext hx k (by omega)
      subst hgo
      obtain ⟨rb, roff, hro, hrl, hrr⟩ := hri j (HJ.out k hlt)
      subst hro
      have hjz : (j : Int) < ((rowI g k).length : Int) := by have := HJ.out k hlt; omega
      have hkz : (k : Int) < (g.length : Int) := by omega
      have hkl : (k : Int) < (l.length : Int) := by omega
      have b1 := HB.out k (by omega)
      have b2 := HB.out (k + 1) (by omega)
      have b3 := mulB (HL.out k hlt) (HE.out k hlt)
      have hs : payC g l j (k + 1) = payC g l j k + ith l k * entI g k j := rfl
      have e1 : ith (rowI g k) j = entI g k j := rfl
      rw [e1] at hrr
      obtain ⟨p, hp⟩ : ∃ p, ith l k * entI g k j = p := ⟨_, rfl⟩
      rw [hp] at hs b3
      have hwp : IntKind.i64.wrap p = p := by rw [IntKind.wrap_i64]; omega
      obtain ⟨s1, hs1⟩ : ∃ s, s = payC g l j k := ⟨_, rfl⟩
      obtain ⟨s2, hs2⟩ : ∃ s, s = payC g l j (k + 1) := ⟨_, rfl⟩
      rw [← hs1, ← hs2] at hs
      rw [← hs1] at b1 ⊢
      rw [← hs2] at b2
      have hws : IntKind.i64.wrap (s1 + p) = s2 := by rw [← hs, IntKind.wrap_i64]; omega
      have HS := Lib.hid hs2
      obtain ⟨x, hxd⟩ : ∃ x, x = ith l k := ⟨_, rfl⟩
      obtain ⟨y, hyd⟩ : ∃ y, y = entI g k j := ⟨_, rfl⟩
      rw [← hxd] at hc hp
      rw [← hyd] at hrr hp
      clear hs hs1 hs2 hxd hyd e1 b1 b2 b3
      go_wp2_with fail
      exact ⟨⟨k + 1, by omega, by go_num, by rw [HS.out], hx⟩, by simp only [intOf]; omega⟩
    · obtain rfl : k = l.length := by omega
      go_wp2_with fail
      go_ret
      exact ⟨rfl, hx⟩
end Go.Proofs.YtefmioppamdceaaDoor
