/- Inspect: arguments laid open: a matrix, a saddle. -/
import Derived.Test.YtefmioppamdceaaDoorMKF
import Derived.Test.YtefmioppamdceaaDoorMOff
import Derived.Test.YtefmioppamdceaaDoorMKN
namespace Go.Proofs.YtefmioppamdceaaDoor
open Go.ChangeShapes Go.WideShapes Go.ChangeAt Go.RowKit Go.Deep

theorem addr_add2 (b off k : Nat) : (⟨b, off, none⟩ : Addr).add k = ⟨b, off + k, none⟩ := by
  simp only [Addr.add]
  split
  · rename_i e; subst e; rfl
  · rfl
set_option maxRecDepth 100000 in
theorem row_cells {H : Type} {enc : TypeId × Value → H} {W : World} {c0 : Value} {y : DataW H × List MemPlace} {fuel : Nat} (hf : DataW.trod enc Tryd.prog W 0 (fun _ => true) true fuel 30 [c0] = some y) :
    ∃ ao cap J, c0 = .slice ao J.length cap ∧ IntsIn W ao J ∧ J.length ≤ maxLen ∧ J.length ≤ cap ∧ ∀ k, k < J.length → I64 (ith J k) := by
  rcases open_ints Tryd.underlying30 Tryd.underlying3 (by kernel_rfl) hf with ⟨hc, _⟩ | ⟨a', len', cap', zs, hc, _, hl, hm, hz, _, hcell, hwf⟩
  · simp only [List.cons.injEq, and_true] at hc
    subst hc
    exact ⟨none, 0, [], rfl, fun k hk => by simp at hk, by simp, by simp, fun k hk => by simp at hk⟩
  · simp only [List.cons.injEq, and_true] at hc
    subst hc
    simp only [if_true] at hz
    have hlz : (zs.take len').length = len' := by simp; omega
    refine ⟨some a', cap', zs.take len', by rw [hlz], fun k hk => ?_, by omega, by omega, fun k hk => ?_⟩
    · rw [hlz] at hk
      have h0 := hcell 0 (by omega)
      have hz0 : a'.add 0 = a' := by simp [Addr.add]
      rw [hz0] at h0
      obtain ⟨b, off, rfl, hb⟩ := cell_plain h0
      have hk' := hcell k (by omega)
      rw [addr_add2] at hk'
      refine ⟨b, off, rfl, hb, ?_⟩
      rw [hk']
      simp [ith, hk]
    · rw [hlz] at hk
      have : ith (zs.take len') k ∈ zs := by
        simp only [ith, List.getD_eq_getElem?_getD, List.getElem?_take, hk, if_true]
        rw [List.getElem?_eq_getElem (by omega)]
        simp
      exact i64_of (hwf _ this)
set_option maxRecDepth 100000 in
theorem open_game {H : Type} {enc : TypeId × Value → H} {W : World} {v : Value} {d : DataW H} {p : List MemPlace} {r : Reach} {b0 : Nat} (hv : Value.okWide Tryd.prog W r b0 48 v) (h : DataW.Trod enc Tryd.prog W 0 (fun _ => true) true 48 v d p) :
    ∃ go gc g, v = .slice go (List.length g) gc ∧ GameIn W go g ∧ g.length ≤ gc ∧ g.length ≤ maxLen ∧ ∀ k, k < g.length → (rowI g k).length ≤ maxLen ∧ ∀ j, j < (rowI g k).length → I64 (entI g k j) := by
  obtain ⟨a, len, cap, rfl⟩ := okWide_slice Tryd.underlying48 hv
  obtain ⟨fuel, hf⟩ := h
  rcases open_slice1 Tryd.underlying48 (by kernel_rfl) hf with ⟨hc, _⟩ | ⟨a', len', cap', m, n, V, D, Pl, hc, _, hl, hm, hmm, _, hcell⟩
  · simp only [Value.cells, List.cons.injEq, Value.slice.injEq, and_true] at hc
    obtain ⟨rfl, rfl, rfl⟩ := hc
    exact ⟨none, 0, [], rfl, fun k hk => by simp at hk, by simp, by simp, fun k hk => by simp at hk⟩
  · simp only [Value.cells, List.cons.injEq, Value.slice.injEq, and_true] at hc
    obtain ⟨rfl, rfl, rfl⟩ := hc
    simp only [if_true] at hmm
    subst hmm
    have hrow := fun i (hi : i < len) => row_cells (hcell i (by omega)).2
    obtain ⟨J, hJ⟩ := choose_lt (α := List Int) (p := fun i J => ∃ ao cp, V i = .slice ao (List.length J) cp ∧ IntsIn W ao J ∧ J.length ≤ maxLen ∧ J.length ≤ cp ∧ ∀ k, k < J.length → I64 (ith J k)) (fun i hi => by
      obtain ⟨ao, cp, J, h1⟩ := hrow i hi
      exact ⟨J, ao, cp, h1⟩)
    have hlen : ((List.range len).map J).length = len := by simp
    have hri : ∀ k, k < len → rowI ((List.range len).map J) k = J k := fun k hk => by simp [rowI, hk]
    refine ⟨some a', _, (List.range len).map J, by rw [hlen], fun k hk => ?_, by rw [hlen]; exact hl, by rw [hlen]; omega, fun k hk => ?_⟩
    · rw [hlen] at hk
      obtain ⟨ao, cp, h1, h2, h3, h4, h5⟩ := hJ k hk
      have h0 := (hcell 0 (by omega)).1
      have hz0 : a'.add 0 = a' := by simp [Addr.add]
      rw [hz0] at h0
      obtain ⟨b, off, rfl, hb⟩ := cell_plain h0
      have hk' := (hcell k (by omega)).1
      rw [addr_add2, h1] at hk'
      rw [hri k hk]
      exact ⟨b, off, ao, cp, rfl, hb, hk', h4, h2⟩
    · rw [hlen] at hk
      obtain ⟨ao, cp, h1, h2, h3, h4, h5⟩ := hJ k hk
      rw [hri k hk]
      exact ⟨h3, fun j hj => by
        have e : entI ((List.range len).map J) k j = ith (J k) j := by rw [entI, hri k hk]
        rw [e]
        exact h5 j hj⟩
theorem struct2_cells {H : Type} {enc : TypeId × Value → H} {W : World} {n : Nat} {cs : List Value} {y : DataW H × List MemPlace} (h : DataW.trod enc Tryd.prog W 0 (fun _ => true) true n 40 cs = some y) :
    ∃ ao cap J den, cs = [.slice ao (List.length J) cap, .int .i64 den] ∧ IntsIn W ao J ∧ J.length ≤ maxLen ∧ (∀ k, k < J.length → I64 (ith J k)) ∧ I64 den := by
  obtain ⟨c0, c1, y0, y1, n, hc, g0, g1⟩ := twoCellsT Tryd.underlying40 (by kernel_rfl) (by kernel_rfl) h
  obtain ⟨ao, cap, J, rfl, hJ, hl, -, hw⟩ := row_cells g0
  obtain ⟨n1, a1, _, w1⟩ := DataW.trod_int Tryd.underlying3 g1
  simp only [List.cons.injEq, and_true] at a1
  subst a1
  exact ⟨ao, cap, J, n1, hc, hJ, hl, hw, i64_of w1⟩
theorem ratio2_cells {H : Type} {enc : TypeId × Value → H} {W : World} {n : Nat} {cs : List Value} {y : DataW H × List MemPlace} (h : DataW.trod enc Tryd.prog W 0 (fun _ => true) true n 23 cs = some y) :
    ∃ a b, cs = [.int .i64 a, .int .i64 b] ∧ I64 a ∧ I64 b := by
  obtain ⟨c0, c1, y0, y1, n, hc, g0, g1⟩ := twoCellsT Tryd.underlying23 (by kernel_rfl) (by kernel_rfl) h
  obtain ⟨n0, a0, _, w0⟩ := DataW.trod_int Tryd.underlying3 g0
  obtain ⟨n1, a1, _, w1⟩ := DataW.trod_int Tryd.underlying3 g1
  simp only [List.cons.injEq, and_true] at a0 a1
  subst a0 a1
  exact ⟨n0, n1, hc, i64_of w0, i64_of w1⟩
/-- A saddle came in. -/
structure SadIn (W : World) (v : Value) (s : Sadd) : Prop where
  at_ : ∃ ro rc co cc, v = .agg #[.int .i64 s.vn, .int .i64 s.vd, .slice ro s.r.length rc, .int .i64 s.rd, .slice co s.c.length cc, .int .i64 s.cd] ∧ IntsIn W ro s.r ∧ IntsIn W co s.c
set_option maxRecDepth 100000 in
theorem open_saddle {H : Type} {enc : TypeId × Value → H} {W : World} {v : Value} {d : DataW H} {p : List MemPlace} {r : Reach} {b0 : Nat} (hv : Value.okWide Tryd.prog W r b0 42 v) (h : DataW.Trod enc Tryd.prog W 0 (fun _ => true) true 42 v d p) :
    ∃ s, SadIn W v s := by
  obtain ⟨cs, rfl, hsz⟩ := okWide_struct Tryd.underlying42 hv
  obtain ⟨fuel, hf⟩ := h
  obtain ⟨xs, n, _, _, hcl, hlen, hg⟩ := DataW.trod_struct Tryd.underlying42 hf
  have h6 : (Value.agg cs).cells.toList.length = 6 := hcl.trans (by kernel_rfl)
  obtain ⟨cl⟩ := cs
  have e : (Value.agg ⟨cl⟩).cells.toList = cl := by simp [Value.cells]
  rw [e] at h6 hg
  have hxl : xs.length = 3 := hlen
  match cl, h6, xs, hxl with
  | [c0, c1, c2, c3, c4, c5], _, [x0, x1, x2], _ =>
    have s0 : Tryd.prog.cellsOf 23 = 2 := by kernel_rfl
    have s1 : Tryd.prog.cellsOf 40 = 2 := by kernel_rfl
    have g0 : DataW.trod enc Tryd.prog W 0 (fun _ => true) true n 23 [c0, c1] = some x0 := by simpa [s0] using hg 0 _ rfl
    have g1 : DataW.trod enc Tryd.prog W 0 (fun _ => true) true n 40 [c2, c3] = some x1 := by simpa [s1] using hg 1 _ rfl
    have g2 : DataW.trod enc Tryd.prog W 0 (fun _ => true) true n 40 [c4, c5] = some x2 := by simpa [s1] using hg 2 _ rfl
    obtain ⟨a, b, e0, wa, wb⟩ := ratio2_cells g0
    obtain ⟨ro, rc, J, den, e1, hJ, -, -, -⟩ := struct2_cells g1
    obtain ⟨co, cc, K, den2, e2, hK, -, -, -⟩ := struct2_cells g2
    simp only [List.cons.injEq, and_true] at e0 e1 e2
    obtain ⟨rfl, rfl⟩ := e0
    obtain ⟨rfl, rfl⟩ := e1
    obtain ⟨rfl, rfl⟩ := e2
    exact ⟨⟨a, b, J, den, K, den2⟩, ⟨ro, rc, co, cc, rfl, hJ, hK⟩⟩
end Go.Proofs.YtefmioppamdceaaDoor

/- The walk of InspectMinimax. -/
namespace Go.Proofs.YtefmioppamdceaaDoor
open Go.RowKit Go.Shelf

/-- Is a matrix small enough for a statement? -/
structure IsFew (g : List (List Int)) : Prop where
  n : g.length ≤ 20
  m : ∀ k, k < g.length → (rowI g k).length ≤ 20
open Classical in
noncomputable def fewB (g : List (List Int)) : Bool := decide (IsFew g)
theorem fewB_true {g : List (List Int)} : fewB g = true ↔ IsFew g := by
  classical
  unfold fewB
  rw [decide_eq_true_eq]
theorem fewB_false {g : List (List Int)} (h : ¬ IsFew g) : false = fewB g := by
  cases e : fewB g with
  | false => rfl
  | true => exact absurd (fewB_true.1 e) h
set_option maxRecDepth 100000 in
theorem few_calls (w : World) (go : Option Addr) (gc : Nat) (g : List (List Int)) (hG : GameIn w go g) :
    Calls Tryd.prog 19 #[.slice go g.length gc] w fun e w' => e = .returned (.bool (fewB g)) ∧ Ext w w' := by
  go_enter Tryd.func19, Tryd.ntmps19
  go_wp2_with fail
  go_loopw [3] (fun iv wr => ∃ i : Nat, i ≤ g.length ∧ i ≤ 20 ∧ iv = .int .i64 i ∧ Hid (∀ k, k < i → (rowI g k).length ≤ 20) ∧ wr = w) (fun iv _ => 21 - (intOf iv).toNat)
  case atStart => exact ⟨0, by omega, by omega, rfl, Lib.hid (fun k hk => by omega), rfl⟩
  case round =>
    obtain ⟨i, hi, hi20, rfl, HP, rfl⟩ := hrel
    by_cases hlt : i < g.length
    · by_cases h20 : i = 20
      · have HV := Lib.hid (fewB_false (g := g) (fun h => by have := h.n; omega))
        subst h20
        go_wp2_with fail
        go_ret
        exact ⟨ret_bool HV.out, Ext.refl _⟩
      · obtain ⟨gb, goff, ro, rc, hgo, hgl, hg0, hrc, -⟩ := hG i hlt
        subst hgo
        obtain ⟨m, hm⟩ : ∃ m, m = (rowI g i).length := ⟨_, rfl⟩
        rw [← hm] at hg0
        have HM := Lib.hid hm
        have hiz : (i : Int) < (g.length : Int) := by omega
        have hi2 : ¬ (20 : Int) ≤ (i : Int) := by omega
        clear hm hrc
        by_cases hm20 : 20 < m
        · have hmz : (20 : Int) < (m : Int) := by omega
          have HV := Lib.hid (fewB_false (g := g) (fun h => by have := h.m i hlt; have := HM.out; omega))
          go_wp2_with fail
          go_ret
          exact ⟨ret_bool HV.out, Ext.refl _⟩
        · have hmz : ¬ (20 : Int) < (m : Int) := by omega
          go_wp2_with fail
          exact ⟨⟨i + 1, by omega, by omega, by go_num, Lib.hid (fun k hk => by
            by_cases e : k = i
            · rw [e, ← HM.out]; omega
            · exact HP.out k (by omega)), by trivial⟩, by simp only [intOf]; omega⟩
    · obtain rfl : i = g.length := by omega
      have HV := Lib.hid (fewB_true.2 (⟨hi20, HP.out⟩ : IsFew g))
      go_wp2_with fail
      go_ret
      exact ⟨ret_bool HV.out.symm, Ext.refl _⟩
theorem payC_sm (g : List (List Int)) (r : List Int) (j n : Nat) : payC g r j n = sm n fun i => entI g i j * ith r i := sm_congr _ (fun _ _ => Int.mul_comm _ _)
theorem payC_turn (g : List (List Int)) (c : List Int) {m i : Nat} (hi : i < g.length) : payC (turnG g m) c i m = sm m fun j => entI g i j * ith c j := by
  refine sm_congr _ (fun k hk => ?_)
  rw [Int.mul_comm]
  congr 1
  rw [entI]
  simp [rowI, turnG, hk, ith, colI, List.getD_eq_getElem?_getD, hi]
theorem low_mix {l : List Int} {D : Int} (hD : 0 < D) (h : ∀ d : Int, d ∣ D → (∀ k, k < l.length → d ∣ ith l k) → d ∣ 1) : gcdL D l = 1 := by
  obtain ⟨h1, -, h3, h4, -⟩ := gcdL_spec l hD
  have h5 := h _ h3 (fun k hk => by
    have := h4 (ith l k) (by simp [ith, hk])
    exact this)
  have := Int.le_of_dvd (by omega) h5
  omega
/-- A saddle that is one, in numbers. -/
theorem IsSad.sdl {g : List (List Int)} {m : Nat} {s : Sadd} (h : IsSad g m s) : Sdl g.length m (entI g) (ith s.r) s.rd (ith s.c) s.cd s.vn s.vd := by
  have hrn : s.r.length = g.length := by have := h.mr.len; omega
  have hcm : s.c.length = m := by have := h.mc.len; omega
  have hp := h.pr
  unfold properB at hp
  rw [decide_eq_true_eq] at hp
  refine ⟨fun i hi => h.mr.pos i (by omega), fun j hj => h.mc.pos j (by omega), by rw [← hrn]; exact h.mr.sum, by rw [← hcm]; exact h.mc.sum, by have := h.mr.den1; omega, by have := h.mc.den1; omega, by omega, fun j hj => ?_, fun i hi => ?_⟩
  · have := h.cols j hj
    rw [hrn, payC_sm] at this
    omega
  · have := h.rows i hi
    rw [hcm, payC_turn g s.c hi] at this
    omega
theorem Sol.isSad {g : List (List Int)} {m : Nat} {vn vd rd cd : Int} {r c : List Int} (h : Sol g m vn vd r rd c cd) : IsSad g m ⟨vn, vd, r, rd, c, cd⟩ := by
  have hs := h.sdl
  have hrl := h.rl
  have hcl := h.cl
  refine ⟨⟨by have := hs.rp; show 1 ≤ rd; omega, h.rb, by show ((r.length : Nat) : Int) = _; omega, fun k hk => hs.r0 k (by show k < _; rw [← hrl]; exact hk), by show sm r.length (ith r) = rd; rw [hrl]; exact hs.rs, low_mix hs.rp (fun d h1 h2 => h.rlow d h1 (fun k hk => h2 k (by show k < r.length; omega)))⟩,
    ⟨by have := hs.cp; show 1 ≤ cd; omega, h.cb, by show ((c.length : Nat) : Int) = _; omega, fun k hk => hs.c0 k (by show k < m; rw [← hcl]; exact hk), by show sm c.length (ith c) = cd; rw [hcl]; exact hs.cs, low_mix hs.cp (fun d h1 h2 => h.clow d h1 (fun k hk => h2 k (by show k < c.length; omega)))⟩, ?_, fun j hj => ?_, fun i hi => ?_⟩
  · unfold properB
    rw [decide_eq_true_eq]
    have h1 := h.vb
    have h2 := h.vb1
    have h3 := hs.vp
    exact ⟨⟨by show 1 ≤ vd; omega, h1⟩, h2, by rw [Int.gcd_comm]; exact h.vlow⟩
  · show ¬ payC g r j r.length * vd < vn * rd
    have := hs.cols j hj
    rw [hrl, payC_sm]
    omega
  · show ¬ vn * cd < payC (turnG g m) c i c.length * vd
    have := hs.rows i hi
    rw [hcl, payC_turn g c hi]
    omega
/-- Two saddles have one value. -/
theorem IsSad.same {g : List (List Int)} {m : Nat} {s t : Sadd} (h : IsSad g m s) (k : IsSad g m t) : s.vn = t.vn ∧ s.vd = t.vd := by
  have e := h.sdl.same k.sdl
  have a := h.pr
  have b := k.pr
  unfold properB at a b
  rw [decide_eq_true_eq] at a b
  exact low_eq (by omega) (by omega) (by rw [Int.gcd_comm]; exact a.2.2) (by rw [Int.gcd_comm]; exact b.2.2) e
theorem IsSad.mix {g : List (List Int)} {m : Nat} {s t : Sadd} (h : IsSad g m s) (k : IsSad g m t) : IsSad g m ⟨s.vn, s.vd, s.r, s.rd, t.c, t.cd⟩ := by
  obtain ⟨e1, e2⟩ := h.same k
  refine ⟨h.mr, k.mc, h.pr, h.cols, fun i hi => ?_⟩
  show ¬ s.vn * t.cd < payC (turnG g m) t.c i t.c.length * s.vd
  rw [e1, e2]
  exact k.rows i hi
set_option maxRecDepth 100000 in
set_option maxHeartbeats 2000000 in
theorem solve_bad (w : World) (go : Option Addr) (gc : Nat) (g : List (List Int)) (hG : GameIn w go g) (hl : g.length ≤ 1000) (hr : ∀ k, k < g.length → (rowI g k).length ≤ 1000) (hb : gameB g = false) :
    Calls Tryd.prog 23 #[.slice go g.length gc] w (BadRes w) := by
  have hval := fun W (hxW : Ext w W) => valid_calls W go gc g (hG.ext hxW) hl hr
  rw [hb] at hval
  go_enter Tryd.func23, Tryd.ntmps23
  go_wp2_with fail
  obtain ⟨w1, hw1⟩ : ∃ w1, w1 = w.alloc (Obj.cells #[.int .i64 0, .int .i64 0, .slice none 0 0, .int .i64 0, .slice none 0 0, .int .i64 0] 42) := ⟨_, rfl⟩
  obtain ⟨W, hW⟩ : ∃ W, W = w.heap.size := ⟨_, rfl⟩
  have hx1 : Ext w w1 := by rw [hw1]; exact (by repeat (first | exact Ext.refl _ | assumption | refine Ext.alloc ?_ _ | refine Ext.drewN ?_ _ | refine Ext.drew ?_))
  have hsp : Spot6 w1 W := by rw [hw1, hW]; exact Spot6.new _ _ _ _ _ _ _ _
  rw [← hw1, ← hW]
  have hWw : w.heap.size ≤ W := by omega
  clear hw1 hW
  refine (hval _ hx1).mono ?_
  rintro e w2 ⟨rfl, hx2⟩
  have hx02 := hx1.trans hx2
  have hsp := hsp.ext hx2
  obtain ⟨p0, hp0⟩ := Option.isSome_iff_exists.1 (hsp.at_ 0 (by decide)).1
  obtain ⟨p1, hp1⟩ := Option.isSome_iff_exists.1 (hsp.at_ 1 (by decide)).1
  obtain ⟨p2, hp2⟩ := Option.isSome_iff_exists.1 (hsp.at_ 2 (by decide)).1
  obtain ⟨p3, hp3⟩ := Option.isSome_iff_exists.1 (hsp.at_ 3 (by decide)).1
  obtain ⟨p4, hp4⟩ := Option.isSome_iff_exists.1 (hsp.at_ 4 (by decide)).1
  obtain ⟨p5, hp5⟩ := Option.isSome_iff_exists.1 (hsp.at_ 5 (by decide)).1
  have f0 := (hsp.at_ 0 (by decide)).2
  have f1 := (hsp.at_ 1 (by decide)).2
  have f2 := (hsp.at_ 2 (by decide)).2
  have f3 := (hsp.at_ 3 (by decide)).2
  have f4 := (hsp.at_ 4 (by decide)).2
  have f5 := (hsp.at_ 5 (by decide)).2
  have hSl := hsp.lt
  have hq := hsp.put (.int .i64 0) (.int .i64 0) (.slice none 0 0) (.int .i64 0) (.slice none 0 0) (.int .i64 0)
  have hg := grown_put6 w2 W (.int .i64 0) (.int .i64 0) (.slice none 0 0) (.int .i64 0) (.slice none 0 0) (.int .i64 0)
  unfold put6 at hq hg
  have hxe := hx02.onto hg (fun q hq => by simp only [Option.some.injEq] at hq; omega)
  obtain ⟨q0, q1, q2, q3, q4, q5⟩ := hq
  have HXE := Lib.hid hxe
  clear hxe hg hx1 hx2 hx02 hval
  go_wp2_with fail
  refine bodyPost_ret (v := .tuple #[noSad, .int .i64 2]) (by simp [results, Tryd.results23, go_sem, noSad, q0, q1, q2, q3, q4, q5]) rfl ?_
  exact ⟨rfl, HXE.out⟩
end Go.Proofs.YtefmioppamdceaaDoor
