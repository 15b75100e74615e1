/- The specification's journeys: all least journeys, plane by plane. -/
import Derived.Test.YtmmjjfjbhogfgaaRefC
import Derived.Test.YtmmjjfjbhogfgaaLawB
namespace Go.Proofs.Ytmmjjfjbhogfgaa
open Go.RowKit
attribute [local go_sem] Leg.val run_store_fn

/-- One plane of rows. -/
def PlaneRow (S : Nat → Prop) (w : World) (v : Value) (p : List (Option (List Nat))) : Prop := ∃ ro rc, v = .slice ro p.length rc ∧ RowsIn S w ro p
theorem PlaneRow.keep {S : Nat → Prop} {w w' : World} {v : Value} {p : List (Option (List Nat))} {row : Option Nat} (h : PlaneRow S w v p) (hg : w.grownBy w' row) (hS : ∀ b, S b → some b ≠ row) : PlaneRow S w' v p := by
  obtain ⟨ro, rc, h1, h2⟩ := h
  exact ⟨ro, rc, h1, h2.keep hg hS⟩
theorem PlaneRow.weaken {S S' : Nat → Prop} {w : World} {v : Value} {p : List (Option (List Nat))} (h : PlaneRow S w v p) (hS : ∀ b, b < w.heap.size → S b → S' b) : PlaneRow S' w v p := by
  obtain ⟨ro, rc, h1, h2⟩ := h
  exact ⟨ro, rc, h1, h2.weaken hS⟩
/-- Planes that are being gathered in a slice of one's own. -/
structure Planes (w : World) (W : Nat) (out : Value) (vs : List Value) (ps : List (List (Option (List Nat)))) : Prop where
  own : Own w W 1 out vs
  len : vs.length = ps.length
  row : ∀ k, k < ps.length → PlaneRow (fun b => some b ≠ out.ownBlock) w (vs.getD k nilV) (ps.getD k [])
theorem Planes.ext {w w' : World} {W : Nat} {out : Value} {vs : List Value} {ps : List (List (Option (List Nat)))} (h : Planes w W out vs ps) (he : Ext w w') : Planes w' W out vs ps :=
  ⟨h.own.ext he, h.len, fun k hk => (h.row k hk).keep (he.grown none) (fun _ _ => by simp)⟩
theorem Planes.add {w w' : World} {W : Nat} {out out' : Value} {vs : List Value} {ps : List (List (Option (List Nat)))} (h : Planes w W out vs ps) {v : Value} {p : List (Option (List Nat))} (hv : PlaneRow (fun b => some b ≠ out.ownBlock) w v p)
    (ho : Own w' W 1 out' (vs ++ [v])) (hg : w.grownBy w' out.ownBlock) (hb : ∀ k, out'.ownBlock = some k → out.ownBlock = some k ∨ w.heap.size ≤ k) : Planes w' W out' (vs ++ [v]) (ps ++ [p]) := by
  have hS : ∀ b, b < w.heap.size → some b ≠ out.ownBlock → some b ≠ out'.ownBlock := by
    intro b hlt hne e
    rcases hb b e.symm with h1 | h1
    · exact hne h1.symm
    · omega
  have key : ∀ {v : Value} {p : List (Option (List Nat))}, PlaneRow (fun b => some b ≠ out.ownBlock) w v p → PlaneRow (fun b => some b ≠ out'.ownBlock) w' v p := by
    intro v p hv
    have h1 : PlaneRow (fun b => some b ≠ out.ownBlock ∧ some b ≠ out'.ownBlock) w v p := hv.weaken (fun b hlt hne => ⟨hne, hS b hlt hne⟩)
    have h2 := h1.keep hg (fun b hb => hb.1)
    exact h2.weaken (fun b _ hb => hb.2)
  have hl := h.len
  refine ⟨ho, by simp [hl], fun k hk => ?_⟩
  by_cases e : k < ps.length
  · have e1 : (vs ++ [v]).getD k nilV = vs.getD k nilV := by simp [List.getD_eq_getElem?_getD, List.getElem?_append_left (show k < vs.length by omega)]
    have e2 : (ps ++ [p]).getD k [] = ps.getD k [] := by simp [List.getD_eq_getElem?_getD, List.getElem?_append_left e]
    rw [e1, e2]
    exact key (h.row k e)
  · obtain rfl : k = ps.length := by simp at hk; omega
    have e1 : (vs ++ [v]).getD ps.length nilV = v := by rw [← hl]; simp [List.getD_eq_getElem?_getD]
    have e2 : (ps ++ [p]).getD ps.length [] = p := by simp [List.getD_eq_getElem?_getD]
    rw [e1, e2]
    exact key hv
theorem Planes.lie {w : World} {W : Nat} {out : Value} {vs : List Value} {ps : List (List (Option (List Nat)))} (h : Planes w W out vs ps) : ∃ ao cap, out = .slice ao ps.length cap ∧ PlanesIn Any w ao ps := by
  have hl := h.len
  rcases h.own.shape (by omega) with ⟨rfl, rfl⟩ | ⟨g, off, cap, rfl, hb, hlt, _, _⟩
  · have : ps = [] := by cases ps with | nil => rfl | cons a r => simp at hl
    subst this
    exact ⟨none, 0, rfl, fun k hk => by simp at hk⟩
  · refine ⟨some ⟨g, off, none⟩, cap, by rw [hl]; simp, fun k hk => ?_⟩
    obtain ⟨ro, rc, h1, h2⟩ := h.row k hk
    have hc := (h.own.valAt (k := k) (by omega)).1
    rw [h1] at hc
    exact ⟨g, off, ro, rc, rfl, hlt, trivial, hc, h2.weaken (fun _ _ _ => trivial)⟩
theorem info_rows : (Try.prog.info? 88).map (fun i => (i.zero, i.size, i.bytes)) = some (some (.slice none 0 0), 1, 24) := by kernel_rfl

/-- All least journeys of each number of legs. -/
structure AllOf (m : Nat) (fol : Nat → Nat → Bool) (first : Nat → Bool) (ps : List (List (Option (List Nat)))) : Prop where
  row : ∀ k, k < ps.length → (ps.getD k []).length = m ∧ ∀ i, i < m → LeastOf (JK m fol first k i) ((ps.getD k []).getD i none)
  short : ∀ k i x, i < m → JK m fol first k i x → k < ps.length
  len : ps.length ≤ m
def JourneysRes (w : World) (m : Nat) (fol : Nat → Nat → Bool) (first : Nat → Bool) (e : Ending) (w' : World) : Prop :=
  ∃ ao cap ps, e = .returned (.slice ao ps.length cap) ∧ PlanesIn Any w' ao ps ∧ AllOf m fol first ps ∧ Ext w w'
theorem someB_false {rs : List (Option (List Nat))} (h : someB rs = false) : ∀ k, k < rs.length → rs.getD k none = none := by
  intro k hk
  have := anyB_false.1 h k hk
  cases e : rs.getD k none with
  | none => rfl
  | some x => simp only [e] at this; simp at this
theorem someB_true {rs : List (Option (List Nat))} (h : someB rs = true) : ∃ k x, k < rs.length ∧ rs.getD k none = some x := by
  obtain ⟨k, hk, h⟩ := anyB_true.1 h
  cases e : rs.getD k none with
  | none => simp only [e] at h; simp at h
  | some x => exact ⟨k, x, hk, e⟩
/-- A journey of more legs begins with one of fewer. -/
theorem jk_less {m : Nat} {fol : Nat → Nat → Bool} {first : Nat → Bool} {k : Nat} (h : ∀ i x, i < m → ¬ JK m fol first k i x) : ∀ d i x, i < m → ¬ JK m fol first (k + d) i x := by
  intro d
  induction d with
  | zero => exact h
  | succ d ih =>
    intro i x hi hx
    obtain ⟨q, y, _, h2, _, h4, _⟩ := (grew_end hi x).2 hx
    exact ih q y h2 h4

/-- While they are gathered. -/
structure AllIn (m : Nat) (fol : Nat → Nat → Bool) (first : Nat → Bool) (ps : List (List (Option (List Nat)))) (rs : List (Option (List Nat))) : Prop where
  row : ∀ k, k < ps.length → (ps.getD k []).length = m ∧ ∀ i, i < m → LeastOf (JK m fol first k i) ((ps.getD k []).getD i none)
  leno : rs.length = m
  now : ∀ i, i < m → LeastOf (JK m fol first ps.length i) (rs.getD i none)
theorem AllIn.done {m : Nat} {fol : Nat → Nat → Bool} {first : Nat → Bool} {ps : List (List (Option (List Nat)))} {rs : List (Option (List Nat))} (h : AllIn m fol first ps rs) (hl : ps.length ≤ m) (hs : someB rs = false) : AllOf m fol first ps := by
  refine ⟨h.row, fun k i x hi hx => ?_, hl⟩
  rcases Nat.lt_or_ge k ps.length with h1 | h1
  · exact h1
  · exfalso
    have h2 : ∀ i x, i < m → ¬ JK m fol first ps.length i x := by
      intro i x hi
      have := h.now i hi
      rw [someB_false hs i (by rw [h.leno]; exact hi)] at this
      exact this.no x
    have := jk_less h2 (k - ps.length) i x hi
    rw [show ps.length + (k - ps.length) = k by omega] at this
    exact this hx
theorem AllIn.add {m : Nat} {fol : Nat → Nat → Bool} {first : Nat → Bool} {ps : List (List (Option (List Nat)))} {rs os : List (Option (List Nat))} (h : AllIn m fol first ps rs) (ho : os.length = m) (hn : ∀ i, i < m → LeastOf (JK m fol first (ps.length + 1) i) (os.getD i none)) : AllIn m fol first (ps ++ [rs]) os := by
  refine ⟨fun k hk => ?_, ho, fun i hi => by simpa using hn i hi⟩
  rw [getD_snoc]
  by_cases e : k < ps.length
  · rw [if_pos e]; exact h.row k e
  · obtain rfl : k = ps.length := by simp at hk; omega
    rw [if_neg (by omega), if_pos rfl]
    exact ⟨h.leno, h.now⟩
theorem AllIn.lt {n c : Int} {L : List Leg} {first : Nat → Bool} {ps : List (List (Option (List Nat)))} {rs : List (Option (List Nat))} (h : AllIn L.length (folL c L) first ps rs) (hc : 0 ≤ c) (hf : ∀ k, k < L.length → Fine n (leg L k)) (hs : someB rs = true) : ps.length < L.length := by
  obtain ⟨k, x, hk, hx⟩ := someB_true hs
  have hk' : k < L.length := by rw [← h.leno]; exact hk
  have := h.now k hk'
  rw [hx] at this
  have h1 := jn_short hc hf this.mem.1.1
  have h2 := this.mem.1.2
  omega

theorem one_pin (w : World) (p : Addr) (t : TypeId) (i : Nat) : w.heap.size < ((w.setCell p (.slice (some ⟨w.heap.size, 0, none⟩) 1 1)).alloc (.cells #[.int .i64 (i : Int)] t)).heap.size ∧
    IntsIn ((w.setCell p (.slice (some ⟨w.heap.size, 0, none⟩) 1 1)).alloc (.cells #[.int .i64 (i : Int)] t)) (some ⟨w.heap.size, 0, none⟩) (nats [i]) := by
  have hs : (w.setCell p (.slice (some ⟨w.heap.size, 0, none⟩) 1 1)).heap.size = w.heap.size := by simp [World.setCell]
  have := one_int (w.setCell p (.slice (some ⟨w.heap.size, 0, none⟩) 1 1)) t i
  rw [hs] at this
  exact ⟨by simp [World.setCell], this⟩
theorem one_grown (w : World) (g o : Nat) (b : Obj) (v : Value) : w.grownBy ((w.setCell ⟨g, o, none⟩ v).alloc b) (some g) :=
  grownBy_trans (grownBy_setCell w ⟨g, o, none⟩ v) (((Ext.refl (w.setCell ⟨g, o, none⟩ v)).alloc b).grown _)
theorem OutAt.put2 {w w' : World} {g B m i : Nat} {vs : List Value} {os : List (Option (List Nat))} (h : OutAt w g B m vs os) (hi : i < m) (hg : w.grownBy w' (some g)) {v : Value} {o : Option (List Nat)} (hv : IntsRow (fun b => b ≠ g ∧ B ≤ b) w' v o) : OutAt w' g B m (vs.set i v) (os.set i o) := by
  have h1 := h.lenv
  have h2 := h.leno
  refine ⟨by simpa using h1, by simpa using h2, fun q hq => ?_⟩
  rw [getD_set _ _ _ _ _ (by omega), getD_set _ _ _ _ _ (by omega)]
  split
  · exact hv
  · exact (h.row q hq).keep hg (fun b hb e => by simp at e; exact hb.1 e)

set_option maxRecDepth 100000 in
set_option maxHeartbeats 8000000 in
theorem journeys_calls (w : World) (ao : Option Addr) (cap : Nat) (L : List Leg) (c n : Int) (fo : Option Addr) (fcap : Nat) (F : List Bool)
    (hL : LegsIn w ao L) (hlen : L.length ≤ 100) (hc : 0 ≤ c ∧ c ≤ 101) (hfine : ∀ k, k < L.length → Fine n (leg L k)) (hB : BoolsIn w fo F) (hFl : F.length = L.length) :
    Calls Try.prog 44 #[.slice ao L.length cap, .int .i64 c, .slice fo L.length fcap] w (JourneysRes w L.length (folL c L) (bth F)) := by
  have HF := Lib.hid hfine
  clear hfine
  obtain ⟨i0, hi, hz0, hz1, hz2⟩ := info_parts info_ints
  obtain ⟨j0, hj, hy0, hy1, hy2⟩ := info_parts info_rows
  go_enter Try.func44, Try.ntmps44
  go_wp2_with (at_make; refine wpList_make_Own _ rfl _ _ 88 rfl 25 i0 (.slice none 0 0) Try.underlying88 hi hz0 hz1 rfl _ _ L.length rfl rfl rfl rfl (by rw [hz2]; omega) (by unfold maxLen; omega) ?_; intro g off cap1 w1 ho1 hx1)
  go_loopw [8] (fun ii wr => ∃ (i : Nat) (vs : List Value) (os : List (Option (List Nat))), i ≤ L.length ∧ ii = .int .i64 i ∧ Ext w wr ∧ Own wr w.heap.size 1 (.slice (some ⟨g, off, none⟩) L.length cap1) vs ∧ Hid (OutAt wr g w.heap.size L.length vs os) ∧ Hid (∀ p, p < L.length → os.getD p none = if p < i ∧ bth F p = true then some [p] else none)) (fun ii _ => L.length - (intOf ii).toNat)
  case atStart =>
    refine ⟨0, _, _, by omega, rfl, hx1, ho1, Lib.hid (OutAt.start _ _ _ _), Lib.hid (fun p hp => ?_)⟩
    simp [List.getD_eq_getElem?_getD, hp]
  case round =>
    obtain ⟨i, vs, os, hi2, rfl, hx, ho, HO, HG⟩ := hrel
    by_cases hlt : i < L.length
    · obtain ⟨fb, ff, hfo, hfb, hfc⟩ := (hB.ext hx) i (by omega)
      subst hfo
      have hgb := (ho.lt g rfl).1
      have hgl := (ho.lt g rfl).2
      have hvl := HO.out.lenv
      have hol := HO.out.leno
      obtain ⟨hgc, hgf⟩ := ho.valAt (k := i) (by omega)
      have hgc' := hgc
      rcases HO.out.row i hlt with ⟨hoi, hvi⟩ | ⟨z, zb, zf, zcap, hoz, -⟩
      rotate_left
      · exfalso
        have := HG.out i hlt
        rw [hoz, if_neg (by omega)] at this
        cases this
      rw [hvi] at hgc
      clear hvi hoi hgc' hvl hol
      cases hd : bth F i with
      | false =>
        have HD := Lib.hid hd
        go_wp2_with fail
        refine ⟨⟨i + 1, vs, os, by omega, rfl, hx, ho, HO, Lib.hid (fun p hp => ?_)⟩, by simp only [intOf]; omega⟩
        rw [HG.out p hp]
        by_cases e : p = i
        · subst e; rw [if_neg (by omega), if_neg (by rw [HD.out]; simp)]
        · have : p < i + 1 ↔ p < i := by omega
          simp only [this]
      | true =>
        have HD := Lib.hid hd
        go_wp2_with fail
        have hpin := one_pin wr ⟨g, off + i, none⟩ 3 i
        have hgr := one_grown wr g (off + i) (.cells #[.int .i64 (i : Int)] 3) (.slice (some ⟨wr.heap.size, 0, none⟩) 1 1)
        have hrow : IntsRow (fun b => b ≠ g ∧ w.heap.size ≤ b) _ (.slice (some ⟨wr.heap.size, 0, none⟩) 1 1) (some [i]) :=
          .inr ⟨[i], wr.heap.size, 0, 1, rfl, by simp, rfl, hpin.1, ⟨by omega, by omega⟩, hpin.2⟩
        have hl1 := HO.out.lenv
        have hl2 := HO.out.leno
        refine ⟨⟨i + 1, _, os.set i (some [i]), by omega, rfl, (hx.setOwn _ _ hgb).alloc _, (ho.stored i (by omega) _).ext ((Ext.refl _).alloc _), Lib.hid (HO.out.put2 hlt hgr hrow), Lib.hid (fun p hp => ?_)⟩, by simp only [intOf]; omega⟩
        rw [getD_set _ _ _ _ _ (by omega), HG.out p hp]
        by_cases e : p = i
        · subst e; rw [if_pos rfl, if_pos ⟨by omega, HD.out⟩]
        · have : p < i + 1 ↔ p < i := by omega
          rw [if_neg e]
          simp only [this]
    · obtain rfl : i = L.length := by omega
      have hrows := HO.out.rows ho (Nat.le_refl _)
      have hall : AllIn L.length (folL c L) (bth F) [] os := by
        refine ⟨fun k hk => by simp at hk, HO.out.leno, fun i hi => ?_⟩
        have := jk_zero (fol := folL c L) (first := bth F) hi
        rw [HG.out i hi]
        have e : (i < L.length ∧ bth F i = true) ↔ bth F i = true := ⟨fun h => h.2, fun h => ⟨hi, h⟩⟩
        simp only [e]
        exact this
      have HA := Lib.hid hall
      clear hall
      obtain ⟨W, hW⟩ : ∃ W, W = wr.heap.size := ⟨_, rfl⟩
      have hgW : g < W := by rw [hW]; exact (ho.lt g rfl).2
      have hr2 : RowsIn (fun b => some b ≠ (Value.slice none 0 0).ownBlock) wr (some ⟨g, off, none⟩) os := hrows.weaken (fun b _ _ => by simp [Value.ownBlock])
      clear hrows
      go_wp2_with fail
      go_loopg [7, 9] L.length (fun q now out ws => ∃ (no : Option Addr) (nc : Nat) (rs : List (Option (List Nat))) (vs : List Value) (ps : List (List (Option (List Nat)))), now = .slice no L.length nc ∧ Ext wr ws ∧ ps.length + q = L.length ∧ Hid (Planes ws W out vs ps) ∧ Hid (RowsIn (fun b => some b ≠ out.ownBlock) ws no rs) ∧ Hid (AllIn L.length (folL c L) (bth F) ps rs))
      case atStart => exact ⟨_, _, os, [], [], rfl, Ext.refl _, by simp, Lib.hid ⟨Own.nil _ _ _, rfl, fun k hk => by simp at hk⟩, Lib.hid hr2, HA⟩
      case round =>
        rename World => ws
        obtain ⟨no, nc, rs, vs, ps, rfl, hxs, hpq, HP, HR, HA⟩ := hrel
        have hrl := HA.out.leno
        go_wp2_with fail
        refine (some_calls _ no nc rs (HR.out.weaken (fun _ _ _ => trivial)) (by omega) hrl).mono ?_
        rintro e w2 ⟨rfl, hx2⟩
        cases hs : someB rs with
        | false =>
          have HS := Lib.hid hs
          clear hs
          obtain ⟨oo, oc, ho, hlie⟩ := (HP.out.ext hx2).lie
          subst ho
          go_wp2_with fail
          go_ret
          exact ⟨oo, oc, ps, rfl, hlie, HA.out.done (by omega) HS.out, hx.trans (hxs.trans hx2)⟩
        | true =>
          have hlt := HA.out.lt hc.1 HF.out hs
          have HS := Lib.hid hs
          clear hs
          have HP2 := HP.out.ext hx2
          have hprow : PlaneRow (fun b => some b ≠ Value.ownBlock _) w2 (.slice no L.length nc) rs := ⟨no, nc, by rw [hrl], HR.out.keep (hx2.grown none) (fun _ _ => by simp)⟩
          have HPR := Lib.hid hprow
          have HPP := Lib.hid HP2
          clear HP2 hprow
          have hvl := HP.out.len
          have hWs := hxs.size
          have hW2 := hx2.size
          go_wp2_with (first
            | (at_builtin; refine wpList_append_Own _ rfl _ _ 63 rfl 88 j0 (.slice none 0 0) 1 24 Try.underlying63 hj hy0 hy1 hy2 rfl (by omega) W _ vs rfl (Own.ext HPP.out.own ((Ext.refl _).alloc _)) (by simp; omega) _ 1 1 [.slice no L.length nc] rfl rfl (one_cell _ _ _ _ rfl) (by simp [Value.oneCell']) (by simp; unfold maxLen; omega) (by simp; omega) ?_; intro v5 w5 ho5 hg5 hb5; have hPa := Lib.hid ((HPP.out.ext ((Ext.refl _).alloc _)).add (HPR.out.keep (Ext.grown ((Ext.refl _).alloc _) none) (fun _ _ => by simp)) ho5 hg5 hb5); have hR5 : RowsIn Any w5 no rs := (((HR.out.keep (Ext.grown hx2 none) (fun _ _ => by simp)).keep (Ext.grown ((Ext.refl w2).alloc (.cells #[.slice no L.length nc] 88)) none) (fun _ _ => by simp)).keep hg5 (fun b hb => hb)).weaken (fun _ _ _ => trivial); have hx05 : Ext wr w5 := ((hxs.trans hx2).alloc _).onto hg5 (fun k hk => by have := (HP.out.own.lt k hk).1; omega))
            | (go_at_call 77; refine (grown_calls _ ao cap L c n no nc rs (bth F) ps.length (hL.ext (hx.trans hx05)) hlen hc HF.out hR5 hrl (by omega) HA.out.now).mono ?_; rintro e w6 ⟨g', off', cap', os', rfl, hR6, hg6, hol, hn, hx6⟩))
          have hnew := hn
          go_roundg (gk - 1)
          case measure => omega
          case rel =>
            refine ⟨_, _, os', _, ps ++ [rs], rfl, hx05.trans hx6, by simp; omega, Lib.hid (hPa.out.ext hx6), Lib.hid (hR6.weaken (fun b _ hb e => ?_)), Lib.hid (HA.out.add hol hnew)⟩
            have := (ho5.lt b e.symm).2
            omega
end Go.Proofs.Ytmmjjfjbhogfgaa
