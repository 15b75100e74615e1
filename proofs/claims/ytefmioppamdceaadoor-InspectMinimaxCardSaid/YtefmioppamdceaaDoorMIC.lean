/- Inspect: the pivot of a tableau. -/
import Derived.Test.YtefmioppamdceaaDoorMIPA
namespace Go.Proofs.YtefmioppamdceaaDoor
open Go.RowKit Go.Shelf

theorem info_entry : (Tryd.prog.info? 84).map (fun i => (i.zero, i.size, i.bytes)) = some (some (.pointer none), 1, 8) := by kernel_rfl
theorem made_ptrs (n : Nat) : madeCells (Value.pointer none).cells n = Array.replicate n (.pointer none) := by
  refine Array.ext (by simp [madeCells]) (fun i h1 h2 => ?_)
  simp [madeCells, Value.cells, Nat.mod_one]
theorem make_ptrs (n : Nat) (hn : n ≤ 100000) (W : World) : (Instr.makeSlice 83 (.int .i64 n) (.int .i64 n)).run Tryd.prog W = .ok (.slice (some ⟨W.heap.size, 0, none⟩) n n) (W.alloc (.cells (Array.replicate n (.pointer none)) 84)) := by
  obtain ⟨i0, hi, hz0, hz1, hz2⟩ := info_parts info_entry
  have := run_make (P := Tryd.prog) W 83 84 i0 (.pointer none) Tryd.underlying83 hi hz0 .i64 .i64 n n (by omega) (Int.le_refl _) (by rw [hz2]; omega) (by omega)
  rw [hz1, Nat.mul_one, made_ptrs] at this
  simpa using this
/-- The tableau, when the rows below k have been stepped. -/
def stepG (T : GT) (i j k : Nat) : GT := ⟨T.J, fun q l => if q < k ∧ q ≠ i then pivR T.R T.b i j q l else T.R q l, T.b⟩
theorem stepG_skip (T : GT) (i j : Nat) : stepG T i j (i + 1) = stepG T i j i := by
  unfold stepG
  congr 1
  funext q l
  by_cases h : q < i ∧ q ≠ i
  · rw [if_pos h, if_pos ⟨by omega, h.2⟩]
  · rw [if_neg h, if_neg (fun h2 => h ⟨by omega, h2.2⟩)]
theorem stepG_zero (T : GT) (i j : Nat) : stepG T i j 0 = T := by
  unfold stepG
  have : (fun q l => if q < 0 ∧ q ≠ i then pivR T.R T.b i j q l else T.R q l) = T.R := by funext q l; rw [if_neg (by omega)]
  rw [this]
theorem stepG_R (T : GT) (i j k q l : Nat) : (stepG T i j k).R q l = if q < k ∧ q ≠ i then pivR T.R T.b i j q l else T.R q l := rfl
theorem stepG_next (T : GT) (i j k q l : Nat) (hk : k ≠ i) : (stepG T i j (k + 1)).R q l = if q = k then pivR T.R T.b i j k l else (stepG T i j k).R q l := by
  rw [stepG_R, stepG_R]
  by_cases e : q = k
  · subst e; rw [if_pos rfl, if_pos ⟨by omega, hk⟩]
  · rw [if_neg e]
    by_cases h : q < k ∧ q ≠ i
    · rw [if_pos h, if_pos ⟨by omega, h.2⟩]
    · rw [if_neg h, if_neg (fun h2 => h ⟨by omega, h2.2⟩)]
theorem stepG_done (T : GT) (i j n q l : Nat) (hq : q ≤ n) : (stepG T i j (n + 1)).R q l = pivR T.R T.b i j q l := by
  rw [stepG_R]
  by_cases e : q = i
  · rw [if_neg (by omega), e]; unfold pivR; rw [if_pos rfl]
  · rw [if_pos ⟨by omega, e⟩]
/-- A number is set that was not there at the beginning. -/
def SetRes (w0 : World) (a : Nat) (z : Int) (e : Ending) (w' : World) : Prop := e = .returned (.pointer (some ⟨a, 0, none⟩)) ∧ Ext w0 w' ∧ BigAt w' a z
theorem MutRes.set {w0 w w' : World} {a : Nat} {z : Int} {e : Ending} (hx : Ext w0 w) (ha : w0.heap.size ≤ a) (h : MutRes w a z e w') : SetRes w0 a z e w' :=
  ⟨h.1, hx.onto h.2.1 (fun q hq => by simp only [Option.some.injEq] at hq; omega), h.2.2⟩
/-- What a pivot leaves. -/
def PivRes (w0 : World) (P : GAt) (n L : Nat) (T : GT) (e : Ending) (w' : World) : Prop := (∃ v, e = .returned v) ∧ TabG w' w0.heap.size P n L T ∧ Ext w0 w'
/-- All numbers of a tableau are at most two words. -/
structure SmG (n L : Nat) (T : GT) : Prop where
  ent : ∀ k l, k ≤ n → l < L → (T.R k l).natAbs < 18446744073709551616
  by0 : T.b ≠ 0
  by_ : T.b.natAbs < 18446744073709551616
theorem many_mul2 {x y : Int} (hx : x.natAbs < 18446744073709551616) (hy : y.natAbs < 18446744073709551616) : W.many (x * y).natAbs ≤ 1000 := by
  refine Nat.le_trans (W.many_le (i := 4) ?_) (by omega)
  rw [Int.natAbs_mul]
  exact Nat.lt_of_lt_of_le (Nat.mul_lt_mul'' hx hy) (by decide)
theorem many_sub2 {x y z u : Int} (hx : x.natAbs < 18446744073709551616) (hy : y.natAbs < 18446744073709551616) (hz : z.natAbs < 18446744073709551616) (hu : u.natAbs < 18446744073709551616) : W.many (x * y - z * u).natAbs ≤ 1000 := by
  refine Nat.le_trans (W.many_le (i := 5) ?_) (by omega)
  have h1 : (x * y).natAbs < 18446744073709551616 * 18446744073709551616 := by rw [Int.natAbs_mul]; exact Nat.mul_lt_mul'' hx hy
  have h2 : (z * u).natAbs < 18446744073709551616 * 18446744073709551616 := by rw [Int.natAbs_mul]; exact Nat.mul_lt_mul'' hz hu
  have h3 : (x * y - z * u).natAbs ≤ (x * y).natAbs + (z * u).natAbs := by omega
  have h4 : (18446744073709551616 * 18446744073709551616 : Nat) + 18446744073709551616 * 18446744073709551616 ≤ 4294967296 ^ 5 := by decide
  omega
set_option maxRecDepth 100000 in
set_option maxHeartbeats 8000000 in
theorem gpivot_calls (w0 w : World) (P : GAt) (n L : Nat) (T : GT) (i j : Nat) (hT : TabG w w0.heap.size P n L T) (hx0 : Ext w0 w) (hi : i < n) (hj : j < L) (hn : n ≤ 1000) (hL : L ≤ 1000) (hS : SmG n L T)
    (hq : ∀ k l, k ≤ n → l < L → k ≠ i → (T.R k l * T.R i j - T.R k j * T.R i l).tdiv T.b = pivR T.R T.b i j k l) :
    Calls Tryd.prog 88 #[.pointer (some ⟨P.t, 0, none⟩), .int .i64 i, .int .i64 j] w (PivRes w0 P n L (T.pivot i j)) := by
  have HQ := Lib.hid hq
  have hmk := make_ptrs L (by omega)
  obtain ⟨rb, hri, hRi⟩ := hT.rowC i (by omega)
  have hc0 := hT.c0
  have ht2 := hT.tIn.2
  have hr2 := hT.rgIn.2
  have hcaps := hT.caps
  clear hq
  go_enter Tryd.func88, Tryd.ntmps88
  go_wp2_with fail
  clear hri hc0
  go_loopw [26] (fun q wr => ∃ k : Nat, k ≤ n + 1 ∧ q = .int .i64 k ∧ TabG wr w0.heap.size P n L (stepG T i j k) ∧ RowB wr rb L (T.R i) ∧ Ext w0 wr) (fun q _ => n + 1 - (intOf q).toNat)
  case atStart => exact ⟨0, by omega, rfl, by rw [stepG_zero]; exact hT, hRi, hx0⟩
  case round =>
    obtain ⟨k, hk, rfl, hTk, hO, hx⟩ := hrel
    by_cases hlt : k < n + 1
    · obtain ⟨b, hcb, hB⟩ := hTk.rowC k (by omega)
      have hr3 := hTk.rgIn.2
      have hlt2 : (k : Int) < (n : Int) + 1 := by omega
      by_cases hki : k = i
      · subst hki
        go_wp2_with fail
        exact ⟨⟨k + 1, by omega, rfl, by rw [stepG_skip]; exact hTk, hO, hx⟩, by simp only [intOf]; omega⟩
      · have hki2 : ((k : Int) == (i : Int)) = false := by simp; omega
        have hki3 : ¬ (k : Int) = (i : Int) := by omega
        replace hB : RowB wr b L (T.R k) := hB.congr (fun l hl => by show (if k < k ∧ k ≠ i then _ else _) = _; rw [if_neg (by omega)])
        have hbl := hB.lt
        obtain ⟨af, hcf, hBf⟩ := hB.ent j hj
        have hjL : (j : Int) < (L : Int) := by omega
        go_wp2_with fail
        have hx1 : Ext wr (wr.alloc (Obj.cells (Array.replicate L (.pointer none)) 84)) := (by repeat (first | exact Ext.refl _ | assumption | refine Ext.alloc ?_ _ | refine Ext.drewN ?_ _ | refine Ext.drew ?_))
        have hN1 := Lib.hid (RowN.made wr L 84 (fun l => pivR T.R T.b i j k l))
        obtain ⟨nb, hnb⟩ : ∃ nb, nb = wr.heap.size := ⟨_, rfl⟩
        generalize hw1 : (wr.alloc (Obj.cells (Array.replicate L (.pointer none)) 84)) = w1 at *
        rw [← hnb] at hN1 ⊢
        have hnw : wr.heap.size ≤ nb := by omega
        have hbnb : b < nb := by omega
        clear hw1 hnb hcf
        have HSJ : Hid ((T.R k j).natAbs < 18446744073709551616) := Lib.hid (hS.ent k j (by omega) hj)
        go_loopw [43] (fun q ws => ∃ c : Nat, c ≤ L ∧ q = .int .i64 c ∧ Ext wr ws ∧ Hid (RowN ws nb L c (fun l => pivR T.R T.b i j k l))) (fun q _ => L - (intOf q).toNat)
        case atStart => exact ⟨0, by omega, rfl, hx1, hN1⟩
        case round =>
          rename World => ws
          obtain ⟨c, hc, rfl, hxs, HN⟩ := hrel
          by_cases hcl : c < L
          · obtain ⟨ax, hcx, hBx⟩ := (hB.ext hxs).ent c hcl
            obtain ⟨ac, hcc, hBc⟩ := (hO.ext hxs).ent c hcl
            obtain ⟨aj, hcj, hBj⟩ := (hO.ext hxs).ent j hj
            have hbs := (hB.ext hxs).lt
            have hos := (hO.ext hxs).lt
            have hBfs := hBf.ext hxs
            have hTs := hTk.ext hxs
            obtain ⟨ab, hcy, hBy⟩ := hTs.c2
            have hts := hTs.tIn.2
            have hclL : (c : Int) < (L : Int) := by omega
            have HX := Lib.hid (hS.ent k c (by omega) hcl)
            have HC := Lib.hid (hS.ent i c (by omega) hcl)
            have HJ := Lib.hid (hS.ent i j (by omega) hj)
            have HV := Lib.hid (HQ.out k c (by omega) hcl hki)
            clear hTs
            go_wp2_with fail
            have hx2 : Ext ws (ws.alloc (Obj.cells #[.bool false, .slice none 0 0] 97)) := (by repeat (first | exact Ext.refl _ | assumption | refine Ext.alloc ?_ _ | refine Ext.drewN ?_ _ | refine Ext.drew ?_))
            have hs2 := IntSpot.ofNew ws 97
            obtain ⟨E, hE⟩ : ∃ E, E = ws.heap.size := ⟨_, rfl⟩
            generalize hw2 : (ws.alloc (Obj.cells #[.bool false, .slice none 0 0] 97)) = w2 at *
            rw [← hE] at hs2 ⊢
            have hEs : ws.heap.size ≤ E := by omega
            have hEx : E ≠ ax := by have := hBx.spot.lt; omega
            have hEj : E ≠ aj := by have := hBj.spot.lt; omega
            clear hw2 hE
            have hm1 := fun W (hxW : Ext w2 W) => (imul_calls W E ax aj _ _ (hs2.ext hxW) ((hBx.ext hx2).ext hxW) ((hBj.ext hx2).ext hxW) HX.out HJ.out hEx hEj).mono (R' := SetRes ws E (T.R k c * T.R i j)) (fun e w' h => MutRes.set (hx2.trans hxW) hEs h)
            go_region_held3 (fun w' => w'.cell? ⟨rb, j, none⟩ = some (.pointer (some ⟨aj, 0, none⟩)))
              (exact (Ext.cell (show Ext ws _ from (by repeat (with_reducible first | exact Ext.refl _ | assumption | refine Ext.alloc ?_ _ | refine Ext.drew ?_))) hos).trans hcj)
              ((go_at_call 57; (with_reducible refine Calls.mono (hm1 _ ?_) ?_); (exact (by repeat (with_reducible first | exact Ext.refl _ | assumption | refine Ext.alloc ?_ _ | refine Ext.drew ?_))); rintro e w3 ⟨rfl, hx3, hB3⟩))
            clear hm1
            have hNf : w3.heap.size ≠ af := by have := hBfs.spot.lt; have := hx3.size; omega
            have hNc : w3.heap.size ≠ ac := by have := hBc.spot.lt; have := hx3.size; omega
            have hEl3 := hB3.spot.lt
            have hm2 := fun W (hxW : Ext w3 W) (hsp : IntSpot W w3.heap.size) => (imul_calls W w3.heap.size af ac _ _ hsp ((hBfs.ext hx3).ext hxW) ((hBc.ext hx3).ext hxW) HSJ.out HC.out hNf hNc).mono (R' := SetRes w3 w3.heap.size (T.R k j * T.R i c)) (fun e w' h => MutRes.set hxW (Nat.le_refl _) h)
            have hm3 := fun W (hxW : Ext w3 W) (hB : BigAt W w3.heap.size (T.R k j * T.R i c)) => (isub_calls W E E w3.heap.size _ _ ((hB3.ext hxW).spot) (hB3.ext hxW) hB (many_mul2 HX.out HJ.out) (many_mul2 HSJ.out HC.out)).mono (R' := SetRes ws E (T.R k c * T.R i j - T.R k j * T.R i c)) (fun e w' h => MutRes.set (hx3.trans hxW) hEs h)
            go_wp2_with fail
            go_region_held3 (fun w' => w'.cell? ⟨rb, c, none⟩ = some (.pointer (some ⟨ac, 0, none⟩)))
              (exact (Ext.cell (show Ext ws _ from (by repeat (with_reducible first | exact Ext.refl _ | assumption | refine Ext.alloc ?_ _ | refine Ext.drew ?_))) hos).trans hcc)
              ((first
                | (go_at_call 57; (with_reducible refine Calls.mono (hm2 _ ?_ ?_) ?_); (exact (by repeat (with_reducible first | exact Ext.refl _ | assumption | refine Ext.alloc ?_ _ | refine Ext.drew ?_))); (exact (IntSpot.ofNew _ _).ext ((Ext.refl _).drew)); rintro e w4 ⟨rfl, hx4, hB4⟩; have hx04 : Ext ws w4 := hx3.trans hx4)
                | (go_at_call 56; (with_reducible refine Calls.mono (hm3 _ ?_ ?_) ?_); (exact (by repeat (with_reducible first | exact Ext.refl _ | assumption | refine Ext.alloc ?_ _ | refine Ext.drew ?_))); (exact hB4.ext (by repeat (with_reducible first | exact Ext.refl _ | assumption | refine Ext.alloc ?_ _ | refine Ext.drew ?_))); rintro e w5 ⟨rfl, hx5, hB5⟩)))
            rename_i hHeld
            clear hm2 hm3 hHeld
            have hm4 := fun W (hxW : Ext w5 W) => (iquo_calls W E E ab _ T.b ((hB5.ext hxW).spot) (hB5.ext hxW) ((hBy.ext hx5).ext hxW) (many_sub2 HX.out HJ.out HSJ.out HC.out) hS.by_ hS.by0).mono (R' := SetRes ws E ((T.R k c * T.R i j - T.R k j * T.R i c).tdiv T.b)) (fun e w' h => MutRes.set (hx5.trans hxW) hEs h)
            have hE5 := hB5.spot.lt
            go_wp2_with fail
            go_region_held3 (fun w' => w'.cell? ⟨P.t, 2, none⟩ = some (.pointer (some ⟨ab, 0, none⟩)))
              (exact (Ext.cell (show Ext ws _ from (by repeat (with_reducible first | exact Ext.refl _ | assumption | refine Ext.alloc ?_ _ | refine Ext.drew ?_))) hts).trans hcy)
              ((go_at_call 100; (with_reducible refine Calls.mono (hm4 _ ?_) ?_); (exact (by repeat (with_reducible first | exact Ext.refl _ | assumption | refine Ext.alloc ?_ _ | refine Ext.drew ?_))); rintro e w6 ⟨rfl, hx6, hB6⟩))
            rename_i hHeld
            clear hm4 hHeld
            rw [HV.out] at hB6
            have hN6 := HN.out.ext hx6
            obtain ⟨⟨pc, hpc⟩, hfc⟩ := hN6.all c hcl
            have hnl := hN6.lt
            have hxn := (hxs.trans hx6).onto (grownBy_setCell w6 ⟨nb, c, none⟩ (.pointer (some ⟨E, 0, none⟩))) (fun q hq => by simp only [Option.some.injEq] at hq; omega)
            have HNN := Lib.hid (hN6.put (a := E) hcl hB6)
            have hE6 := hB6.spot.lt
            go_wp2_with fail
            exact ⟨⟨c + 1, by omega, rfl, hxn, HNN⟩, by simp only [intOf]; omega⟩
          · obtain rfl : c = L := by omega
            have hTs := hTk.ext hxs
            have hc0 := hTs.c0
            have ht3 := hTs.tIn.2
            have hr4 := hTs.rgIn.2
            obtain ⟨b2, hcb2, -⟩ := hTs.rowC k (by omega)
            have hfr := hTs.rowF k (by omega)
            have hxk : k ≤ n := by omega
            have hNT := hTs.setRow (T' := stepG T i j (k + 1)) hxk HN.out.full (fun _ _ => rfl) rfl (fun q _ l _ => stepG_next T i j k q l hki)
            have hg := grownBy_setCell ws ⟨P.rg, k, none⟩ (.slice (some ⟨nb, 0, none⟩) c c)
            obtain ⟨r0, hr0, -⟩ := hTs.rowC 0 (by omega)
            have hO5 := (hO.ext hxs).farK hTs.L0 hr0 (Odd.slice _ _ _) (fun _ => by simp) hg
            have hx5 := (hx.trans hxs).onto hg (fun q hq => by simp only [Option.some.injEq] at hq; have := hTs.rgIn.1; omega)
            clear hg hr0
            go_wp2_with fail
            exact ⟨⟨k + 1, by omega, rfl, hNT, hO5, hx5⟩, by simp only [intOf]; omega⟩
    · obtain rfl : k = n + 1 := by omega
      have hc1 := hTk.c1
      have ht3 := hTk.tIn.2
      have hb3 := hTk.bgIn.2
      obtain ⟨aj, hcj, hBj⟩ := hO.ent j hj
      have hol := hO.lt
      obtain ⟨ab, hcy, -⟩ := hTk.c2
      obtain ⟨hbi, hfi⟩ := hTk.basC i hi
      have hf2 := hTk.free 2 (by omega)
      have hjL : (j : Int) < (L : Int) := by omega
      have hin : (i : Int) < (n : Int) := by omega
      go_wp2_with fail
      have hap2 : P.t ≠ P.bg := hTk.ap.2.1
      have hap3 : P.bg ≠ P.t := Ne.symm hap2
      go_region
      all_goals
        go_end0
        have hT5 := hTk.setBas (j := j) hi
        have hB5 := hBj.farK (hTk.basC 0 hTk.n0).1 (Odd.int _) (grownBy_setCell wr ⟨P.bg, i, none⟩ (.int .i64 j))
        have hT6 := (hT5.setBy hB5).congr (T' := T.pivot i j) (fun _ _ => rfl) rfl (fun q hq l _ => (stepG_done T i j n q l hq).symm)
        have hx5 := (hx.onto (grownBy_setCell wr ⟨P.bg, i, none⟩ (.int .i64 j)) (fun q hq => by simp only [Option.some.injEq] at hq; have := hTk.bgIn.1; omega)).onto (grownBy_setCell _ ⟨P.t, 2, none⟩ (.pointer (some ⟨aj, 0, none⟩))) (fun q hq => by simp only [Option.some.injEq] at hq; have := hTk.tIn.1; omega)
        exact ⟨⟨_, rfl⟩, hT6.ext (Ext.refl _).drew, hx5.drew⟩
end Go.Proofs.YtefmioppamdceaaDoor
