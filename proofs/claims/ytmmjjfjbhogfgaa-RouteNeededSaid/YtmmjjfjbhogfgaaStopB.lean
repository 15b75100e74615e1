/- best: stops of which none is as good as another one, in order. -/
import Derived.Test.YtmmjjfjbhogfgaaStopA
import Derived.Test.YtmmjjfjbhogfgaaLay
import Derived.Test.YtmmjjfjbhogfgaaPairs
namespace Go.Proofs.Ytmmjjfjbhogfgaa
open Go.RowKit Go.Sort Go.Shelf
attribute [local go_sem] Leg.val run_store_fn

/-- A stop whose times are no longer than the sum of two days. -/
structure BStop where
  v : Int × Int
  h : 0 ≤ v.1 ∧ v.1 ≤ 100000 ∧ 0 ≤ v.2 ∧ v.2 ≤ 100000
instance : Inhabited BStop := ⟨⟨(0, 0), by decide⟩⟩
theorem BStop.ext2 {x y : BStop} (h1 : x.v.1 = y.v.1) (h2 : x.v.2 = y.v.2) : x = y := by
  obtain ⟨⟨a, b⟩, _⟩ := x
  obtain ⟨⟨c, d⟩, _⟩ := y
  simp only at h1 h2
  subst h1 h2
  rfl
def Bd (s : Int × Int) : Prop := 0 ≤ s.1 ∧ s.1 ≤ 100000 ∧ 0 ≤ s.2 ∧ s.2 ≤ 100000
instance (s : Int × Int) : Decidable (Bd s) := by unfold Bd; infer_instance
def toB (s : Int × Int) : BStop := if h : Bd s then ⟨s, h⟩ else default
theorem toB_v {s : Int × Int} (h : Bd s) : (toB s).v = s := by unfold toB; rw [dif_pos h]
def encS (x : BStop) : List Value := [.int .i64 x.v.1, .int .i64 x.v.2]
def cmpS (x y : BStop) : Int := if x.v.1 = y.v.1 then x.v.2 - y.v.2 else y.v.1 - x.v.1
theorem lt_cmp (x y : BStop) : ltOf cmpS x y = decide (y.v.1 < x.v.1 ∨ (x.v.1 = y.v.1 ∧ x.v.2 < y.v.2)) := by
  unfold ltOf cmpS
  rw [decide_eq_decide]
  split <;> omega
theorem swo_cmp : SWO (ltOf cmpS) where
  irrefl x := by rw [lt_cmp]; simp
  trans x y z h1 h2 := by rw [lt_cmp] at *; simp only [decide_eq_true_eq] at *; omega
  ntrans x y z h1 h2 := by rw [lt_cmp] at *; simp only [decide_eq_false_iff_not] at *; omega
theorem cmp_calls (x y : BStop) (W : World) : Calls Try.prog 94 #[.agg #[.int .i64 x.v.1, .int .i64 x.v.2], .agg #[.int .i64 y.v.1, .int .i64 y.v.2]] W fun e w' => e = .returned (.int .i64 (cmpS x y)) ∧ ∃ q os', w' = grow (W.drewN q) os' := by
  obtain ⟨⟨xd, xa⟩, hx0, hx1, hx2, hx3⟩ := x
  obtain ⟨⟨yd, ya⟩, hy0, hy1, hy2, hy3⟩ := y
  simp only at hx0 hx1 hx2 hx3 hy0 hy1 hy2 hy3
  unfold cmpS
  simp only
  cases hd : (xd != yd) with
  | true =>
    have h : ¬ xd = yd := by simpa using hd
    rw [if_neg h]
    clear h
    go_enter Try.func94, Try.ntmps94
    go_wp2_with fail
    go_ret
    exact ⟨rfl, 0, _, by rw [alloc_eq_grow, alloc_eq_grow, grow_grow]; rfl⟩
  | false =>
    have h : xd = yd := by simpa using hd
    rw [if_pos h]
    clear h
    go_enter Try.func94, Try.ntmps94
    go_wp2_with fail
    go_ret
    exact ⟨rfl, 0, _, by rw [alloc_eq_grow, alloc_eq_grow, grow_grow]; rfl⟩
theorem cmp_lays (blk off size : Nat) (w : World) : CmpLays Try.prog 94 #[] encS 2 cmpS blk off size w :=
  fun _ _ _ _ x y => cmp_calls x y _
theorem eg_cmp : ∀ args w, (callFunc 94 args).run Try.prog w = .ok (.enter 94 args) w := enters_of Try.func94 (by kernel_rfl) rfl

/-- The list as an array of bounded stops. -/
def asArr (l : Stops) : Array BStop := (l.map toB).toArray
theorem asArr_size (l : Stops) : (asArr l).size = l.length := by simp [asArr]
theorem asArr_at (l : Stops) (hb : ∀ s ∈ l, Bd s) {k : Nat} (hk : k < l.length) : ((asArr l)[k]!).v = l.getD k (0, 0) := by
  rw [getElem!_pos _ k (by rw [asArr_size]; exact hk)]
  have : (asArr l)[k]'(by rw [asArr_size]; exact hk) = toB (l[k]) := by simp [asArr]
  rw [this, toB_v (hb _ (List.getElem_mem hk))]
  simp [List.getD_eq_getElem?_getD, hk]
theorem map_toB (l : Stops) (hb : ∀ s ∈ l, Bd s) : (l.map toB).map (fun x => x.v) = l := by
  rw [List.map_map]
  refine (List.map_congr_left (fun s hs => ?_)).trans (List.map_id l)
  exact toB_v (hb s hs)
theorem Own.holds {w : World} {B g off cap : Nat} {l : Stops} (h : Own w B 2 (.slice (some ⟨g, off, none⟩) l.length cap) (trips l)) (hb : ∀ s ∈ l, Bd s) : HoldsK encS 2 w g off (asArr l) := by
  intro j hj
  rw [size_flatK, asArr_size] at hj
  have hc := h.cellAt j (by rw [trips_length]; exact hj)
  refine ⟨?_, hc.2⟩
  rw [hc.1, get_flatK _ _ _ _ (by rw [asArr_size]; exact hj)]
  obtain ⟨k, i, hi, rfl⟩ : ∃ k i, i < 2 ∧ j = k * 2 + i := ⟨j / 2, j % 2, by omega, by omega⟩
  have hk : k < l.length := by omega
  have e1 : (k * 2 + i) / 2 = k := by omega
  have e2 : (k * 2 + i) % 2 = i := by omega
  rw [e1, e2]
  have h3 := asArr_at l hb hk
  obtain ⟨g0, g1⟩ := trips_at l k hk
  unfold encS
  rw [h3]
  match i, hi with
  | 0, _ => simpa [tFst] using g0
  | 1, _ => simpa [tSnd] using g1
theorem holdsK_tripsIn {w : World} {g off : Nat} {d : Array BStop} (h : HoldsK encS 2 w g off d) (hlt : g < w.heap.size) : TripsIn w (some ⟨g, off, none⟩) (d.toList.map (fun x => x.v)) := by
  intro k hk
  have hk' : k < d.size := by simpa using hk
  have h0 := (h.cell (i := k) (c := 0) hk' (by omega)).1
  have h1 := (h.cell (i := k) (c := 1) hk' (by omega)).1
  rw [getElem!_pos d k hk'] at h0 h1
  refine ⟨g, off, rfl, hlt, ?_, ?_⟩
  · simpa [encS, tFst, List.getD_eq_getElem?_getD, hk'] using h0
  · simpa [encS, tSnd, List.getD_eq_getElem?_getD, hk'] using h1
theorem grown_putRowK (w : World) (n g off : Nat) (d : Array BStop) : w.grownBy (putRowK encS 2 (Sort.ahead w n) g off d) (some g) := by
  refine ⟨rfl, rfl, rfl, by simp [putRowK], fun k _ hk => ?_⟩
  have hne : ¬ g = k := fun e => hk (by rw [e])
  unfold putRowK putRow mapBlock
  simp [Array.getElem?_modify, hne]
theorem grown_grow (w : World) (os : Array Obj) (row : Option Nat) : w.grownBy (grow w os) row := ⟨rfl, rfl, rfl, by simp, fun _ hk _ => heap_grow_old w os hk⟩
def sortedS (s t : Int × Int) : Prop := t.1 ≤ s.1 ∧ (t.1 = s.1 → s.2 ≤ t.2)
def SortRes (w : World) (g off : Nat) (l : Stops) (e : Ending) (w' : World) : Prop :=
  e = .returned (.tuple #[]) ∧ ∃ S : Stops, TripsIn w' (some ⟨g, off, none⟩) S ∧ S.length = l.length ∧ (∀ s, s ∈ S ↔ s ∈ l) ∧ S.Pairwise sortedS ∧ w.grownBy w' (some g)
theorem sort_calls (w : World) (B g off cap : Nat) (l : Stops) (hb : ∀ s ∈ l, Bd s) (ho : Own w B 2 (.slice (some ⟨g, off, none⟩) l.length cap) (trips l)) (hl : l.length ≤ 10000000) :
    Calls Try.prog 93 #[.slice (some ⟨g, off, none⟩) l.length cap, .func (.func 94) #[] #[]] w (SortRes w g off l) := by
  have hH := ho.holds hb
  have hg := (ho.lt g rfl).2
  have hT : ∀ x y : BStop, (ltOf cmpS) x y = false → (ltOf cmpS) y x = false → x = y := by
    intro x y h1 h2
    rw [lt_cmp] at h1 h2
    simp only [decide_eq_false_iff_not] at h1 h2
    exact BStop.ext2 (by omega) (by omega)
  have h := AnyQ.slices_SortFunc_total sortStops 2 Try.isAgg54 Try.sizeOf54 encS (fun _ => rfl) (fun x v hv => by simp [encS] at hv; rcases hv with rfl | rfl <;> rfl) cmpS swo_cmp 94 #[] g off cap (asArr l) w eg_cmp (cmp_lays g off (asArr l).size w) hH hg (by rw [asArr_size]; omega) hT
  rw [asArr_size] at h
  refine h.mono ?_
  rintro e w' ⟨rfl, n, os, rfl⟩
  generalize hM : ((asArr l).toList.mergeSort fun x y => !(ltOf cmpS) y x) = M
  have hMl : M.length = l.length := by rw [← hM, List.length_mergeSort, Array.length_toList, asArr_size]
  have hlt : g < (sortWorldK encS 2 w g off n M.toArray os).heap.size := by
    unfold sortWorldK
    simp [putRowK]
    omega
  have hH2 : HoldsK encS 2 (sortWorldK encS 2 w g off n M.toArray os) g off M.toArray := by
    unfold sortWorldK
    refine holdsK_grow _ _ _ _ _ _ _ (by simp [putRowK]; exact hg) (holdsK_putRowK _ _ _ _ _ _ _ (holdsK_ahead _ _ _ _ _ _ _ hH) (by simp [hMl, asArr_size]))
  have hti := holdsK_tripsIn hH2 hlt
  refine ⟨rfl, _, hti, by simp [hMl], fun s => ?_, ?_, ?_⟩
  · rw [List.toList_toArray, ← hM]
    conv => rhs; rw [← map_toB l hb]
    simp only [List.mem_map, List.mem_mergeSort, asArr]
  · rw [List.toList_toArray, List.pairwise_map, ← hM]
    refine (List.pairwise_mergeSort ?_ ?_ _).imp ?_
    · intro x y z h1 h2
      rw [lt_cmp] at *
      simp only [Bool.not_eq_true', decide_eq_false_iff_not] at *
      omega
    · intro x y
      rw [lt_cmp, lt_cmp]
      simp only [Bool.or_eq_true, Bool.not_eq_true', decide_eq_false_iff_not]
      omega
    · intro x y h1
      rw [lt_cmp] at h1
      simp only [Bool.not_eq_true', decide_eq_false_iff_not] at h1
      unfold sortedS
      omega
  · unfold sortWorldK
    exact grownBy_trans (grown_putRowK w n g off _) (grown_grow _ _ _)
theorem sort_none (w : World) (p : Option Addr) (cap : Nat) (fv : Value) :
    Calls Try.prog 93 #[.slice p 0 cap, fv] w fun e w' => e = .returned (.tuple #[]) ∧ w' = w := AnyF.slices_SortFunc_none sortStops p cap fv w
/-- The list is turned around in its place. -/
theorem reverse_calls (w : World) (B g off cap : Nat) (l : Stops) (hb : ∀ s ∈ l, Bd s) (ho : Own w B 2 (.slice (some ⟨g, off, none⟩) l.length cap) (trips l)) (hl : l.length ≤ 10000000) :
    Calls Try.prog 95 #[.slice (some ⟨g, off, none⟩) l.length cap] w fun e w' => e = .returned (.tuple #[]) ∧ Own w' B 2 (.slice (some ⟨g, off, none⟩) l.length cap) (trips l.reverse) ∧ w.grownBy w' (some g) := by
  have hH := ho.holds hb
  have hg := ho.lt g rfl
  have h := AnyQ.slices_Reverse revStops 2 Try.isAgg54 Try.sizeOf54 encS (fun _ => rfl) (fun x v hv => by simp [encS] at hv; rcases hv with rfl | rfl <;> rfl) g off cap (asArr l) w hH (by rw [asArr_size]; omega)
  rw [asArr_size] at h
  refine h.mono ?_
  rintro e w' ⟨rfl, n, rfl⟩
  have hgr := grown_putRowK w n g off (asArr l).reverse
  refine ⟨rfl, ?_, hgr⟩
  have hH2 : HoldsK encS 2 (putRowK encS 2 (Sort.ahead w n) g off (asArr l).reverse) g off (asArr l).reverse := holdsK_putRowK _ _ _ _ _ _ _ (holdsK_ahead _ _ _ _ _ _ _ hH) (by simp)
  have hti := holdsK_tripsIn hH2 (Nat.lt_of_lt_of_le hg.2 hgr.size)
  have hrev : (asArr l).reverse.toList.map (fun x => x.v) = l.reverse := by
    simp only [asArr, List.reverse_toArray, List.toList_toArray, List.map_reverse]
    rw [map_toB l hb]
  rw [hrev] at hti
  obtain ⟨n', hl', ⟨h1, _⟩ | ⟨g', off', cap', h1, hb1, hlt, hnc, hcm, hc, hx⟩⟩ := ho
  · simp at h1
  · simp only [Value.slice.injEq, Option.some.injEq, Addr.mk.injEq, and_true] at h1
    obtain ⟨⟨rfl, rfl⟩, rfl, rfl⟩ := h1
    have hat : ∀ j, j < l.length * 2 → (putRowK encS 2 (Sort.ahead w n) g off (asArr l).reverse).cell? ⟨g, off + j, none⟩ = (trips l.reverse)[j]? := by
      intro j hj
      obtain ⟨k, i, hi, rfl⟩ : ∃ k i, i < 2 ∧ j = k * 2 + i := ⟨j / 2, j % 2, by omega, by omega⟩
      have hk : k < l.reverse.length := by rw [List.length_reverse]; omega
      obtain ⟨g0, g1⟩ := trips_at l.reverse k hk
      obtain ⟨b', o', e, _, k0, k1⟩ := hti k hk
      simp only [Option.some.injEq, Addr.mk.injEq, and_true] at e
      obtain ⟨rfl, rfl⟩ := e
      match i, hi with
      | 0, _ => rw [Nat.add_zero, g0]; exact k0
      | 1, _ => rw [g1, ← Nat.add_assoc]; exact k1
    refine ⟨l.length, by rw [trips_length, List.length_reverse], .inr ⟨g, off, cap, rfl, hb1, Nat.lt_of_lt_of_le hlt hgr.size, hnc, hcm, fun j hj => ?_, hat⟩⟩
    have hfr : (putRowK encS 2 (Sort.ahead w n) g off (asArr l).reverse).frozen? ⟨g, off + j, none⟩ = false := by
      unfold putRowK
      rw [frozen?_putRow]
      exact (hc j hj).2
    refine ⟨?_, hfr⟩
    by_cases hjl : j < l.length * 2
    · rw [hat j hjl, List.getElem?_eq_getElem (by rw [trips_length, List.length_reverse]; exact hjl)]
      rfl
    · unfold putRowK
      rw [cell?_putRow_other _ _ _ _ _ _ (.inr (.inr (by rw [size_flatK]; simp [asArr_size]; omega)))]
      exact (hc j hj).1

/-- A region that draws, behind the box of a stop. -/
theorem wp_region_boxed2 {P : Program} {id : Nat} {Q : Exit → Act → World → Prop} {a : Act} {wr : World} {x y : Int} {t : TypeId} {l : List Oper} (hm : P.follows .mixedOrders = true) (hB : Region.lexB .any l.toArray = true)
    (h : ∀ w, Nonempty (After w) → Ext wr w → w.cell? ⟨wr.heap.size, 0, none⟩ = some (.int .i64 x) → w.cell? ⟨wr.heap.size, 1, none⟩ = some (.int .i64 y) → wr.heap.size < w.heap.size →
      wpQuiet P l.toArray (fun w' => ∃ s : After w, w' = s.at_) (fun a' => ∀ w', Ext w w' → Q .normal a' w') l a) : (Code.region id l.toArray true).wp P Q a (wr.alloc (.cells #[.int .i64 x, .int .i64 y] t)) :=
  wp_region_after hm hB (fun hn => h _ hn ((Ext.refl _).alloc _) (by simp [go_sem]) (by simp [go_sem]) (by simp))

def BestStopsRes (w0 : World) (l : Stops) (e : Ending) (w' : World) : Prop :=
  ∃ v R, e = .returned v ∧ Own w' w0.heap.size 2 v (trips R) ∧ FrontOf l R ∧ R.length ≤ l.length ∧ Ext w0 w'
theorem info_stop : (Try.prog.info? 54).map (fun i => (i.zero, i.size, i.bytes)) = some (some (.agg #[.int .i64 0, .int .i64 0]), 2, 16) := by kernel_rfl
theorem take_pair {S : Stops} {k : Nat} (hS : S.Pairwise sortedS) (hk : k < S.length) : ∀ p ∈ S.take k, (S.getD k (0, 0)).1 ≤ p.1 ∧ ((S.getD k (0, 0)).1 = p.1 → p.2 ≤ (S.getD k (0, 0)).2) := by
  intro p hp
  obtain ⟨i, hi, rfl⟩ := List.getElem_of_mem hp
  rw [List.length_take] at hi
  have := List.pairwise_iff_getElem.1 hS i k (by omega) hk (by omega)
  rw [List.getElem_take]
  simpa [List.getD_eq_getElem?_getD, hk, sortedS] using this
theorem take_snoc' {S : Stops} {k : Nat} (hk : k < S.length) : S.take (k + 1) = S.take k ++ [S.getD k (0, 0)] := by
  rw [List.take_succ_eq_append_getElem hk]
  simp [List.getD_eq_getElem?_getD, hk]

theorem reverse_none (w : World) (a : Option Addr) (cap : Nat) :
    Calls Try.prog 95 #[.slice a 0 cap] w fun e w' => e = .returned (.tuple #[]) ∧ w' = w := AnyQ.slices_Reverse_empty revStops a cap w

theorem sort_any (w : World) (B : Nat) (lo : Option Addr) (lcap : Nat) (l : Stops) (hb : ∀ s ∈ l, Bd s) (ho : Own w B 2 (.slice lo l.length lcap) (trips l)) (hl : l.length ≤ 10000000) :
    Calls Try.prog 93 #[.slice lo l.length lcap, .func (.func 94) #[] #[]] w fun e w' => e = .returned (.tuple #[]) ∧ ∃ S : Stops, TripsIn w' lo S ∧ S.length = l.length ∧ (∀ s, s ∈ S ↔ s ∈ l) ∧ S.Pairwise sortedS ∧ w.grownBy w' (Value.slice lo l.length lcap).ownBlock := by
  by_cases hl0 : l = []
  · subst hl0
    refine (sort_none w lo lcap _).mono ?_
    rintro e w' ⟨rfl, rfl⟩
    exact ⟨rfl, [], fun k hk => by simp at hk, rfl, fun s => Iff.rfl, .nil, rfl, rfl, rfl, Nat.le_refl _, fun _ _ _ => rfl⟩
  · obtain ⟨ao, cap, he, hne⟩ := ho.tripShape
    simp only [Value.slice.injEq, true_and] at he
    obtain ⟨rfl, rfl⟩ := he
    obtain ⟨g, off, rfl, _⟩ := hne hl0
    refine (sort_calls w B g off lcap l hb ho hl).mono ?_
    rintro e w' ⟨rfl, S, h1, h2, h3, h4, h5⟩
    exact ⟨rfl, S, h1, h2, h3, h4, h5⟩

set_option maxRecDepth 100000 in
set_option maxHeartbeats 8000000 in
theorem bestStops_calls (w0 w : World) (v : Value) (l : Stops) (hx0 : Ext w0 w) (hv : Own w w0.heap.size 2 v (trips l)) (hb : ∀ s ∈ l, Bd s) (hl : l.length ≤ 100000) :
    Calls Try.prog 70 #[v] w (BestStopsRes w0 l) := by
  obtain ⟨i0, hi, hz0, hz1, hz2⟩ := info_parts info_stop
  obtain ⟨lo, lcap, rfl, -⟩ := hv.tripShape
  go_enter Try.func70, Try.ntmps70
  go_wp2_with fail
  refine (sort_any w w0.heap.size lo lcap l hb hv (by omega)).mono ?_
  rintro e w2 ⟨rfl, S, hti, hSl, hSm, hSp, hg2⟩
  have hS := Lib.hid hSp
  have hSb : ∀ s ∈ S, Bd s := fun s hs => hb s ((hSm s).1 hs)
  have hx02 : Ext w0 w2 := hx0.onto hg2 (fun q hq => (hv.lt q hq).1)
  rw [← hSl]
  have hl2 : S.length ≤ 100000 := by omega
  have HSl := Lib.hid hSl
  clear hSp hg2 hv hSl
  obtain ⟨W, hW⟩ : ∃ W, W = w2.heap.size := ⟨_, rfl⟩
  have hWw := hx02.size
  go_wp2_with fail
  go_loopw [11, 3] (fun i out wr => ∃ (k : Nat) (outv : Value) (O : Stops), k ≤ S.length ∧ i = .int .i64 k ∧ outv = out ∧ Ext w2 wr ∧ Own wr W 2 outv (trips O) ∧ O.length ≤ k ∧ Hid (DownRec (S.take k) O)) (fun i _ _ => S.length - (intOf i).toNat)
  case atStart => exact ⟨0, _, [], by omega, rfl, rfl, Ext.refl _, Own.nil _ _ _, by simp, Lib.hid DownRec.nil⟩
  case round =>
    obtain ⟨k, outv, O, hk, rfl, rfl, hx, ho, hOl, HD⟩ := hrel
    by_cases hlt : k < S.length
    · obtain ⟨sb, sf, hso, hsb, hs0, hs1⟩ := (hti.ext hx) k hlt
      subst hso
      have hsk : S.getD k (0, 0) = (tFst S k, tSnd S k) := rfl
      have h0 : 0 ≤ tSnd S k := by
        have := hSb (S.getD k (0, 0)) (getD_mem hlt)
        unfold Bd at this
        rw [hsk] at this
        exact this.2.2.1
      have HTP := Lib.hid (take_pair hS.out hlt)
      have HTS := Lib.hid (take_snoc' hlt)
      rw [hsk] at HTP HTS
      have hWr := hx.size
      obtain ⟨oo, ocap, rfl, hne⟩ := ho.tripShape
      by_cases hO : O = []
      · have hl0 : O.length = 0 := by simp [hO]
        have HO0 := Lib.hid hO
        have hOz : ((O.length : Int) == 0) = true := by rw [hl0]; rfl
        clear hO hne hl0
        go_wp2_with fail
        refine wp_region_boxed2 (by kernel_rfl) (by kernel_rfl) ?_
        intro w3 hne3 hx3 hc0 hc1 hlt3
        have hcs0 := After.cell hc0 hlt3
        have hcs1 := After.cell hc1 hlt3
        repeat (go_big_quiet_step (fail))
        refine wpQuiet_nil ?_
        intro w4 hx4
        have hc04 := (hx4.cell (p := ⟨wr.heap.size, 0, none⟩) hlt3).trans hc0
        have hc14 := (hx4.cell (p := ⟨wr.heap.size, 1, none⟩) hlt3).trans hc1
        have hlt4 := Nat.lt_of_lt_of_le hlt3 hx4.size
        have hxr3 := hx.trans (hx3.trans hx4)
        have ho3 := ho.ext (hx3.trans hx4)
        clear hcs0 hcs1 hc0 hc1
        go_wp2_with (at_builtin; refine wpList_append_Own _ rfl _ _ 49 rfl 54 i0 (.agg #[.int .i64 0, .int .i64 0]) 2 16 Try.underlying49 hi hz0 hz1 hz2 rfl (by omega) W _ _ rfl (Own.ext ho3 ((Ext.refl _).alloc _)) (by simp; omega) _ 1 1 [.int .i64 (tFst S k), .int .i64 (tSnd S k)] rfl rfl (two_cell _ _ _ _ _ rfl) (by simp [Value.oneCell']) (by simp [trips_length]; unfold maxLen; omega) (by simp [trips_length]; omega) ?_; intro v' w5 ho5 hg5 hb5)
        rw [trips_snoc] at ho5
        have hx5 : Ext w2 w5 := (hxr3.alloc _).onto hg5 (fun q hq => by have := (ho3.lt q hq).1; omega)
        exact ⟨⟨k + 1, _, O ++ [(tFst S k, tSnd S k)], by omega, rfl, rfl, hx5, ho5, by simp; omega, Lib.hid (by rw [HTS.out]; exact HD.out.add h0 HTP.out (.inl HO0.out))⟩, by simp only [intOf]; omega⟩
      · obtain ⟨og, oof, rfl, hogl, hoc⟩ := hne hO
        have hOp : 0 < O.length := List.length_pos_iff.2 hO
        have HO := Lib.hid hO
        have hOz : ((O.length : Int) == 0) = false := by simp only [beq_eq_false_iff_ne]; omega
        clear hO hne
        cases hd : decide (tSnd S k < lastArr O) with
        | true =>
          go_wp2_with fail
          refine wp_region_boxed2 (by kernel_rfl) (by kernel_rfl) ?_
          intro w3 hne3 hx3 hc0 hc1 hlt3
          have hcs0 := After.cell hc0 hlt3
          have hcs1 := After.cell hc1 hlt3
          have hocs := After.cell ((hx3.cell (p := ⟨og, oof + (O.length - 1) * 2 + 1, none⟩) hogl).trans hoc) (Nat.lt_of_lt_of_le hogl hx3.size)
          repeat (go_big_quiet_step (fail))
          refine wpQuiet_nil ?_
          intro w4 hx4
          have hc04 := (hx4.cell (p := ⟨wr.heap.size, 0, none⟩) hlt3).trans hc0
          have hc14 := (hx4.cell (p := ⟨wr.heap.size, 1, none⟩) hlt3).trans hc1
          have hlt4 := Nat.lt_of_lt_of_le hlt3 hx4.size
          have hxr3 := hx.trans (hx3.trans hx4)
          have ho3 := ho.ext (hx3.trans hx4)
          have HDD := Lib.hid hd
          clear hcs0 hcs1 hc0 hc1 hocs hd
          go_wp2_with (at_builtin; refine wpList_append_Own _ rfl _ _ 49 rfl 54 i0 (.agg #[.int .i64 0, .int .i64 0]) 2 16 Try.underlying49 hi hz0 hz1 hz2 rfl (by omega) W _ _ rfl (Own.ext ho3 ((Ext.refl _).alloc _)) (by simp; omega) _ 1 1 [.int .i64 (tFst S k), .int .i64 (tSnd S k)] rfl rfl (two_cell _ _ _ _ _ rfl) (by simp [Value.oneCell']) (by simp [trips_length]; unfold maxLen; omega) (by simp [trips_length]; omega) ?_; intro v' w5 ho5 hg5 hb5)
          rw [trips_snoc] at ho5
          have hx5 : Ext w2 w5 := (hxr3.alloc _).onto hg5 (fun q hq => by have := (ho3.lt q hq).1; omega)
          exact ⟨⟨k + 1, _, O ++ [(tFst S k, tSnd S k)], by omega, rfl, rfl, hx5, ho5, by simp; omega, Lib.hid (by rw [HTS.out]; exact HD.out.add h0 HTP.out (.inr (by have := HDD.out; simpa using this)))⟩, by simp only [intOf]; omega⟩
        | false =>
          go_wp2_with fail
          refine wp_region_boxed2 (by kernel_rfl) (by kernel_rfl) ?_
          intro w3 hne3 hx3 hc0 hc1 hlt3
          have hcs0 := After.cell hc0 hlt3
          have hcs1 := After.cell hc1 hlt3
          have hocs := After.cell ((hx3.cell (p := ⟨og, oof + (O.length - 1) * 2 + 1, none⟩) hogl).trans hoc) (Nat.lt_of_lt_of_le hogl hx3.size)
          repeat (go_big_quiet_step (fail))
          refine wpQuiet_nil ?_
          intro w4 hx4
          have hxr3 := hx.trans (hx3.trans hx4)
          have ho3 := ho.ext (hx3.trans hx4)
          have HDD := Lib.hid hd
          clear hcs0 hcs1 hc0 hc1 hocs hd
          go_wp2_with fail
          exact ⟨⟨k + 1, _, O, by omega, rfl, rfl, hxr3, ho3, by omega, Lib.hid (by rw [HTS.out]; exact HD.out.skip (fun p hp => (HTP.out p hp).1) HO.out (by have := HDD.out; simpa using this))⟩, by simp only [intOf]; omega⟩
    · obtain rfl : k = S.length := by omega
      have hfin := HD.out
      rw [List.take_length] at hfin
      have HFr := Lib.hid hfin.front
      have hOb : ∀ s ∈ O, Bd s := fun s hs => hSb s (hfin.mem s hs)
      clear hfin
      obtain ⟨oo, ocap, rfl, hne⟩ := ho.tripShape
      by_cases hO : O = []
      · subst hO
        clear hne
        go_wp2_with (go_at_call 95; refine (reverse_none _ oo ocap).mono ?_; rintro e w6 ⟨rfl, rfl⟩)
        go_ret
        exact ⟨_, [], rfl, ho.rebase (by omega), HFr.out.congr hSm, by simp, hx02.trans hx⟩
      · obtain ⟨og, oof, rfl, hogl, hoc⟩ := hne hO
        clear hne hoc
        go_wp2_with (go_at_call 95; refine (reverse_calls _ W og oof ocap O hOb ho (by omega)).mono ?_; rintro e w6 ⟨rfl, ho6, hg6⟩)
        go_ret
        exact ⟨_, O.reverse, rfl, ho6.rebase (by omega), HFr.out.congr hSm, by have := HSl.out; rw [List.length_reverse]; omega, (hx02.trans hx).onto hg6 (fun q hq => by have := (ho.lt q hq).1; omega)⟩
end Go.Proofs.Ytmmjjfjbhogfgaa