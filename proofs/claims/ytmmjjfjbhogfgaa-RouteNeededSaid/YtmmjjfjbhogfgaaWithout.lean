/- A timetable without a leg. -/
import Derived.Test.YtmmjjfjbhogfgaaWithin
import Derived.Test.YtmmjjfjbhogfgaaMore
import Derived.Shelf.RegionOpenPlain
import Derived.Lib.SliceRun
namespace Go.Proofs.Ytmmjjfjbhogfgaa
open Go.RowKit
attribute [local go_sem] Leg.val run_store_fn

theorem legs_nil_run (w : World) (a : Option Addr) (n c : Nat) : (binOp .eql 22 (.slice a n c) (.slice none 0 0)).run Try.prog w = .ok (.bool a.isNone) w := Lib.run_eql_slice_nil (P := Try.prog) w _ _ a n c 0 0 Try.underlying22

set_option maxRecDepth 100000 in
set_option maxHeartbeats 2000000 in
theorem clone_calls (w : World) (b off cap : Nat) (L : List Leg) (hL : LegsIn w (some ⟨b, off, none⟩) L) (hlen : L.length ≤ 100) :
    Calls Try.prog 90 #[.slice (some ⟨b, off, none⟩) L.length cap] w fun e w' => (∃ v, e = .returned v ∧ Own w' w.heap.size 5 v (legCells L)) ∧ Ext w w' := by
  obtain ⟨i0, hi, hz0, hz1, hz2⟩ := info_parts info_leg
  have hrun := legs_nil_run
  go_enter Try.func90, Try.ntmps90
  go_wp2_with (at_builtin; refine wpList_append_legs _ rfl _ _ 22 rfl 38 i0 _ Try.underlying22 hi hz0 hz1 hz2 rfl w.heap.size _ [] rfl (Own.hollow _ w.heap.size w.heap.size 5 (by omega) (by simp)) (by simp) _ cap L rfl (hL.ext (by repeat (first | exact Ext.refl _ | assumption | refine Ext.alloc ?_ _ | refine Ext.drewN ?_ _ | refine Ext.drew ?_))) (by simp) (by omega) ?_; intro v5 w5 ho5 hg5 hb5)
  have hx5 : Ext w w5 := ((Ext.refl w).alloc _).onto hg5 (fun k hk => by cases hk; exact Nat.le_refl _)
  rw [List.nil_append] at ho5
  go_ret
  exact ⟨⟨v5, rfl, ho5⟩, hx5⟩

theorem leg_erase (L : List Leg) (i k : Nat) (_hk : k < L.length - 1) : leg (L.eraseIdx i) k = if k < i then leg L k else leg L (k + 1) := by
  simp only [leg, List.getD_eq_getElem?_getD, List.getElem?_eraseIdx]
  split <;> rfl
theorem leg_drop (L : List Leg) (i k : Nat) : leg (L.drop i) k = leg L (i + k) := by
  simp [leg, List.getD_eq_getElem?_getD]
theorem run_clear_leg (w : World) (ty : TypeId) (b o c : Nat) (z : Value) (hv : ∀ w, (zeroValue 38).run Try.prog w = .ok z w) (hz : z = .agg #[.int .i64 0, .int .i64 0, .int .i64 0, .int .i64 0, .int .i64 0])
    (hc : ∀ j, j < 5 → (w.cell? ⟨b, o + j, none⟩).isSome = true) (hf : ∀ j, j < 5 → w.frozen? ⟨b, o + j, none⟩ = false) :
    (Builtin.clear_ #[22] ty #[.slice (some ⟨b, o, none⟩) 1 c]).run Try.prog w = .ok (.tuple #[]) (w.setCells b o (List.replicate 5 (.int .i64 0))) := by
  subst hz
  have hst := run_storeCells_cells (P := Try.prog) b o (List.replicate 5 (.int .i64 0)) 0 w (by simpa using hc) (by simpa using hf) (by intro v hv'; rw [List.eq_of_mem_replicate hv']; rfl)
  simp only [Nat.add_zero] at hst
  have hzc : (Builtin.zeroCells (Value.cells (.agg #[.int .i64 0, .int .i64 0, .int .i64 0, .int .i64 0, .int .i64 0])) 1).toList = List.replicate 5 (Value.int .i64 0) := by kernel_rfl
  have hr : List.replicate 5 (Value.int .i64 0) = [.int .i64 0, .int .i64 0, .int .i64 0, .int .i64 0, .int .i64 0] := rfl
  rw [hr] at hst hzc ⊢
  simp [Builtin.clear_, run_underlying Try.underlying22, hv, hzc, hst, Result.andThen]

set_option maxRecDepth 100000 in
set_option maxHeartbeats 4000000 in
theorem delete_calls (w : World) (base g off cap : Nat) (L : List Leg) (i j : Nat) (hij : j = i + 1) (ho : Own w base 5 (.slice (some ⟨g, off, none⟩) L.length cap) (legCells L)) (hi : i < L.length) (hlen : L.length ≤ 100) :
    Calls Try.prog 89 #[.slice (some ⟨g, off, none⟩) L.length cap, .int .i64 i, .int .i64 j] w fun e w' =>
      e = .returned (.slice (some ⟨g, off, none⟩) (L.length - 1) cap) ∧ LegsIn w' (some ⟨g, off, none⟩) (L.eraseIdx i) ∧ w.grownBy w' (some g) := by
  obtain ⟨i0, hi0, hz0, hz1, hz2⟩ := info_parts info_leg
  obtain ⟨n', hl, ⟨h, _⟩ | ⟨g', off', cap', h, hb, hlt, hnc, hcm, hcc, hxx⟩⟩ := ho
  · simp at h
  simp only [Value.slice.injEq, Option.some.injEq, Addr.mk.injEq, and_true] at h
  obtain ⟨⟨rfl, rfl⟩, rfl, rfl⟩ := h
  unfold maxLen at hcm
  -- the cells that are moved to the left
  obtain ⟨news, hnews⟩ : ∃ news, news = legCells (L.drop (i + 1)) := ⟨_, rfl⟩
  have hnl : news.length = (L.length - (i + 1)) * 5 := by rw [hnews, legCells_length, List.length_drop]
  have hread : ∀ k, k < L.length → w.cell? ⟨g, off + k * 5, none⟩ = some (.int .i64 (leg L k).From) ∧ w.cell? ⟨g, off + k * 5 + 1, none⟩ = some (.int .i64 (leg L k).To) ∧ w.cell? ⟨g, off + k * 5 + 2, none⟩ = some (.int .i64 (leg L k).Dep) ∧ w.cell? ⟨g, off + k * 5 + 3, none⟩ = some (.int .i64 (leg L k).Arr) ∧ w.cell? ⟨g, off + k * 5 + 4, none⟩ = some (.int .i64 (leg L k).Line) := by
    intro k hk
    obtain ⟨g0, g1, g2, g3, g4⟩ := legCells_at L k hk
    have e0 := hxx (k * 5) (by omega)
    have e1 := hxx (k * 5 + 1) (by omega)
    have e2 := hxx (k * 5 + 2) (by omega)
    have e3 := hxx (k * 5 + 3) (by omega)
    have e4 := hxx (k * 5 + 4) (by omega)
    rw [g0] at e0; rw [g1] at e1; rw [g2] at e2; rw [g3] at e3; rw [g4] at e4
    simp only [Nat.add_assoc] at *
    exact ⟨e0, e1, e2, e3, e4⟩
  have hleft : LegsIn w (some ⟨g, off + (i + 1) * 5, none⟩) (L.drop (i + 1)) := by
    intro k hk
    rw [List.length_drop] at hk
    have := hread (i + 1 + k) (by omega)
    rw [leg_drop]
    refine ⟨g, off + (i + 1) * 5, rfl, hlt, ?_⟩
    rw [show off + (i + 1) * 5 + k * 5 = off + (i + 1 + k) * 5 by omega]
    exact this
  obtain ⟨A, hA, hsrc⟩ : ∃ A : Addr, (if cap = j then some (⟨g, off, none⟩ : Addr) else some ⟨g, off + j * 5, none⟩) = some A ∧ Hid (∀ t u, news[t]? = some u → w.drew.cell? (A.add t) = some u) := by
    by_cases h : cap = j
    · refine ⟨⟨g, off, none⟩, by simp [h], Lib.hid (fun t u hu => ?_)⟩
      have h0 : news.length = 0 := by rw [hnl]; omega
      rw [List.length_eq_zero_iff.1 h0] at hu
      simp at hu
    · refine ⟨⟨g, off + j * 5, none⟩, by simp [h], Lib.hid (fun t u hu => ?_)⟩
      rw [hnews] at hu
      rw [hij]
      exact hleft.news t u hu
  have s2 : Hid (∀ u ∈ news, u.oneCell' = true) := Lib.hid (by rw [hnews]; exact legCells_one _)
  have s3 : Hid (∀ t, t < news.length → (w.drew.cell? ⟨g, off + i * 5 + t, none⟩).isSome = true ∧ w.drew.frozen? ⟨g, off + i * 5 + t, none⟩ = false) := Lib.hid (by
    intro t ht
    have := hcc (i * 5 + t) (by omega)
    rw [Nat.add_assoc]
    exact this)
  obtain ⟨W1, hW1⟩ : ∃ W1, W1 = w.drew.setCells g (off + i * 5) news := ⟨_, rfl⟩
  obtain ⟨W2, hW2⟩ : ∃ W2, W2 = W1.setCells g (off + (L.length - 1) * 5) (List.replicate 5 (.int .i64 0)) := ⟨_, rfl⟩
  have hsome : ∀ j, j < cap * 5 → (W1.cell? ⟨g, off + j, none⟩).isSome = true ∧ W1.frozen? ⟨g, off + j, none⟩ = false := by
    intro j hj
    rw [hW1]
    exact ⟨isSome_setCells' _ _ _ _ _ (hcc j hj).1, by rw [World.frozen?_setCells]; exact (hcc j hj).2⟩
  have hcl : ∀ ty c, (Builtin.clear_ #[22] ty #[.slice (some ⟨g, off + (i + (L.length - j)) * 5, none⟩) (L.length - (i + (L.length - j))) c]).run Try.prog W1 = .ok (.tuple #[]) W2 := by
    intro ty c
    rw [hW2, show i + (L.length - j) = L.length - 1 by omega, show L.length - (L.length - 1) = 1 by omega]
    exact run_clear_leg W1 ty g (off + (L.length - 1) * 5) c _ Try.zeroValue38 rfl (fun j hj => by rw [Nat.add_assoc]; exact (hsome _ (by omega)).1) (fun j hj => by rw [Nat.add_assoc]; exact (hsome _ (by omega)).2)
  have hend : Hid (LegsIn W2 (some ⟨g, off, none⟩) (L.eraseIdx i) ∧ w.grownBy W2 (some g)) := Lib.hid (by
    constructor
    · intro k hk
      rw [List.length_eraseIdx, if_pos hi] at hk
      refine ⟨g, off, rfl, by rw [hW2, setCells_size, hW1, setCells_size]; exact hlt, ?_⟩
      have key : ∀ r, r < 5 → W2.cell? ⟨g, off + k * 5 + r, none⟩ = if k < i then w.cell? ⟨g, off + k * 5 + r, none⟩ else w.cell? ⟨g, off + (k + 1) * 5 + r, none⟩ := by
        intro r hr
        rw [hW2, World.cell?_setCells_out _ _ _ _ _ (fun _ _ => .inl (by simp; omega)), hW1]
        split
        · rw [World.cell?_setCells_out _ _ _ _ _ (fun _ _ => .inl (by simp; omega))]
          rfl
        · have hj : (k - i) * 5 + r < news.length := by rw [hnl]; omega
          have e := World.cell?_setCells_in g news (off + i * 5) w.drew (fun t ht => (s3.out t ht).1) ((k - i) * 5 + r) hj
          rw [show off + k * 5 + r = off + i * 5 + ((k - i) * 5 + r) by omega, e]
          have e2 := hleft.news ((k - i) * 5 + r) news[(k - i) * 5 + r] (by rw [← hnews, List.getElem?_eq_getElem hj])
          rw [addr_add] at e2
          rw [← e2]
          congr 2
          omega
      rw [leg_erase L i k hk]
      have k0 := key 0 (by omega)
      have k1 := key 1 (by omega)
      have k2 := key 2 (by omega)
      have k3 := key 3 (by omega)
      have k4 := key 4 (by omega)
      simp only [Nat.add_zero] at k0
      rw [k0, k1, k2, k3, k4]
      split
      · exact hread k (by omega)
      · exact hread (k + 1) (by omega)
    · rw [hW2, hW1]
      exact grownBy_trans (grownBy_trans ((Ext.refl w).drew.grown (some g)) (grownBy_setCells g _ _ w.drew)) (grownBy_setCells g _ _ _))
  have hnl2 : Hid (news.length = (L.length - (i + 1)) * 5) := Lib.hid hnl
  have hW : Hid (W1 = w.drew.setCells g (off + i * 5) news) := Lib.hid hW1
  have hic : i ≤ cap := by omega
  have hjc : j ≤ cap := by omega
  have hlj : i < j := by omega
  have hjl : j ≤ L.length := by omega
  have mixed : Try.prog.follows .mixedOrders = true := by kernel_rfl
  have hnl3 : Hid (news.length = (L.length - j) * 5) := Lib.hid (by rw [hnl2.out, hij])
  have hroom : Hid (i + (L.length - j) = L.length - 1) := Lib.hid (by omega)
  clear hij
  clear hW1 hW2 hsome hleft hread hnews hnl hxx hcc
  go_enter Try.func89, Try.ntmps89
  go_wp2_with fail
  go_region_law_o (refine step_append_room rfl (.tmp 22) (.tmp 25) 22 rfl 38 i0 5 Try.underlying22 hi0 hz1 g off i cap (by simp [Act.eval, Act.put]) A (L.length - j) (cap - j) news (by simp [Act.eval, Act.put]) hnl3.out hsrc.out s2.out (by omega) s3.out ?_; rw [← hW.out])
  go_wp2
  go_ret
  exact ⟨by rw [hroom.out]; rfl, hend.out.1, hend.out.2⟩

/-- The same timetable without a leg. -/
def WithoutRes (w : World) (n : Int) (L : List Leg) (i : Nat) (c : Int) (e : Ending) (w' : World) : Prop :=
  ∃ tb g off cap, e = .returned (.pointer (some ⟨tb, 0, none⟩)) ∧ TableIn w' tb n (some ⟨g, off, none⟩) (L.length - 1) cap c ∧ LegsIn w' (some ⟨g, off, none⟩) (L.eraseIdx i) ∧ Ext w w'
set_option maxRecDepth 100000 in
set_option maxHeartbeats 4000000 in
theorem without_calls (w : World) (tb : Nat) (n : Int) (b off cap : Nat) (L : List Leg) (c : Int) (i : Nat) (hT : TableIn w tb n (some ⟨b, off, none⟩) L.length cap c) (hL : LegsIn w (some ⟨b, off, none⟩) L) (hi : i < L.length) (hlen : L.length ≤ 100) :
    Calls Try.prog 63 #[.pointer (some ⟨tb, 0, none⟩), .int .i64 i] w (WithoutRes w n L i c) := by
  obtain ⟨htb, hn, hl, hc⟩ := hT
  go_enter Try.func63, Try.ntmps63
  go_wp2_with fail
  have hx1 : Ext w (w.alloc (Obj.cells #[Value.int IntKind.i64 n, Value.slice (some { block := b, off := off }) L.length cap, Value.int IntKind.i64 c] 81)) := (by repeat (first | exact Ext.refl _ | assumption | refine Ext.alloc ?_ _ | refine Ext.drewN ?_ _ | refine Ext.drew ?_))
  have hbox : ∀ j u, (#[Value.int IntKind.i64 n, Value.slice (some { block := b, off := off }) L.length cap, Value.int IntKind.i64 c])[j]? = some u → (w.alloc (Obj.cells #[Value.int IntKind.i64 n, Value.slice (some { block := b, off := off }) L.length cap, Value.int IntKind.i64 c] 81)).cell? ⟨w.heap.size, j, none⟩ = some u ∧ (w.alloc (Obj.cells #[Value.int IntKind.i64 n, Value.slice (some { block := b, off := off }) L.length cap, Value.int IntKind.i64 c] 81)).frozen? ⟨w.heap.size, j, none⟩ = false := by
    intro j u hu
    exact ⟨by simpa [go_sem] using hu, by simp [go_sem]⟩
  have hs1 : (w.alloc (Obj.cells #[Value.int IntKind.i64 n, Value.slice (some { block := b, off := off }) L.length cap, Value.int IntKind.i64 c] 81)).heap.size = w.heap.size + 1 := by simp
  generalize (w.alloc (Obj.cells #[Value.int IntKind.i64 n, Value.slice (some { block := b, off := off }) L.length cap, Value.int IntKind.i64 c] 81)) = w1 at *
  refine (clone_calls w1 b off cap L (hL.ext hx1) hlen).mono ?_
  rintro e w2 ⟨⟨v, rfl, hov⟩, hx2⟩
  obtain ⟨vo, vcap, rfl, hvl⟩ := hov.legsShape
  obtain ⟨g, goff, hvo, hgl, -⟩ := hvl i hi
  subst hvo
  have hgb := (hov.lt g rfl).1
  go_wp2_with fail
  have hij : (i : Int) + 1 = ((i + 1 : Nat) : Int) := by omega
  rw [hij]
  clear hij
  refine (delete_calls w2 _ g goff vcap L i (i + 1) rfl hov hi hlen).mono ?_
  rintro e w3 ⟨rfl, hdl, hg3⟩
  have hx3 : Ext w1 w3 := hx2.onto hg3 (fun k hk => by cases hk; omega)
  have hx03 := hx1.trans hx3
  have hb0 := hbox 0 _ rfl
  have hb1 := hbox 1 _ rfl
  have hb2 := hbox 2 _ rfl
  have c0 := (hx3.cell (p := ⟨w.heap.size, 0, none⟩) (by simp only; omega)).trans hb0.1
  have c1 := (hx3.cell (p := ⟨w.heap.size, 1, none⟩) (by simp only; omega)).trans hb1.1
  have c2 := (hx3.cell (p := ⟨w.heap.size, 2, none⟩) (by simp only; omega)).trans hb2.1
  have f1 := (hx3.frozen (p := ⟨w.heap.size, 1, none⟩) (by simp only; omega)).trans hb1.2
  have hs3 := hx3.size
  clear hbox
  go_wp2_with fail
  go_ret
  have hx4 : Ext w (w3.setCell ⟨w.heap.size, 1, none⟩ (.slice (some ⟨g, goff, none⟩) (L.length - 1) vcap)) := hx03.setOwn _ _ (Nat.le_refl _)
  refine ⟨w.heap.size, g, goff, vcap, rfl, ⟨by simp [World.setCell]; omega, ?_, World.cell?_setCell_same _ _ _ c1, ?_⟩, hdl.grown (grownBy_setCell _ _ _) (fun a ha => by cases ha; simp only [ne_eq, Option.some.injEq]; omega), hx4⟩
  · rw [World.cell?_setCell_other _ _ _ _ (by simp)]; exact c0
  · rw [World.cell?_setCell_other _ _ _ _ (by simp)]; exact c2
end Go.Proofs.Ytmmjjfjbhogfgaa
