/- Inspect: the comparison of a fraction with a value. -/
import Derived.Test.YtefmioppamdceaaDoorMKB
import Derived.Test.YtefmioppamdceaaDoorMWM
namespace Go.Proofs.YtefmioppamdceaaDoor
open Go.RowKit Go.Shelf

set_option maxRecDepth 100000 in
set_option maxHeartbeats 4000000 in
theorem compareI_calls (w : World) (num den vn vd : Int) (h1 : -9223372036854775808 < num ∧ num < 9223372036854775808) (h2 : -9223372036854775808 < den ∧ den < 9223372036854775808) (h3 : -9223372036854775808 < vn ∧ vn < 9223372036854775808) (h4 : -9223372036854775808 < vd ∧ vd < 9223372036854775808) :
    Calls Tryd.prog 63 #[.int .i64 num, .int .i64 den, .agg #[.int .i64 vn, .int .i64 vd]] w fun e w' => e = .returned (.int .i64 (cmpZ (num * vd) (vn * den))) ∧ Ext w w' := by
  have n1 := fun W => newInt_calls W num h1
  have n2 := fun W => newInt_calls W vd h4
  have n3 := fun W => newInt_calls W vn h3
  have n4 := fun W => newInt_calls W den h2
  have m1 := fun W N a b (hsp : IntSpot W N) (hA : BigAt W a num) (hB : BigAt W b vd) (hna : N ≠ a) (hnb : N ≠ b) => imul_calls W N a b num vd hsp hA hB (by omega) (by omega) hna hnb
  have m2 := fun W N a b (hsp : IntSpot W N) (hA : BigAt W a vn) (hB : BigAt W b den) (hna : N ≠ a) (hnb : N ≠ b) => imul_calls W N a b vn den hsp hA hB (by omega) (by omega) hna hnb
  have my1 : W.many (num * vd).natAbs ≤ 1000 := many_mul2 (by omega) (by omega)
  have my2 : W.many (vn * den).natAbs ≤ 1000 := many_mul2 (by omega) (by omega)
  clear h1 h2 h3 h4
  go_enter Tryd.func63, Tryd.ntmps63
  go_wp2_with fail
  obtain ⟨w1, hw1⟩ : ∃ w1, w1 = w.alloc (Obj.cells #[.int .i64 vn, .int .i64 vd] 23) := ⟨_, rfl⟩
  obtain ⟨V, hV⟩ : ∃ V, V = w.heap.size := ⟨_, rfl⟩
  have hx1 : Ext w w1 := by rw [hw1]; exact (by repeat (first | exact Ext.refl _ | assumption | refine Ext.alloc ?_ _ | refine Ext.drewN ?_ _ | refine Ext.drew ?_))
  have c0 : w1.cell? ⟨V, 0, none⟩ = some (.int .i64 vn) := by rw [hw1, hV]; simp [go_sem]
  have c1 : w1.cell? ⟨V, 1, none⟩ = some (.int .i64 vd) := by rw [hw1, hV]; simp [go_sem]
  have hVl : V < w1.heap.size := by rw [hw1, hV]; simp
  rw [← hw1, ← hV]
  clear hw1 hV
  have HC : Hid (∀ W2, Ext w1 W2 → W2.cell? ⟨V, 1, none⟩ = some (.int .i64 vd)) := Lib.hid (fun W2 h => (h.cell (p := ⟨V, 1, none⟩) hVl).trans c1)
  go_cut [7] (fun s7 wx => ∃ a, s7 = .pointer (some ⟨a, 0, none⟩) ∧ BigAt wx a (num * vd) ∧ Ext w1 wx)
  case first =>
    go_region_held3 (fun W2 => W2.cell? ⟨V, 1, none⟩ = some (.int .i64 vd))
      (exact HC.out _ (by repeat (with_reducible first | exact Ext.refl _ | assumption | refine Ext.alloc ?_ _ | refine Ext.drew ?_)))
      ((first
        | (go_at_call 58; (with_reducible refine Calls.mono (n2 _) ?_); rintro e v2 ⟨a2, rfl, ha2, hB2, hxW2⟩; have hxv12 : Ext v1 v2 := Ext.trans (by repeat (with_reducible first | exact Ext.refl _ | assumption | refine Ext.alloc ?_ _ | refine Ext.drew ?_)) hxW2; have hxv2 : Ext w1 v2 := hxv1.trans hxv12; (try (have ht1 := IntSpot.newed (hs1.1.ext (show Ext v1 _ from (by with_reducible first | exact Ext.refl _ | exact (Ext.refl _).drew | exact (Ext.refl _).alloc _ | exact ((Ext.refl _).alloc _).drew | exact ((Ext.refl _).drew).alloc _))) hxW2 ha2)); (try (have ht2 := IntSpot.newed ((IntSpot.ofNew v1 94).ext (show Ext _ _ from (by with_reducible first | exact Ext.refl _ | exact (Ext.refl _).drew | exact (Ext.refl _).alloc _ | exact ((Ext.refl _).alloc _).drew | exact ((Ext.refl _).drew).alloc _))) hxW2 ha2)))
        | (go_at_call 58; (with_reducible refine Calls.mono (n1 _) ?_); rintro e v1 ⟨a1, rfl, ha1, hB1, hxW1⟩; have hxv1 : Ext w1 v1 := Ext.trans (by repeat (with_reducible first | exact Ext.refl _ | assumption | refine Ext.alloc ?_ _ | refine Ext.drew ?_)) hxW1; (try (have hs1 := IntSpot.newed ((IntSpot.ofNew w1 94).ext (show Ext _ _ from (by with_reducible first | exact Ext.refl _ | exact (Ext.refl _).drew | exact (Ext.refl _).alloc _ | exact ((Ext.refl _).alloc _).drew | exact ((Ext.refl _).drew).alloc _))) hxW1 ha1)))
        | (go_at_call 57; (with_reducible refine Calls.mono (m1 _ _ _ _ ?_ ?_ ?_ ?_ ?_) ?_); (first | exact ht1.1.ext (by with_reducible first | exact Ext.refl _ | exact (Ext.refl _).drew | exact (Ext.refl _).alloc _ | exact ((Ext.refl _).alloc _).drew | exact ((Ext.refl _).drew).alloc _) | exact ht2.1.ext (by with_reducible first | exact Ext.refl _ | exact (Ext.refl _).drew | exact (Ext.refl _).alloc _ | exact ((Ext.refl _).alloc _).drew | exact ((Ext.refl _).drew).alloc _) | exact (IntSpot.ofNew v2 _).ext (by with_reducible first | exact Ext.refl _ | exact (Ext.refl _).drew | exact (Ext.refl _).alloc _ | exact ((Ext.refl _).alloc _).drew | exact ((Ext.refl _).drew).alloc _)); (exact (hB1.ext hxv12).ext (by with_reducible first | exact Ext.refl _ | exact (Ext.refl _).drew | exact (Ext.refl _).alloc _ | exact ((Ext.refl _).alloc _).drew | exact ((Ext.refl _).drew).alloc _)); (exact hB2.ext (by with_reducible first | exact Ext.refl _ | exact (Ext.refl _).drew | exact (Ext.refl _).alloc _ | exact ((Ext.refl _).alloc _).drew | exact ((Ext.refl _).drew).alloc _)); (first | exact hs1.2 | exact Nat.ne_of_gt hB1.spot.lt | exact Nat.ne_of_gt (Nat.lt_of_lt_of_le hB1.spot.lt hxv12.size)); (first | exact ht1.2 | exact ht2.2 | exact Nat.ne_of_gt hB2.spot.lt); rintro e v3 ⟨rfl, hg3, hB3⟩; have hxv3 : Ext w1 v3 := Ext.set (show Ext w1 _ from (by repeat (with_reducible first | exact Ext.refl _ | assumption | refine Ext.alloc ?_ _ | refine Ext.drew ?_))) hg3 (by first | exact Nat.le_refl _ | exact hxv1.size | exact hxv2.size))))
    all_goals
      go_wp2_with fail
      go_meet
      exact ⟨_, rfl, hB3, hxv3⟩
  case rest =>
    obtain ⟨P, rfl, hBP, hxx⟩ := hcut
    have c0 := (hxx.cell (p := ⟨V, 0, none⟩) hVl).trans c0
    have hVl := Nat.lt_of_lt_of_le hVl hxx.size
    clear n1 n2 m1 HC c1
    rename World => x0
    go_wp2_with fail
    have hxa : Ext x0 (x0.alloc (Obj.cells #[.bool false, .slice none 0 0] 94)) := (by repeat (first | exact Ext.refl _ | assumption | refine Ext.alloc ?_ _ | refine Ext.drewN ?_ _ | refine Ext.drew ?_))
    have hsN := IntSpot.ofNew x0 94
    have hPN : P < x0.heap.size := hBP.spot.lt
    obtain ⟨x1, hx1d⟩ : ∃ x, x = (x0.alloc (Obj.cells #[.bool false, .slice none 0 0] 94)) := ⟨_, rfl⟩
    obtain ⟨N, hN⟩ : ∃ N, N = x0.heap.size := ⟨_, rfl⟩
    rw [← hx1d, ← hN] at hsN ⊢
    rw [← hx1d] at hxa
    have hNx : x0.heap.size ≤ N := by omega
    rw [← hN] at hPN
    clear hx1d hN
    refine (n3 x1).mono ?_
    rintro e v4 ⟨a4, rfl, ha4, hB4, hx4⟩
    have hs := IntSpot.newed hsN hx4 ha4
    have c0 := ((hxa.trans hx4).cell (p := ⟨V, 0, none⟩) hVl).trans c0
    clear n3
    go_wp2_with fail
    refine (n4 v4).mono ?_
    rintro e v5 ⟨a5, rfl, ha5, hB5, hx5⟩
    have ht := IntSpot.newed hs.1 hx5 ha5
    clear n4
    go_wp2_with fail
    refine (m2 v5 N a4 a5 ht.1 (hB4.ext hx5) hB5 hs.2 ht.2).mono ?_
    rintro e v6 ⟨rfl, hg6, hB6⟩
    have hx05 := (hxa.trans hx4).trans hx5
    have hBP6 := (hBP.ext hx05).far ht.1 (Nat.ne_of_lt hPN) hg6
    have hx06 : Ext x0 v6 := hx05.set hg6 hNx
    clear m2
    go_wp2_with fail
    refine (icmp_calls v6 P N (num * vd) (vn * den) hBP6 hB6 my1 my2).mono ?_
    rintro e v7 ⟨rfl, hx7⟩
    go_wp2_with fail
    go_ret
    exact ⟨rfl, (hx1.trans hxx).trans (hx06.trans hx7)⟩
end Go.Proofs.YtefmioppamdceaaDoor

/- Inspect: a matrix turned. -/
namespace Go.Proofs.YtefmioppamdceaaDoor
open Go.RowKit Go.Shelf

/-- Rows that are being made: each in memory of its own. -/
structure TrnAt (w : World) (O m : Nat) (v : Nat → Value) (c : Nat → List Int) : Prop where
  lt : O < w.heap.size
  cell : ∀ j, j < m → w.cell? ⟨O, j, none⟩ = some (v j) ∧ w.frozen? ⟨O, j, none⟩ = false
  own : ∀ j, j < m → Own w (O + 1) 1 (v j) (ints (c j))
  sep : ∀ i j, i < m → j < m → i ≠ j → ∀ k, (v i).ownBlock = some k → (v j).ownBlock ≠ some k
theorem TrnAt.ext {w w' : World} {O m : Nat} {v : Nat → Value} {c : Nat → List Int} (h : TrnAt w O m v c) (hx : Ext w w') : TrnAt w' O m v c :=
  ⟨Nat.lt_of_lt_of_le h.lt hx.size, fun j hj => ⟨(hx.cell (p := ⟨O, j, none⟩) h.lt).trans (h.cell j hj).1, (hx.frozen (p := ⟨O, j, none⟩) h.lt).trans (h.cell j hj).2⟩, fun j hj => (h.own j hj).ext hx, h.sep⟩
def put1 {α : Type} (f : Nat → α) (j : Nat) (x : α) : Nat → α := fun i => if i = j then x else f i
theorem TrnAt.put {w w5 : World} {O m : Nat} {v : Nat → Value} {c : Nat → List Int} (h : TrnAt w O m v c) {j : Nat} (hj : j < m) {v' : Value} {xs : List Int} (ho : Own w5 (O + 1) 1 v' (ints xs)) (hg : w.grownBy w5 (v j).ownBlock)
    (hn : ∀ k, v'.ownBlock = some k → (v j).ownBlock = some k ∨ w.heap.size ≤ k) : TrnAt (w5.setCell ⟨O, j, none⟩ v') O m (put1 v j v') (put1 c j xs) := by
  have hO : some O ≠ (v j).ownBlock := fun e => by have := ((h.own j hj).lt O e.symm).1; omega
  have hc5 : ∀ i, i < m → w5.cell? ⟨O, i, none⟩ = some (v i) ∧ w5.frozen? ⟨O, i, none⟩ = false := fun i hi =>
    ⟨(grownBy_cell hg (p := ⟨O, i, none⟩) h.lt hO).trans (h.cell i hi).1, (grownBy_frozen hg (p := ⟨O, i, none⟩) h.lt hO).trans (h.cell i hi).2⟩
  refine ⟨by rw [World.size_setCell]; exact Nat.lt_of_lt_of_le h.lt hg.size, fun i hi => ?_, fun i hi => ?_, fun i k hi hk hik b hb => ?_⟩
  · unfold put1
    by_cases e : i = j
    · subst e
      rw [if_pos rfl]
      exact ⟨World.cell?_setCell_same _ _ _ (hc5 i hi).1, by rw [World.frozen?_setCell]; exact (hc5 i hi).2⟩
    · rw [if_neg e]
      exact ⟨by rw [World.cell?_setCell_other _ _ _ _ (by intro h; simp only [Addr.mk.injEq] at h; omega)]; exact (hc5 i hi).1, by rw [World.frozen?_setCell]; exact (hc5 i hi).2⟩
  · unfold put1
    by_cases e : i = j
    · subst e
      rw [if_pos rfl, if_pos rfl]
      exact ho.keep (grownBy_setCell w5 ⟨O, i, none⟩ v') (by right; intro e; have := (ho.lt O e).1; omega)
    · rw [if_neg e, if_neg e]
      have h1 := (h.own i hi).keep hg (by
        cases hv : (v i).ownBlock with
        | none => exact .inl rfl
        | some k => right; intro e2; exact h.sep i j hi hj e k hv e2.symm)
      exact h1.keep (grownBy_setCell w5 ⟨O, j, none⟩ v') (by right; intro e; have := (h1.lt O e).1; omega)
  · unfold put1 at hb ⊢
    by_cases e : i = j
    · subst e
      rw [if_pos rfl] at hb
      rw [if_neg (fun e2 => hik e2.symm)]
      intro e2
      rcases hn b hb with h1 | h1
      · exact h.sep i k hi hk hik b h1 e2
      · have := ((h.own k hk).lt b e2).2; omega
    · rw [if_neg e] at hb
      by_cases e3 : k = j
      · subst e3
        rw [if_pos rfl]
        intro e2
        rcases hn b e2 with h1 | h1
        · exact h.sep i k hi hk hik b hb h1
        · have := ((h.own i hi).lt b hb).2; omega
      · rw [if_neg e3]
        exact h.sep i k hi hk hik b hb
/-- The first k entries of a column. -/
def colI (g : List (List Int)) (k j : Nat) : List Int := (List.range k).map fun i => entI g i j
def turnG (g : List (List Int)) (m : Nat) : List (List Int) := (List.range m).map fun j => colI g g.length j
theorem TrnAt.game {w : World} {O m : Nat} {v : Nat → Value} {c : Nat → List Int} (h : TrnAt w O m v c) (g : List (List Int)) (hc : ∀ j, j < m → c j = colI g g.length j) : GameIn w (some ⟨O, 0, none⟩) (turnG g m) := by
  intro k hk
  have hk' : k < m := by simpa [turnG] using hk
  have hr : rowI (turnG g m) k = c k := by rw [hc k hk']; simp [rowI, turnG, hk']
  rw [hr]
  obtain ⟨ao, cap, hv, hI, -⟩ := (h.own k hk').intsShape
  obtain ⟨o, n, cp, hs, hle⟩ := (h.own k hk').shapeCap
  have h1 := (h.cell k hk').1
  rw [hv] at hs h1
  simp only [Value.slice.injEq] at hs
  refine ⟨O, 0, ao, cap, rfl, h.lt, by rw [Nat.zero_add]; exact h1, by omega, hI⟩
theorem info_irow : (Tryd.prog.info? 30).map (fun i => (i.zero, i.size, i.bytes)) = some (some (.slice none 0 0), 1, 24) := by kernel_rfl
theorem make_rows (n : Nat) (hn : n ≤ 100000) (W : World) : (Instr.makeSlice 48 (.int .i64 n) (.int .i64 n)).run Tryd.prog W = .ok (.slice (some ⟨W.heap.size, 0, none⟩) n n) (W.alloc (.cells (Array.replicate n (.slice none 0 0)) 30)) := by
  obtain ⟨i0, hi, hz0, hz1, hz2⟩ := info_parts info_irow
  have := run_make (P := Tryd.prog) W 48 30 i0 (.slice none 0 0) Tryd.underlying48 hi hz0 .i64 .i64 n n (by omega) (Int.le_refl _) (by rw [hz2]; omega) (by omega)
  rw [hz1, Nat.mul_one] at this
  have e : madeCells (Value.slice none 0 0).cells n = Array.replicate n (.slice none 0 0) := by
    refine Array.ext (by simp [madeCells, Value.cells]) (fun i h1 h2 => ?_)
    simp [madeCells, Value.cells, Nat.mod_one]
  rw [Int.toNat_natCast, e] at this
  exact this
theorem TrnAt.new (w : World) (m : Nat) (t : TypeId) : TrnAt (w.alloc (.cells (Array.replicate m (.slice none 0 0)) t)) w.heap.size m (fun _ => .slice none 0 0) (fun _ => []) :=
  ⟨by simp, fun j hj => by simp [go_sem, hj], fun j _ => Own.nil _ _ _, fun i j _ _ _ k hk => by simp [Value.ownBlock] at hk⟩
def MadeGame (w : World) (h : List (List Int)) (e : Ending) (w' : World) : Prop := ∃ O : Nat, e = .returned (.slice (some ⟨O, 0, none⟩) h.length h.length) ∧ w.heap.size ≤ O ∧ GameIn w' (some ⟨O, 0, none⟩) h ∧ Ext w w'
set_option maxRecDepth 100000 in
set_option maxHeartbeats 4000000 in
theorem turned_calls (w : World) (go : Option Addr) (gc : Nat) (g : List (List Int)) (m : Nat) (hG : GameIn w go g) (hn : 1 ≤ g.length ∧ g.length ≤ 1000) (hm : m ≤ 1000) (hr : ∀ k, k < g.length → (rowI g k).length = m) :
    Calls Tryd.prog 65 #[.slice go g.length gc] w (MadeGame w (turnG g m)) := by
  obtain ⟨i0, hi, hz0, hz1, hz2⟩ := info_parts info_int
  obtain ⟨gb, goff, ro, rc, rfl, hgl, hg0, hrc, -⟩ := hG 0 (by omega)
  rw [hr 0 (by omega), Nat.add_zero] at hg0
  have hmk := fun W => make_rows m (by omega) W
  have hz : (0 : Int) < (g.length : Int) := by omega
  have HR := Lib.hid hr
  have HTL : Hid (m = (turnG g m).length) := Lib.hid (by simp [turnG])
  unfold MadeGame
  rw [← HTL.out]
  clear hr
  go_enter Tryd.func65, Tryd.ntmps65
  go_wp2_with fail
  obtain ⟨w1, hw1⟩ : ∃ w1, w1 = w.alloc (.cells (Array.replicate m (.slice none 0 0)) 30) := ⟨_, rfl⟩
  obtain ⟨O, hO⟩ : ∃ O, O = w.heap.size := ⟨_, rfl⟩
  have hx1 : Ext w w1 := by rw [hw1]; exact (by repeat (first | exact Ext.refl _ | assumption | refine Ext.alloc ?_ _ | refine Ext.drewN ?_ _ | refine Ext.drew ?_))
  have hT0 : TrnAt w1 O m (fun _ => .slice none 0 0) (fun _ => []) := by rw [hw1, hO]; exact TrnAt.new _ _ _
  rw [← hw1, ← hO]
  have hOw : w.heap.size ≤ O := by omega
  clear hw1 hO hmk
  go_loopw [15] (fun iv wr => ∃ i : Nat, i ≤ g.length ∧ iv = .int .i64 i ∧ Ext w wr ∧ ∃ v, TrnAt wr O m v (fun k => colI g i k)) (fun iv _ => g.length - (intOf iv).toNat)
  case atStart => exact ⟨0, by omega, rfl, hx1, _, hT0⟩
  case round =>
    clear hT0 hx1 hg0 hgl hrc
    obtain ⟨i, hi', rfl, hx, v0, hT⟩ := hrel
    by_cases hlt : i < g.length
    · obtain ⟨gb2, goff2, ro, rc, hgo, hgl, hg0, hrc, hri⟩ := hG.ext hx i hlt
      simp only [Option.some.injEq, Addr.mk.injEq, and_true] at hgo
      obtain ⟨rfl, rfl⟩ := hgo
      rw [HR.out i hlt] at hg0
      have hIr : IntsIn w1 ro (rowI g i) ∨ True := .inr trivial
      clear hIr
      have HRI : Hid (∀ W2, Ext w W2 → ∀ j, j < m → ∃ b off, ro = some ⟨b, off, none⟩ ∧ b < W2.heap.size ∧ W2.cell? ⟨b, off + j, none⟩ = some (.int .i64 (entI g i j)) ∧ b < w.heap.size) := Lib.hid (fun W2 h j hj => by
        obtain ⟨gb3, goff3, ro3, rc3, hgo3, hgl3, hg3, -, hri3⟩ := hG i hlt
        simp only [Option.some.injEq, Addr.mk.injEq, and_true] at hgo3
        obtain ⟨rfl, rfl⟩ := hgo3
        have e := (hx.cell (p := ⟨_, _, none⟩) hgl3).trans hg3
        rw [hg0] at e
        simp only [Option.some.injEq, Value.slice.injEq] at e
        obtain ⟨b, off, hb1, hb2, hb3⟩ := hri3 j (by rw [HR.out i hlt]; exact hj)
        exact ⟨b, off, by rw [e.1]; exact hb1, Nat.lt_of_lt_of_le hb2 h.size, (h.cell (p := ⟨b, off + j, none⟩) hb2).trans hb3, hb2⟩)
      clear hrc hri
      go_wp2_with fail
      rename World => wq
      go_loopw [21] (fun jv wr => ∃ j : Nat, j ≤ m ∧ jv = .int .i64 j ∧ Ext w wr ∧ ∃ v, TrnAt wr O m v (fun k => colI g (if k < j then i + 1 else i) k)) (fun jv _ => m - (intOf jv).toNat)
      case atStart => exact ⟨0, by omega, rfl, hx, v0, by simpa using hT⟩
      case round =>
        clear hT hx hg0 hgl
        rename World => wz
        obtain ⟨j, hj, rfl, hx, v, hT⟩ := hrel
        by_cases hlt2 : j < m
        · obtain ⟨b, off, hro, hb, hc, -⟩ := HRI.out wz hx j hlt2
          subst hro
          obtain ⟨x, hxd⟩ : ∃ x, x = entI g i j := ⟨_, rfl⟩
          rw [← hxd] at hc
          have hcO := (hT.cell j hlt2).1
          have hown := hT.own j hlt2
          simp only [Nat.lt_irrefl, if_false] at hown
          have hcl : (colI g i j).length = i := by simp [colI]
          have HS : Hid (colI g i j ++ [x] = colI g (i + 1) j) := Lib.hid (by rw [hxd, colI, colI, List.range_succ, List.map_append]; rfl)
          have HTT := Lib.hid hT
          have hOl := hT.lt
          have HKO : Hid (∀ o w5, (wz.alloc o).grownBy w5 (v j).ownBlock → w5.cell? ⟨O, j, none⟩ = some (v j) ∧ w5.frozen? ⟨O, j, none⟩ = false) := Lib.hid (fun o w5 hg => by
            have hTa := HTT.out.ext ((Ext.refl wz).alloc o)
            have hO : some O ≠ (v j).ownBlock := fun e => by have := ((HTT.out.own j hlt2).lt O e.symm).1; omega
            exact ⟨(grownBy_cell hg (p := ⟨O, j, none⟩) hTa.lt hO).trans (hTa.cell j hlt2).1, (grownBy_frozen hg (p := ⟨O, j, none⟩) hTa.lt hO).trans (hTa.cell j hlt2).2⟩)
          have hjm : (j : Int) < (m : Int) := by omega
          clear hT hxd
          go_wp2_with (at_builtin; refine wpList_append_Own _ rfl _ _ 30 rfl 3 i0 (.int .i64 0) 1 8 Tryd.underlying30 hi hz0 hz1 hz2 rfl (by omega) (O + 1) _ (ints (colI g i j)) rfl (Own.ext hown ((Ext.refl _).alloc _)) (by simp; omega) _ 1 1 [.int .i64 x] rfl rfl (one_cell _ _ _ _ rfl) (by simp [Value.oneCell']) (by rw [ints_length, hcl]; unfold maxLen; simp only [List.length_cons, List.length_nil]; omega) (by rw [ints_length, hcl]; simp only [List.length_cons, List.length_nil]; omega) ?_; intro v5 w5 ho5 hg5 hb5; obtain ⟨no, nn, nc, rfl, -⟩ := ho5.shapeCap; have kO := (HKO.out _ w5 hg5).1; have kf := (HKO.out _ w5 hg5).2)
          have hTa := HTT.out.ext ((Ext.refl wz).alloc (Obj.cells #[.int .i64 x] 3))
          rw [ints_snoc, HS.out] at ho5
          have hp := hTa.put hlt2 ho5 hg5 hb5
          have e : (put1 (fun k => colI g (if k < j then i + 1 else i) k) j (colI g (i + 1) j)) = fun k => colI g (if k < j + 1 then i + 1 else i) k := by
            funext k
            unfold put1
            by_cases h1 : k = j
            · subst h1; rw [if_pos rfl, if_pos (by omega)]
            · rw [if_neg h1]
              show colI g (if k < j then i + 1 else i) k = _
              by_cases h2 : k < j
              · rw [if_pos h2, if_pos (by omega)]
              · rw [if_neg h2, if_neg (by omega)]
          rw [e] at hp
          have hx5 : Ext w w5 := (hx.alloc _).onto hg5 (fun q hq => by have := (hown.lt q hq).1; omega)
          exact ⟨⟨j + 1, by omega, by go_num, hx5.setOwn _ _ hOw, _, hp⟩, by simp only [intOf]; omega⟩
        · obtain rfl : j = m := by omega
          have e : ∀ k, k < j → (fun k => colI g (if k < j then i + 1 else i) k) k = colI g (i + 1) k := fun k hk => by
            show colI g (if k < j then i + 1 else i) k = _
            rw [if_pos hk]
          have hT2 : TrnAt wz O j v (fun k => colI g (i + 1) k) := ⟨hT.lt, hT.cell, fun k hk => by rw [← e k hk]; exact hT.own k hk, hT.sep⟩
          go_wp2_with fail
          exact ⟨⟨i + 1, by omega, by go_num, hx, v, hT2⟩, by simp only [intOf]; omega⟩
    · obtain rfl : i = g.length := by omega
      have hgm := hT.game g (fun k _ => rfl)
      go_wp2_with fail
      go_ret
      exact ⟨O, rfl, hOw, hgm, hx⟩
end Go.Proofs.YtefmioppamdceaaDoor
