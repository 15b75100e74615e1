/- The specification's net: seen. -/
import Derived.Test.YtmmjjfjbhogfgaaMFlowD
import Derived.Test.YtmmjjfjbhogfgaaMProfE
import Derived.BigRegion
namespace Go.Proofs.Ytmmjjfjbhogfgaa
open Go.RowKit
attribute [local go_sem] Leg.val run_store_fn

/-- The specification's net: two rows of rows. -/
structure NetS (w : World) (base ga oa gb ob n : Nat) (ra rb : Nat → Nat) (a : Nat → Nat → Bool) (B : Nat → Nat → Int) : Prop where
  topA : ga < w.heap.size
  topB : gb < w.heap.size
  gridA : Grid w base n n ra (fun i j => .bool (a i j))
  gridB : Grid w base n n rb (fun i j => .int .i64 (B i j))
  cellA : ∀ i, i < n → w.cell? ⟨ga, oa + i, none⟩ = some (.slice (some ⟨ra i, 0, none⟩) n n)
  cellB : ∀ i, i < n → w.cell? ⟨gb, ob + i, none⟩ = some (.slice (some ⟨rb i, 0, none⟩) n n)
  free : ∀ i, i < n → rb i ≠ ga ∧ rb i ≠ gb ∧ ∀ j, j < n → rb i ≠ ra j
theorem NetS.ext {w w' : World} {base ga oa gb ob n : Nat} {ra rb : Nat → Nat} {a : Nat → Nat → Bool} {B : Nat → Nat → Int} (h : NetS w base ga oa gb ob n ra rb a B) (hx : Ext w w') : NetS w' base ga oa gb ob n ra rb a B :=
  ⟨Nat.lt_of_lt_of_le h.topA hx.size, Nat.lt_of_lt_of_le h.topB hx.size, h.gridA.ext hx, h.gridB.ext hx, fun i hi => (hx.cell h.topA).trans (h.cellA i hi), fun i hi => (hx.cell h.topB).trans (h.cellB i hi), h.free⟩
theorem NetS.set {w : World} {base ga oa gb ob n : Nat} {ra rb : Nat → Nat} {a : Nat → Nat → Bool} {B : Nat → Nat → Int} (h : NetS w base ga oa gb ob n ra rb a B) {i j : Nat} (hi : i < n) (hj : j < n) (u : Int) :
    NetS (w.setCell ⟨rb i, j, none⟩ (.int .i64 u)) base ga oa gb ob n ra rb a (fun p q => if p = i ∧ q = j then u else B p q) := by
  have hf := h.free i hi
  refine ⟨by simpa [World.setCell] using h.topA, by simpa [World.setCell] using h.topB, h.gridA.grown (grownBy_setCell _ _ _) (fun k hk e => hf.2.2 k hk (by simp only [Option.some.injEq] at e; exact e.symm)), ?_, fun k hk => ?_, fun k hk => ?_, h.free⟩
  · have := h.gridB.set hi hj (.int .i64 u)
    refine ⟨this.low, this.apart, fun p q hp hq => ⟨?_, (this.cell p q hp hq).2⟩⟩
    rw [(this.cell p q hp hq).1]
    split <;> rfl
  · rw [World.cell?_setCell_other _ _ _ _ (fun e => hf.1 (by simp only [Addr.mk.injEq] at e; exact e.1))]; exact h.cellA k hk
  · rw [World.cell?_setCell_other _ _ _ _ (fun e => hf.2.1 (by simp only [Addr.mk.injEq] at e; exact e.1))]; exact h.cellB k hk

def SeenRes (w : World) (n : Nat) (P : Nat → Nat → Prop) (e : Ending) (w' : World) : Prop :=
  ∃ bk boff bcap bs q, e = .returned (.slice (some ⟨bk, boff, none⟩) n bcap) ∧ Own w' w.heap.size 1 (.slice (some ⟨bk, boff, none⟩) n bcap) (ints bs) ∧ QueueB n P bs [] q ∧ Ext w w'

set_option maxRecDepth 100000 in
set_option maxHeartbeats 16000000 in
theorem seen_calls (w : World) (base ga oa ca gb ob cb n : Nat) (ra rb : Nat → Nat) (av : Nat → Nat → Bool) (A : Nat → Nat → Prop) (B : Nat → Nat → Int) (hN : NetS w base ga oa gb ob n ra rb av B) (hA : ∀ u v, av u v = true ↔ A u v) (hn : n ≤ 1000) (hn2 : 2 ≤ n) (hB : ∀ u v, 0 ≤ B u v) :
    Calls Try.prog 92 #[.agg #[.slice (some ⟨ga, oa, none⟩) n ca, .slice (some ⟨gb, ob, none⟩) n cb]] w (SeenRes w n (Room A B)) := by
  have HA := Lib.hid hA
  have HB := Lib.hid hB
  clear hA hB
  obtain ⟨i0, hi, hz0, hz1, hz2⟩ := info_parts info_int
  go_enter Try.func92, Try.ntmps92
  go_wp2_with (at_make; refine wpList_make_Own _ rfl _ _ 25 rfl 3 i0 (.int .i64 0) Try.underlying25 hi hz0 hz1 rfl _ _ n rfl rfl rfl rfl (by rw [hz2]; omega) (by unfold maxLen; omega) ?_; intro bk boff bcap w1 ho1 hx1)
  rw [← replicate_zero] at ho1
  have hx01 : Ext w (w.alloc (Obj.cells #[Value.slice (some { block := ga, off := oa }) n ca, Value.slice (some { block := gb, off := ob }) n cb] 93)) := (by repeat (first | exact Ext.refl _ | assumption | refine Ext.alloc ?_ _ | refine Ext.drewN ?_ _ | refine Ext.drew ?_))
  have hc0 : (w.alloc (Obj.cells #[Value.slice (some { block := ga, off := oa }) n ca, Value.slice (some { block := gb, off := ob }) n cb] 93)).cell? ⟨w.heap.size, 0, none⟩ = some (.slice (some ⟨ga, oa, none⟩) n ca) := by simp [go_sem]
  have hc1 : (w.alloc (Obj.cells #[Value.slice (some { block := ga, off := oa }) n ca, Value.slice (some { block := gb, off := ob }) n cb] 93)).cell? ⟨w.heap.size, 1, none⟩ = some (.slice (some ⟨gb, ob, none⟩) n cb) := by simp [go_sem]
  have hfl : w.heap.size < (w.alloc (Obj.cells #[Value.slice (some { block := ga, off := oa }) n ca, Value.slice (some { block := gb, off := ob }) n cb] 93)).heap.size := by simp
  generalize (w.alloc (Obj.cells #[Value.slice (some { block := ga, off := oa }) n ca, Value.slice (some { block := gb, off := ob }) n cb] 93)) = W0 at *
  obtain ⟨fx, hfx⟩ : ∃ fx, fx = w.heap.size := ⟨_, rfl⟩
  rw [← hfx] at hc0 hc1 hfl ⊢
  clear hfx
  have hN0 := hN.ext hx01
  go_wp2_with fail
  go_loopw [4] (fun i ws => ∃ (k : Nat) (xs : List Int), k ≤ n ∧ i = .int .i64 k ∧ Ext W0 ws ∧ Own ws W0.heap.size 1 (.slice (some ⟨bk, boff, none⟩) n bcap) (ints xs) ∧ Hid (Minus n k xs)) (fun i _ => n - (intOf i).toNat)
  case atStart => exact ⟨0, _, by omega, rfl, hx1, ho1, Lib.hid ⟨by simp, fun j hj => by omega⟩⟩
  case round =>
    obtain ⟨k, xs, hk, rfl, hx, ho, HX⟩ := hrel
    have hxl := HX.out.1
    by_cases hlt : k < n
    · have hck := ho.intAt k (by omega)
      have hst := ho.setInt k (by omega) (-1)
      have hgl := (ho.lt bk rfl).1
      go_wp2_with fail
      refine ⟨⟨k + 1, _, by omega, rfl, hx.setOwn _ _ hgl, hst, Lib.hid ⟨by simpa using hxl, fun j hj hjn => ?_⟩⟩, by simp only [intOf]; omega⟩
      rw [ith_set _ _ _ _ (by omega)]
      split
      · rfl
      · exact HX.out.2 j (by omega) hjn
    · obtain rfl : n = k := by omega
      have hxs := HX.out.done
      subst hxs
      clear HX
      have hck := ho.intAt 0 (by simp; omega)
      rw [Nat.add_zero] at hck
      have hst := ho.setInt 0 (by simp; omega) 0
      rw [Nat.add_zero] at hst
      have hgl := ho.lt bk rfl
      have hnp : (0 : Int) < (n : Int) := by omega
      go_wp2_with fail
      have hx2 := hx.setOwn ⟨bk, boff, none⟩ (.int .i64 0) hgl.1
      obtain ⟨W, hW⟩ : ∃ W, W = (wr.setCell ⟨bk, boff, none⟩ (.int .i64 0)).heap.size := ⟨_, rfl⟩
      have hs2 : (wr.setCell ⟨bk, boff, none⟩ (.int .i64 0)).heap.size = wr.heap.size := by simp [World.setCell]
      have hx3 := hx2.alloc (.cells #[.int .i64 0] 3)
      have ho3 := hst.ext ((Ext.refl _).alloc (.cells #[.int .i64 0] 3))
      have hoo3 : Own ((wr.setCell ⟨bk, boff, none⟩ (.int .i64 0)).alloc (.cells #[.int .i64 0] 3)) W 1 (.slice (some ⟨W, 0, none⟩) 1 1) (ints (nats [0])) := by
        have := own_one (wr.setCell ⟨bk, boff, none⟩ (.int .i64 0)) (.int .i64 0) 3
        rw [← hW] at this
        exact this
      have hs3 : ((wr.setCell ⟨bk, boff, none⟩ (.int .i64 0)).alloc (.cells #[.int .i64 0] 3)).heap.size = W + 1 := by rw [hW]; simp
      have hbW : bk < W := by rw [hW, hs2]; exact hgl.2
      rw [← hs2, ← hW]
      generalize (wr.setCell ⟨bk, boff, none⟩ (.int .i64 0)).alloc (.cells #[.int .i64 0] 3) = w3 at *
      clear hck hst hgl hx2 hx ho ho1 hx1 hxl hlt hk hs2 hW
      go_loopg [6, 5] n (fun q idx lst ws => ∃ (i : Nat) (bs : List Int) (o : List Nat), idx = .int .i64 i ∧ i ≤ o.length ∧ i + q ≤ n ∧ Ext W0 ws ∧ W ≤ ws.heap.size ∧ Own ws W0.heap.size 1 (.slice (some ⟨bk, boff, none⟩) n bcap) (ints bs) ∧ Own ws W 1 lst (ints (nats o)) ∧ Hid (QueueB n (Room A B) bs (o.drop i) q))
      case atStart => exact ⟨0, _, [0], rfl, by simp, by omega, hx3, by omega, ho3, hoo3, Lib.hid (Bfs.start (by omega))⟩
      case round =>
        obtain ⟨i, bs, o, rfl, hio, hiq, hx, hWr, ho, hoo, HQ⟩ := hrel
        have hbsl := HQ.out.inn.len
        obtain ⟨to_, tcap, rfl, htin, htb2⟩ := hoo.intsShape
        rw [nats_length]
        by_cases hlt : i < o.length
        · obtain ⟨a, ha⟩ : ∃ a, a = o.getD i 0 := ⟨_, rfl⟩
          have hdr : o.drop i = a :: o.drop (i + 1) := by
            rw [List.drop_eq_getElem_cons hlt, ha, List.getD_eq_getElem?_getD, List.getElem?_eq_getElem hlt]
            rfl
          have hQ := HQ.out
          rw [hdr] at hQ
          have ham := (hQ.inn.queued a (by simp)).1
          have HP0 := Lib.hid hQ.pop
          obtain ⟨tg, toff, rfl, htg, hta⟩ := htin i (by rw [nats_length]; exact hlt)
          rw [ith_nats, ← ha] at hta
          clear hQ hdr ha HQ
          go_wp2_with fail
          go_loopw [8, 5] (fun jj lst ws => ∃ (j : Nat) (bs : List Int) (o : List Nat) (lv : Value), j ≤ n ∧ jj = .int .i64 j ∧ lv = lst ∧ Ext W0 ws ∧ W ≤ ws.heap.size ∧ Own ws W0.heap.size 1 (.slice (some ⟨bk, boff, none⟩) n bcap) (ints bs) ∧ Own ws W 1 lv (ints (nats o)) ∧ i < o.length ∧ Hid (PopB n (Room A B) bs a (o.drop (i + 1)) j gk)) (fun jj _ _ => n - (intOf jj).toNat)
          case atStart => exact ⟨0, bs, o, _, by omega, rfl, rfl, hx, hWr, ho, by simpa [nats_length] using hoo, hlt, HP0⟩
          case round =>
            clear HP0 hx hWr ho hoo htg htb2 htin hta hbsl hio
            obtain ⟨j, bs, o, lv, hj2, rfl, rfl, hx, hWr, ho, hoo, hio, HP⟩ := hrel
            have hbsl := HP.out.inn.len
            have hsum := HP.out.sum
            have htop := HP.out.top
            rw [List.length_drop] at hsum
            have hol : o.length ≤ n := by omega
            have hbx0 := (hx.cell (p := ⟨fx, 0, none⟩) hfl).trans hc0
            have hbx1 := (hx.cell (p := ⟨fx, 1, none⟩) hfl).trans hc1
            have hfx := Nat.lt_of_lt_of_le hfl hx.size
            by_cases hlt : j < n
            · have hNr := hN0.ext hx
              have htA := hNr.topA
              have htB := hNr.topB
              have hcA := hNr.cellA a ham
              have hcB := hNr.cellB a ham
              have hcBj := hNr.cellB j hlt
              have hgA := (hNr.gridA.cell a j ham hlt).1
              have hgB := (hNr.gridB.cell a j ham hlt).1
              have hgBj := (hNr.gridB.cell j a hlt ham).1
              have hlA := (hNr.gridA.low a ham).2
              have hlB := (hNr.gridB.low a ham).2
              have hlBj := (hNr.gridB.low j hlt).2
              clear hNr
              have hbj := ho.intAt j (by omega)
              obtain ⟨hbj, hfj⟩ := hbj
              have hgb := ho.lt bk rfl
              have hja : (j : Int) < (n : Int) := by omega
              have haa : (a : Int) < (n : Int) := by omega
              obtain ⟨lo, lc, rfl, -, -⟩ := hoo.intsShape
              rw [nats_length] at hoo ⊢
              by_cases h1 : 2 ≤ a
              · have d1 : decide ((2 : Int) ≤ (a : Int)) = true := by simp only [decide_eq_true_eq]; omega
                by_cases h2 : a % 2 = 0
                · have d2 : ((a : Int) % 2 == 0) = true := by simp only [beq_iff_eq]; omega
                  by_cases h3 : j = a + 1
                  · have d3 : ((j : Int) == (a : Int) + 1) = true := by simp only [beq_iff_eq]; omega
                    have HT : Hid (thr a j) := Lib.hid ⟨h1, h2, h3⟩
                    clear h1 h2 h3
                    cases hav : av a j with
                    | false =>
                      rw [hav] at hgA
                      cases hq : decide (0 < B j a) with
                      | true =>
                        have HR : Hid (Room A B a j) := Lib.hid (.inr (by simpa using hq))
                        cases hn : decide (ith bs j < 0) with
                        | false =>
                          have HK := Lib.hid (HP.out.skip (fun _ => by simp at hn; omega))
                          go_wp2_with fail
                          exact ⟨⟨j + 1, bs, o, _, by omega, rfl, rfl, hx, by omega, ho, hoo, hio, Lib.hid HK.out⟩, by simp only [intOf]; omega⟩
                        | true =>
                          have HK := Lib.hid (HP.out.add hlt HR.out (by simpa using hn))
                          have hst := ho.setInt j (by omega) (a : Int)
                          have hg4 := grownBy_setCell wr ⟨bk, boff + j, none⟩ (.int .i64 (a : Int))
                          have hoo4 := hoo.keep hg4 (by right; intro e; have := (hoo.lt bk e).1; omega)
                          have hx4 := hx.setOwn ⟨bk, boff + j, none⟩ (.int .i64 (a : Int)) hgb.1
                          have hs5 := hg4.size
                          go_wp2_with (at_builtin; refine wpList_append_Own _ rfl _ _ 25 rfl 3 i0 (.int .i64 0) 1 8 Try.underlying25 hi hz0 hz1 hz2 rfl (by omega) W _ _ rfl (Own.ext hoo4 ((Ext.refl _).alloc _)) (by simp; omega) _ 1 1 [.int .i64 (j : Int)] rfl rfl (one_cell _ _ _ _ (by simp [World.setCell])) (by simp [Value.oneCell']) (by simp [ints_length, nats_length]; unfold maxLen; omega) (by simp [ints_length, nats_length]; omega) ?_; intro v' w5 ho5 hg5 hb5)
                          have hx5 : Ext W0 w5 := (hx4.alloc _).onto hg5 (fun k hk => by have := (hoo4.lt k hk).1; omega)
                          have hor5 := (Own.ext hst ((Ext.refl _).alloc _)).keep hg5 (by
                            right
                            intro e
                            have := (hoo4.lt bk e.symm).1
                            omega)
                          have hs6 := hg5.size
                          simp only [World.size_alloc] at hs6
                          rw [ints_snoc, nats_snoc] at ho5
                          exact ⟨⟨j + 1, _, o ++ [j], _, by omega, rfl, rfl, hx5, by omega, hor5, ho5, by simp; omega, Lib.hid (by rw [List.drop_append_of_le_length (by omega)]; exact HK.out)⟩, by simp only [intOf]; omega⟩
                      | false =>
                        have HR : Hid (¬ Room A B a j) := Lib.hid (by
                          rintro (h | h)
                          · exact (fun h => by have := (HA.out _ _).2 h.1; rw [hav] at this; cases this) h
                          · simp at hq; omega)
                        have HK := Lib.hid (HP.out.skip (fun h => (HR.out h).elim))
                        cases hn : decide (ith bs j < 0) with
                        | false =>
                          go_wp2_with fail
                          exact ⟨⟨j + 1, bs, o, _, by omega, rfl, rfl, hx, by omega, ho, hoo, hio, Lib.hid HK.out⟩, by simp only [intOf]; omega⟩
                        | true =>
                          go_wp2_with fail
                          exact ⟨⟨j + 1, bs, o, _, by omega, rfl, rfl, hx, by omega, ho, hoo, hio, Lib.hid HK.out⟩, by simp only [intOf]; omega⟩
                    | true =>
                      rw [hav] at hgA
                      cases hz : (B a j == 0) with
                      | true =>
                        have HR : Hid (Room A B a j) := Lib.hid (.inl ⟨(HA.out _ _).1 hav, .inr (by simpa using hz)⟩)
                        cases hn : decide (ith bs j < 0) with
                        | false =>
                          have HK := Lib.hid (HP.out.skip (fun _ => by simp at hn; omega))
                          go_wp2_with fail
                          exact ⟨⟨j + 1, bs, o, _, by omega, rfl, rfl, hx, by omega, ho, hoo, hio, Lib.hid HK.out⟩, by simp only [intOf]; omega⟩
                        | true =>
                          have HK := Lib.hid (HP.out.add hlt HR.out (by simpa using hn))
                          have hst := ho.setInt j (by omega) (a : Int)
                          have hg4 := grownBy_setCell wr ⟨bk, boff + j, none⟩ (.int .i64 (a : Int))
                          have hoo4 := hoo.keep hg4 (by right; intro e; have := (hoo.lt bk e).1; omega)
                          have hx4 := hx.setOwn ⟨bk, boff + j, none⟩ (.int .i64 (a : Int)) hgb.1
                          have hs5 := hg4.size
                          go_wp2_with (at_builtin; refine wpList_append_Own _ rfl _ _ 25 rfl 3 i0 (.int .i64 0) 1 8 Try.underlying25 hi hz0 hz1 hz2 rfl (by omega) W _ _ rfl (Own.ext hoo4 ((Ext.refl _).alloc _)) (by simp; omega) _ 1 1 [.int .i64 (j : Int)] rfl rfl (one_cell _ _ _ _ (by simp [World.setCell])) (by simp [Value.oneCell']) (by simp [ints_length, nats_length]; unfold maxLen; omega) (by simp [ints_length, nats_length]; omega) ?_; intro v' w5 ho5 hg5 hb5)
                          have hx5 : Ext W0 w5 := (hx4.alloc _).onto hg5 (fun k hk => by have := (hoo4.lt k hk).1; omega)
                          have hor5 := (Own.ext hst ((Ext.refl _).alloc _)).keep hg5 (by
                            right
                            intro e
                            have := (hoo4.lt bk e.symm).1
                            omega)
                          have hs6 := hg5.size
                          simp only [World.size_alloc] at hs6
                          rw [ints_snoc, nats_snoc] at ho5
                          exact ⟨⟨j + 1, _, o ++ [j], _, by omega, rfl, rfl, hx5, by omega, hor5, ho5, by simp; omega, Lib.hid (by rw [List.drop_append_of_le_length (by omega)]; exact HK.out)⟩, by simp only [intOf]; omega⟩
                      | false =>
                        cases hq : decide (0 < B j a) with
                        | true =>
                          have HR : Hid (Room A B a j) := Lib.hid (.inr (by simpa using hq))
                          cases hn : decide (ith bs j < 0) with
                          | false =>
                            have HK := Lib.hid (HP.out.skip (fun _ => by simp at hn; omega))
                            go_wp2_with fail
                            exact ⟨⟨j + 1, bs, o, _, by omega, rfl, rfl, hx, by omega, ho, hoo, hio, Lib.hid HK.out⟩, by simp only [intOf]; omega⟩
                          | true =>
                            have HK := Lib.hid (HP.out.add hlt HR.out (by simpa using hn))
                            have hst := ho.setInt j (by omega) (a : Int)
                            have hg4 := grownBy_setCell wr ⟨bk, boff + j, none⟩ (.int .i64 (a : Int))
                            have hoo4 := hoo.keep hg4 (by right; intro e; have := (hoo.lt bk e).1; omega)
                            have hx4 := hx.setOwn ⟨bk, boff + j, none⟩ (.int .i64 (a : Int)) hgb.1
                            have hs5 := hg4.size
                            go_wp2_with (at_builtin; refine wpList_append_Own _ rfl _ _ 25 rfl 3 i0 (.int .i64 0) 1 8 Try.underlying25 hi hz0 hz1 hz2 rfl (by omega) W _ _ rfl (Own.ext hoo4 ((Ext.refl _).alloc _)) (by simp; omega) _ 1 1 [.int .i64 (j : Int)] rfl rfl (one_cell _ _ _ _ (by simp [World.setCell])) (by simp [Value.oneCell']) (by simp [ints_length, nats_length]; unfold maxLen; omega) (by simp [ints_length, nats_length]; omega) ?_; intro v' w5 ho5 hg5 hb5)
                            have hx5 : Ext W0 w5 := (hx4.alloc _).onto hg5 (fun k hk => by have := (hoo4.lt k hk).1; omega)
                            have hor5 := (Own.ext hst ((Ext.refl _).alloc _)).keep hg5 (by
                              right
                              intro e
                              have := (hoo4.lt bk e.symm).1
                              omega)
                            have hs6 := hg5.size
                            simp only [World.size_alloc] at hs6
                            rw [ints_snoc, nats_snoc] at ho5
                            exact ⟨⟨j + 1, _, o ++ [j], _, by omega, rfl, rfl, hx5, by omega, hor5, ho5, by simp; omega, Lib.hid (by rw [List.drop_append_of_le_length (by omega)]; exact HK.out)⟩, by simp only [intOf]; omega⟩
                        | false =>
                          have HR : Hid (¬ Room A B a j) := Lib.hid (by
                            rintro (h | h)
                            · exact (fun h => h.2.elim (fun h => h HT.out) (fun h => by rw [h] at hz; simp at hz)) h
                            · simp at hq; omega)
                          have HK := Lib.hid (HP.out.skip (fun h => (HR.out h).elim))
                          cases hn : decide (ith bs j < 0) with
                          | false =>
                            go_wp2_with fail
                            exact ⟨⟨j + 1, bs, o, _, by omega, rfl, rfl, hx, by omega, ho, hoo, hio, Lib.hid HK.out⟩, by simp only [intOf]; omega⟩
                          | true =>
                            go_wp2_with fail
                            exact ⟨⟨j + 1, bs, o, _, by omega, rfl, rfl, hx, by omega, ho, hoo, hio, Lib.hid HK.out⟩, by simp only [intOf]; omega⟩
                  · have d3 : ((j : Int) == (a : Int) + 1) = false := by simp only [beq_eq_false_iff_ne]; omega
                    have HT : Hid (¬ thr a j) := Lib.hid (fun h => h3 h.2.2)
                    clear h1 h2 h3
                    cases hav : av a j with
                    | false =>
                      rw [hav] at hgA
                      cases hq : decide (0 < B j a) with
                      | true =>
                        have HR : Hid (Room A B a j) := Lib.hid (.inr (by simpa using hq))
                        cases hn : decide (ith bs j < 0) with
                        | false =>
                          have HK := Lib.hid (HP.out.skip (fun _ => by simp at hn; omega))
                          go_wp2_with fail
                          exact ⟨⟨j + 1, bs, o, _, by omega, rfl, rfl, hx, by omega, ho, hoo, hio, Lib.hid HK.out⟩, by simp only [intOf]; omega⟩
                        | true =>
                          have HK := Lib.hid (HP.out.add hlt HR.out (by simpa using hn))
                          have hst := ho.setInt j (by omega) (a : Int)
                          have hg4 := grownBy_setCell wr ⟨bk, boff + j, none⟩ (.int .i64 (a : Int))
                          have hoo4 := hoo.keep hg4 (by right; intro e; have := (hoo.lt bk e).1; omega)
                          have hx4 := hx.setOwn ⟨bk, boff + j, none⟩ (.int .i64 (a : Int)) hgb.1
                          have hs5 := hg4.size
                          go_wp2_with (at_builtin; refine wpList_append_Own _ rfl _ _ 25 rfl 3 i0 (.int .i64 0) 1 8 Try.underlying25 hi hz0 hz1 hz2 rfl (by omega) W _ _ rfl (Own.ext hoo4 ((Ext.refl _).alloc _)) (by simp; omega) _ 1 1 [.int .i64 (j : Int)] rfl rfl (one_cell _ _ _ _ (by simp [World.setCell])) (by simp [Value.oneCell']) (by simp [ints_length, nats_length]; unfold maxLen; omega) (by simp [ints_length, nats_length]; omega) ?_; intro v' w5 ho5 hg5 hb5)
                          have hx5 : Ext W0 w5 := (hx4.alloc _).onto hg5 (fun k hk => by have := (hoo4.lt k hk).1; omega)
                          have hor5 := (Own.ext hst ((Ext.refl _).alloc _)).keep hg5 (by
                            right
                            intro e
                            have := (hoo4.lt bk e.symm).1
                            omega)
                          have hs6 := hg5.size
                          simp only [World.size_alloc] at hs6
                          rw [ints_snoc, nats_snoc] at ho5
                          exact ⟨⟨j + 1, _, o ++ [j], _, by omega, rfl, rfl, hx5, by omega, hor5, ho5, by simp; omega, Lib.hid (by rw [List.drop_append_of_le_length (by omega)]; exact HK.out)⟩, by simp only [intOf]; omega⟩
                      | false =>
                        have HR : Hid (¬ Room A B a j) := Lib.hid (by
                          rintro (h | h)
                          · exact (fun h => by have := (HA.out _ _).2 h.1; rw [hav] at this; cases this) h
                          · simp at hq; omega)
                        have HK := Lib.hid (HP.out.skip (fun h => (HR.out h).elim))
                        cases hn : decide (ith bs j < 0) with
                        | false =>
                          go_wp2_with fail
                          exact ⟨⟨j + 1, bs, o, _, by omega, rfl, rfl, hx, by omega, ho, hoo, hio, Lib.hid HK.out⟩, by simp only [intOf]; omega⟩
                        | true =>
                          go_wp2_with fail
                          exact ⟨⟨j + 1, bs, o, _, by omega, rfl, rfl, hx, by omega, ho, hoo, hio, Lib.hid HK.out⟩, by simp only [intOf]; omega⟩
                    | true =>
                      rw [hav] at hgA
                      have HR : Hid (Room A B a j) := Lib.hid (.inl ⟨(HA.out _ _).1 hav, .inl HT.out⟩)
                      cases hn : decide (ith bs j < 0) with
                      | false =>
                        have HK := Lib.hid (HP.out.skip (fun _ => by simp at hn; omega))
                        go_wp2_with fail
                        exact ⟨⟨j + 1, bs, o, _, by omega, rfl, rfl, hx, by omega, ho, hoo, hio, Lib.hid HK.out⟩, by simp only [intOf]; omega⟩
                      | true =>
                        have HK := Lib.hid (HP.out.add hlt HR.out (by simpa using hn))
                        have hst := ho.setInt j (by omega) (a : Int)
                        have hg4 := grownBy_setCell wr ⟨bk, boff + j, none⟩ (.int .i64 (a : Int))
                        have hoo4 := hoo.keep hg4 (by right; intro e; have := (hoo.lt bk e).1; omega)
                        have hx4 := hx.setOwn ⟨bk, boff + j, none⟩ (.int .i64 (a : Int)) hgb.1
                        have hs5 := hg4.size
                        go_wp2_with (at_builtin; refine wpList_append_Own _ rfl _ _ 25 rfl 3 i0 (.int .i64 0) 1 8 Try.underlying25 hi hz0 hz1 hz2 rfl (by omega) W _ _ rfl (Own.ext hoo4 ((Ext.refl _).alloc _)) (by simp; omega) _ 1 1 [.int .i64 (j : Int)] rfl rfl (one_cell _ _ _ _ (by simp [World.setCell])) (by simp [Value.oneCell']) (by simp [ints_length, nats_length]; unfold maxLen; omega) (by simp [ints_length, nats_length]; omega) ?_; intro v' w5 ho5 hg5 hb5)
                        have hx5 : Ext W0 w5 := (hx4.alloc _).onto hg5 (fun k hk => by have := (hoo4.lt k hk).1; omega)
                        have hor5 := (Own.ext hst ((Ext.refl _).alloc _)).keep hg5 (by
                          right
                          intro e
                          have := (hoo4.lt bk e.symm).1
                          omega)
                        have hs6 := hg5.size
                        simp only [World.size_alloc] at hs6
                        rw [ints_snoc, nats_snoc] at ho5
                        exact ⟨⟨j + 1, _, o ++ [j], _, by omega, rfl, rfl, hx5, by omega, hor5, ho5, by simp; omega, Lib.hid (by rw [List.drop_append_of_le_length (by omega)]; exact HK.out)⟩, by simp only [intOf]; omega⟩
                · have d2 : ((a : Int) % 2 == 0) = false := by simp only [beq_eq_false_iff_ne]; omega
                  have HT : Hid (¬ thr a j) := Lib.hid (fun h => h2 h.2.1)
                  clear h1 h2
                  cases hav : av a j with
                  | false =>
                    rw [hav] at hgA
                    cases hq : decide (0 < B j a) with
                    | true =>
                      have HR : Hid (Room A B a j) := Lib.hid (.inr (by simpa using hq))
                      cases hn : decide (ith bs j < 0) with
                      | false =>
                        have HK := Lib.hid (HP.out.skip (fun _ => by simp at hn; omega))
                        go_wp2_with fail
                        exact ⟨⟨j + 1, bs, o, _, by omega, rfl, rfl, hx, by omega, ho, hoo, hio, Lib.hid HK.out⟩, by simp only [intOf]; omega⟩
                      | true =>
                        have HK := Lib.hid (HP.out.add hlt HR.out (by simpa using hn))
                        have hst := ho.setInt j (by omega) (a : Int)
                        have hg4 := grownBy_setCell wr ⟨bk, boff + j, none⟩ (.int .i64 (a : Int))
                        have hoo4 := hoo.keep hg4 (by right; intro e; have := (hoo.lt bk e).1; omega)
                        have hx4 := hx.setOwn ⟨bk, boff + j, none⟩ (.int .i64 (a : Int)) hgb.1
                        have hs5 := hg4.size
                        go_wp2_with (at_builtin; refine wpList_append_Own _ rfl _ _ 25 rfl 3 i0 (.int .i64 0) 1 8 Try.underlying25 hi hz0 hz1 hz2 rfl (by omega) W _ _ rfl (Own.ext hoo4 ((Ext.refl _).alloc _)) (by simp; omega) _ 1 1 [.int .i64 (j : Int)] rfl rfl (one_cell _ _ _ _ (by simp [World.setCell])) (by simp [Value.oneCell']) (by simp [ints_length, nats_length]; unfold maxLen; omega) (by simp [ints_length, nats_length]; omega) ?_; intro v' w5 ho5 hg5 hb5)
                        have hx5 : Ext W0 w5 := (hx4.alloc _).onto hg5 (fun k hk => by have := (hoo4.lt k hk).1; omega)
                        have hor5 := (Own.ext hst ((Ext.refl _).alloc _)).keep hg5 (by
                          right
                          intro e
                          have := (hoo4.lt bk e.symm).1
                          omega)
                        have hs6 := hg5.size
                        simp only [World.size_alloc] at hs6
                        rw [ints_snoc, nats_snoc] at ho5
                        exact ⟨⟨j + 1, _, o ++ [j], _, by omega, rfl, rfl, hx5, by omega, hor5, ho5, by simp; omega, Lib.hid (by rw [List.drop_append_of_le_length (by omega)]; exact HK.out)⟩, by simp only [intOf]; omega⟩
                    | false =>
                      have HR : Hid (¬ Room A B a j) := Lib.hid (by
                        rintro (h | h)
                        · exact (fun h => by have := (HA.out _ _).2 h.1; rw [hav] at this; cases this) h
                        · simp at hq; omega)
                      have HK := Lib.hid (HP.out.skip (fun h => (HR.out h).elim))
                      cases hn : decide (ith bs j < 0) with
                      | false =>
                        go_wp2_with fail
                        exact ⟨⟨j + 1, bs, o, _, by omega, rfl, rfl, hx, by omega, ho, hoo, hio, Lib.hid HK.out⟩, by simp only [intOf]; omega⟩
                      | true =>
                        go_wp2_with fail
                        exact ⟨⟨j + 1, bs, o, _, by omega, rfl, rfl, hx, by omega, ho, hoo, hio, Lib.hid HK.out⟩, by simp only [intOf]; omega⟩
                  | true =>
                    rw [hav] at hgA
                    have HR : Hid (Room A B a j) := Lib.hid (.inl ⟨(HA.out _ _).1 hav, .inl HT.out⟩)
                    cases hn : decide (ith bs j < 0) with
                    | false =>
                      have HK := Lib.hid (HP.out.skip (fun _ => by simp at hn; omega))
                      go_wp2_with fail
                      exact ⟨⟨j + 1, bs, o, _, by omega, rfl, rfl, hx, by omega, ho, hoo, hio, Lib.hid HK.out⟩, by simp only [intOf]; omega⟩
                    | true =>
                      have HK := Lib.hid (HP.out.add hlt HR.out (by simpa using hn))
                      have hst := ho.setInt j (by omega) (a : Int)
                      have hg4 := grownBy_setCell wr ⟨bk, boff + j, none⟩ (.int .i64 (a : Int))
                      have hoo4 := hoo.keep hg4 (by right; intro e; have := (hoo.lt bk e).1; omega)
                      have hx4 := hx.setOwn ⟨bk, boff + j, none⟩ (.int .i64 (a : Int)) hgb.1
                      have hs5 := hg4.size
                      go_wp2_with (at_builtin; refine wpList_append_Own _ rfl _ _ 25 rfl 3 i0 (.int .i64 0) 1 8 Try.underlying25 hi hz0 hz1 hz2 rfl (by omega) W _ _ rfl (Own.ext hoo4 ((Ext.refl _).alloc _)) (by simp; omega) _ 1 1 [.int .i64 (j : Int)] rfl rfl (one_cell _ _ _ _ (by simp [World.setCell])) (by simp [Value.oneCell']) (by simp [ints_length, nats_length]; unfold maxLen; omega) (by simp [ints_length, nats_length]; omega) ?_; intro v' w5 ho5 hg5 hb5)
                      have hx5 : Ext W0 w5 := (hx4.alloc _).onto hg5 (fun k hk => by have := (hoo4.lt k hk).1; omega)
                      have hor5 := (Own.ext hst ((Ext.refl _).alloc _)).keep hg5 (by
                        right
                        intro e
                        have := (hoo4.lt bk e.symm).1
                        omega)
                      have hs6 := hg5.size
                      simp only [World.size_alloc] at hs6
                      rw [ints_snoc, nats_snoc] at ho5
                      exact ⟨⟨j + 1, _, o ++ [j], _, by omega, rfl, rfl, hx5, by omega, hor5, ho5, by simp; omega, Lib.hid (by rw [List.drop_append_of_le_length (by omega)]; exact HK.out)⟩, by simp only [intOf]; omega⟩
              · have d1 : decide ((2 : Int) ≤ (a : Int)) = false := by simp only [decide_eq_false_iff_not]; omega
                have HT : Hid (¬ thr a j) := Lib.hid (fun h => h1 h.1)
                clear h1
                cases hav : av a j with
                | false =>
                  rw [hav] at hgA
                  cases hq : decide (0 < B j a) with
                  | true =>
                    have HR : Hid (Room A B a j) := Lib.hid (.inr (by simpa using hq))
                    cases hn : decide (ith bs j < 0) with
                    | false =>
                      have HK := Lib.hid (HP.out.skip (fun _ => by simp at hn; omega))
                      go_wp2_with fail
                      exact ⟨⟨j + 1, bs, o, _, by omega, rfl, rfl, hx, by omega, ho, hoo, hio, Lib.hid HK.out⟩, by simp only [intOf]; omega⟩
                    | true =>
                      have HK := Lib.hid (HP.out.add hlt HR.out (by simpa using hn))
                      have hst := ho.setInt j (by omega) (a : Int)
                      have hg4 := grownBy_setCell wr ⟨bk, boff + j, none⟩ (.int .i64 (a : Int))
                      have hoo4 := hoo.keep hg4 (by right; intro e; have := (hoo.lt bk e).1; omega)
                      have hx4 := hx.setOwn ⟨bk, boff + j, none⟩ (.int .i64 (a : Int)) hgb.1
                      have hs5 := hg4.size
                      go_wp2_with (at_builtin; refine wpList_append_Own _ rfl _ _ 25 rfl 3 i0 (.int .i64 0) 1 8 Try.underlying25 hi hz0 hz1 hz2 rfl (by omega) W _ _ rfl (Own.ext hoo4 ((Ext.refl _).alloc _)) (by simp; omega) _ 1 1 [.int .i64 (j : Int)] rfl rfl (one_cell _ _ _ _ (by simp [World.setCell])) (by simp [Value.oneCell']) (by simp [ints_length, nats_length]; unfold maxLen; omega) (by simp [ints_length, nats_length]; omega) ?_; intro v' w5 ho5 hg5 hb5)
                      have hx5 : Ext W0 w5 := (hx4.alloc _).onto hg5 (fun k hk => by have := (hoo4.lt k hk).1; omega)
                      have hor5 := (Own.ext hst ((Ext.refl _).alloc _)).keep hg5 (by
                        right
                        intro e
                        have := (hoo4.lt bk e.symm).1
                        omega)
                      have hs6 := hg5.size
                      simp only [World.size_alloc] at hs6
                      rw [ints_snoc, nats_snoc] at ho5
                      exact ⟨⟨j + 1, _, o ++ [j], _, by omega, rfl, rfl, hx5, by omega, hor5, ho5, by simp; omega, Lib.hid (by rw [List.drop_append_of_le_length (by omega)]; exact HK.out)⟩, by simp only [intOf]; omega⟩
                  | false =>
                    have HR : Hid (¬ Room A B a j) := Lib.hid (by
                      rintro (h | h)
                      · exact (fun h => by have := (HA.out _ _).2 h.1; rw [hav] at this; cases this) h
                      · simp at hq; omega)
                    have HK := Lib.hid (HP.out.skip (fun h => (HR.out h).elim))
                    cases hn : decide (ith bs j < 0) with
                    | false =>
                      go_wp2_with fail
                      exact ⟨⟨j + 1, bs, o, _, by omega, rfl, rfl, hx, by omega, ho, hoo, hio, Lib.hid HK.out⟩, by simp only [intOf]; omega⟩
                    | true =>
                      go_wp2_with fail
                      exact ⟨⟨j + 1, bs, o, _, by omega, rfl, rfl, hx, by omega, ho, hoo, hio, Lib.hid HK.out⟩, by simp only [intOf]; omega⟩
                | true =>
                  rw [hav] at hgA
                  have HR : Hid (Room A B a j) := Lib.hid (.inl ⟨(HA.out _ _).1 hav, .inl HT.out⟩)
                  cases hn : decide (ith bs j < 0) with
                  | false =>
                    have HK := Lib.hid (HP.out.skip (fun _ => by simp at hn; omega))
                    go_wp2_with fail
                    exact ⟨⟨j + 1, bs, o, _, by omega, rfl, rfl, hx, by omega, ho, hoo, hio, Lib.hid HK.out⟩, by simp only [intOf]; omega⟩
                  | true =>
                    have HK := Lib.hid (HP.out.add hlt HR.out (by simpa using hn))
                    have hst := ho.setInt j (by omega) (a : Int)
                    have hg4 := grownBy_setCell wr ⟨bk, boff + j, none⟩ (.int .i64 (a : Int))
                    have hoo4 := hoo.keep hg4 (by right; intro e; have := (hoo.lt bk e).1; omega)
                    have hx4 := hx.setOwn ⟨bk, boff + j, none⟩ (.int .i64 (a : Int)) hgb.1
                    have hs5 := hg4.size
                    go_wp2_with (at_builtin; refine wpList_append_Own _ rfl _ _ 25 rfl 3 i0 (.int .i64 0) 1 8 Try.underlying25 hi hz0 hz1 hz2 rfl (by omega) W _ _ rfl (Own.ext hoo4 ((Ext.refl _).alloc _)) (by simp; omega) _ 1 1 [.int .i64 (j : Int)] rfl rfl (one_cell _ _ _ _ (by simp [World.setCell])) (by simp [Value.oneCell']) (by simp [ints_length, nats_length]; unfold maxLen; omega) (by simp [ints_length, nats_length]; omega) ?_; intro v' w5 ho5 hg5 hb5)
                    have hx5 : Ext W0 w5 := (hx4.alloc _).onto hg5 (fun k hk => by have := (hoo4.lt k hk).1; omega)
                    have hor5 := (Own.ext hst ((Ext.refl _).alloc _)).keep hg5 (by
                      right
                      intro e
                      have := (hoo4.lt bk e.symm).1
                      omega)
                    have hs6 := hg5.size
                    simp only [World.size_alloc] at hs6
                    rw [ints_snoc, nats_snoc] at ho5
                    exact ⟨⟨j + 1, _, o ++ [j], _, by omega, rfl, rfl, hx5, by omega, hor5, ho5, by simp; omega, Lib.hid (by rw [List.drop_append_of_le_length (by omega)]; exact HK.out)⟩, by simp only [intOf]; omega⟩
            · obtain rfl : n = j := by omega
              have hh := HP.out.end_
              go_wp2_with fail
              go_roundg (gk - 1)
              case measure => exact hh.2
              case rel => exact ⟨i + 1, bs, o, rfl, hio, by omega, hx, hWr, ho, hoo, Lib.hid hh.1⟩
        · obtain rfl : i = o.length := by omega
          have HD := HQ.out
          rw [List.drop_length] at HD
          have HD' := Lib.hid HD
          clear HD
          go_wp2_with fail
          go_ret
          exact ⟨bk, boff, bcap, bs, gk, rfl, ho.rebase hx01.size, HD'.out, hx01.trans hx⟩
end Go.Proofs.Ytmmjjfjbhogfgaa

/- The specification's net: one more is let through. -/
namespace Go.Proofs.Ytmmjjfjbhogfgaa
open Go.RowKit
attribute [local go_sem] Leg.val run_store_fn

/-- All but some rows is as it was. -/
structure SameBut (w ws : World) (n : Nat) (rb : Nat → Nat) : Prop where
  size : w.heap.size ≤ ws.heap.size
  cell : ∀ b o, b < w.heap.size → (∀ i, i < n → b ≠ rb i) → ws.cell? ⟨b, o, none⟩ = w.cell? ⟨b, o, none⟩
theorem SameBut.of {w ws : World} {n : Nat} {rb : Nat → Nat} (h : Ext w ws) : SameBut w ws n rb := ⟨h.size, fun _ _ hb _ => h.cell hb⟩
theorem SameBut.ext {w ws ws' : World} {n : Nat} {rb : Nat → Nat} (h : SameBut w ws n rb) (hx : Ext ws ws') : SameBut w ws' n rb :=
  ⟨Nat.le_trans h.size hx.size, fun b o hb hn => (hx.cell (p := ⟨b, o, none⟩) (Nat.lt_of_lt_of_le hb h.size)).trans (h.cell b o hb hn)⟩
theorem SameBut.set {w ws : World} {n : Nat} {rb : Nat → Nat} (h : SameBut w ws n rb) {i j : Nat} (hi : i < n) (u : Value) : SameBut w (ws.setCell ⟨rb i, j, none⟩ u) n rb :=
  ⟨by simpa [World.setCell] using h.size, fun b o hb hn => by
    rw [World.cell?_setCell_other _ _ _ _ (fun e => hn i hi (by simp only [Addr.mk.injEq] at e; exact e.1.symm))]
    exact h.cell b o hb hn⟩
def MoreSRes (w0 w : World) (ga oa gb ob n : Nat) (ra rb : Nat → Nat) (av : Nat → Nat → Bool) (A : Nat → Nat → Prop) (B : Nat → Nat → Int) (k : Int) (e : Ending) (w' : World) : Prop :=
  (e = .returned (.bool false) ∧ NetS w' w0.heap.size ga oa gb ob n ra rb av B ∧ Stuck n (Room A B) ∧ Ext w0 w') ∨
  ∃ B' rk, e = .returned (.bool true) ∧ NetS w' w0.heap.size ga oa gb ob n ra rb av B' ∧ AugS n A B rk k 0 B' ∧ SameBut w w' n rb ∧ Ext w0 w'

set_option maxRecDepth 100000 in
set_option maxHeartbeats 16000000 in
theorem moreS_calls (w0 w : World) (ga oa ca gb ob cb n : Nat) (ra rb : Nat → Nat) (av : Nat → Nat → Bool) (A : Nat → Nat → Prop) (B : Nat → Nat → Int) (k : Int) (hx0 : Ext w0 w) (hN : NetS w w0.heap.size ga oa gb ob n ra rb av B) (hA : ∀ u v, av u v = true ↔ A u v) (hn : n ≤ 1000) (hn2 : 2 ≤ n) (hF : FlowedS n A B k) (hk : 0 ≤ k ∧ k ≤ 100000) :
    Calls Try.prog 67 #[.agg #[.slice (some ⟨ga, oa, none⟩) n ca, .slice (some ⟨gb, ob, none⟩) n cb]] w (MoreSRes w0 w ga oa gb ob n ra rb av A B k) := by
  have HFl := Lib.hid hF
  have HA := Lib.hid hA
  clear hF hA
  go_enter Try.func67, Try.ntmps67
  go_wp2_with fail
  have hx01 : Ext w (w.alloc (Obj.cells #[Value.slice (some { block := ga, off := oa }) n ca, Value.slice (some { block := gb, off := ob }) n cb] 93)) := (by repeat (first | exact Ext.refl _ | assumption | refine Ext.alloc ?_ _ | refine Ext.drewN ?_ _ | refine Ext.drew ?_))
  have hc0 : (w.alloc (Obj.cells #[Value.slice (some { block := ga, off := oa }) n ca, Value.slice (some { block := gb, off := ob }) n cb] 93)).cell? ⟨w.heap.size, 0, none⟩ = some (.slice (some ⟨ga, oa, none⟩) n ca) := by simp [go_sem]
  have hc1 : (w.alloc (Obj.cells #[Value.slice (some { block := ga, off := oa }) n ca, Value.slice (some { block := gb, off := ob }) n cb] 93)).cell? ⟨w.heap.size, 1, none⟩ = some (.slice (some ⟨gb, ob, none⟩) n cb) := by simp [go_sem]
  have hfl : w.heap.size < (w.alloc (Obj.cells #[Value.slice (some { block := ga, off := oa }) n ca, Value.slice (some { block := gb, off := ob }) n cb] 93)).heap.size := by simp
  generalize (w.alloc (Obj.cells #[Value.slice (some { block := ga, off := oa }) n ca, Value.slice (some { block := gb, off := ob }) n cb] 93)) = W0 at *
  obtain ⟨fx, hfx⟩ : ∃ fx, fx = w.heap.size := ⟨_, rfl⟩
  have hrl : ∀ i, i < n → rb i < fx := fun i hi => by rw [hfx]; exact (hN.gridB.low i hi).2
  rw [← hfx] at hc0 hc1 hfl ⊢
  clear hfx
  have HRL := Lib.hid hrl
  clear hrl
  have hN0 := hN.ext hx01
  refine (seen_calls W0 w0.heap.size ga oa ca gb ob cb n ra rb av A B hN0 HA.out hn hn2 HFl.out.nonneg).mono ?_
  rintro e w1 ⟨bk, boff, bcap, bs, q, rfl, ho, hQ, hx1⟩
  have HQ := Lib.hid hQ
  have hbsl := hQ.inn.len
  clear hQ
  have hb1 := ho.intAt 1 (by omega)
  have hn1 : (1 : Int) < (n : Int) := by omega
  have hbk := ho.lt bk rfl
  cases hd : decide (ith bs 1 < 0) with
  | true =>
    have HST := Lib.hid (HQ.out.stuck (by simpa using hd))
    go_wp2_with fail
    go_ret
    exact .inl ⟨rfl, hN0.ext hx1, HST.out, hx0.trans (hx01.trans hx1)⟩
  | false =>
    have h1r : 0 ≤ ith bs 1 := by simp at hd; omega
    obtain ⟨rk, hrk⟩ := HQ.out.inn.tree
    have HT := Lib.hid hrk
    clear hrk
    have hx01' := hx0.trans (hx01.trans hx1)
    have hcb := (hx1.cell (p := ⟨fx, 1, none⟩) hfl).trans hc1
    have hfl1 := Nat.lt_of_lt_of_le hfl hx1.size
    have hN1 := hN0.ext hx1
    have hfx0 : w0.heap.size ≤ W0.heap.size := by have := hx0.size; have := hx01.size; omega
    go_wp2_with fail
    go_loopg [4] (rk 1) (fun q at_ ws => ∃ (x : Nat) (B' : Nat → Nat → Int), at_ = .int .i64 x ∧ x < n ∧ 0 ≤ ith bs x ∧ rk x = q ∧ Ext w0 ws ∧ Own ws W0.heap.size 1 (.slice (some ⟨bk, boff, none⟩) n bcap) (ints bs) ∧ (ws.cell? ⟨fx, 1, none⟩ = some (.slice (some ⟨gb, ob, none⟩) n cb) ∧ fx < ws.heap.size) ∧ NetS ws w0.heap.size ga oa gb ob n ra rb av B' ∧ SameBut w ws n rb ∧ Hid (AugS n A B rk k x B'))
    case atStart => exact ⟨1, B, rfl, by omega, h1r, rfl, hx01', ho, ⟨hcb, hfl1⟩, hN1, SameBut.of (hx01.trans hx1), Lib.hid (AugS.start rk HFl.out)⟩
    case round =>
      clear hb1 hN1 ho hx01' hcb hfl1
      obtain ⟨x, B', rfl, hxn, hxr, hq, hx, ho, ⟨hcb, hfl1⟩, hNr, hSB, HAu⟩ := hrel
      by_cases hx0' : x = 0
      · subst hx0'
        go_wp2_with fail
        go_ret
        exact .inr ⟨B', rk, rfl, hNr, HAu.out, hSB, hx⟩
      · obtain ⟨p, hpn, hpe, hpr, hpp, hlt⟩ := HT.out x hxn hx0' hxr
        have HPP := Lib.hid hpp
        clear hpp
        have hbx := ho_int ho (k := x) (by omega) hpe
        have htl := hNr.topB
        have htp := hNr.cellB p hpn
        have htx := hNr.cellB x hxn
        obtain ⟨hcp1, hcp2⟩ := hNr.gridB.cell x p hxn hpn
        obtain ⟨hcq1, hcq2⟩ := hNr.gridB.cell p x hpn hxn
        have hlp := hNr.gridB.low p hpn
        have hlx := hNr.gridB.low x hxn
        have hvx := HAu.out.nonneg x p
        have hvp := HAu.out.nonneg p x
        have hux := HAu.out.top x p
        have hup := HAu.out.top p x
        have hbrx : rb x ≠ bk := by have h1 := HRL.out x hxn; omega
        have hbrp : rb p ≠ bk := by have h1 := HRL.out p hpn; omega
        have hpN : (p : Int) < (n : Int) := by omega
        have hxN : (x : Int) < (n : Int) := by omega
        cases hd2 : decide (0 < B' x p) with
        | true =>
          have HA2 := Lib.hid (HAu.out.back hxn hpn hlt (by simpa using hd2))
          go_wp2_with fail
          go_region
          all_goals
            go_wp2_with fail
            go_region
          all_goals
            have hNs := hNr.set hxn hpn (B' x p - 1)
            have hos := ho.keep (grownBy_setCell wr ⟨rb x, p, none⟩ (.int .i64 (B' x p - 1))) (by
              right
              have h1 := HRL.out x hxn
              simp only [Value.ownBlock, ne_eq, Option.some.injEq]
              omega)
            have hxs := hx.setOwn ⟨rb x, p, none⟩ (.int .i64 (B' x p - 1)) hlx.1
            have hcs : (wr.setCell ⟨rb x, p, none⟩ (.int .i64 (B' x p - 1))).cell? ⟨fx, 1, none⟩ = some (.slice (some ⟨gb, ob, none⟩) n cb) := by
              rw [World.cell?_setCell_other _ _ _ _ (fun e => by
                have h1 := HRL.out x hxn
                simp only [Addr.mk.injEq] at e
                omega)]
              exact hcb
            have hfs : fx < (wr.setCell ⟨rb x, p, none⟩ (.int .i64 (B' x p - 1))).heap.size := by simpa [World.setCell] using hfl1
            go_wp2_with fail
            go_roundg (rk p)
            case measure => omega
            case rel => exact ⟨p, _, rfl, hpn, hpr, rfl, hxs.trans (by repeat (first | exact Ext.refl _ | assumption | refine Ext.alloc ?_ _ | refine Ext.drewN ?_ _ | refine Ext.drew ?_)), hos.ext (by repeat (first | exact Ext.refl _ | assumption | refine Ext.alloc ?_ _ | refine Ext.drewN ?_ _ | refine Ext.drew ?_)), ⟨((show Ext (wr.setCell ⟨rb x, p, none⟩ (.int .i64 (B' x p - 1))) _ from (by repeat (first | exact Ext.refl _ | assumption | refine Ext.alloc ?_ _ | refine Ext.drewN ?_ _ | refine Ext.drew ?_))).cell (p := ⟨fx, 1, none⟩) hfs).trans hcs, Nat.lt_of_lt_of_le hfs (show Ext (wr.setCell ⟨rb x, p, none⟩ (.int .i64 (B' x p - 1))) _ from (by repeat (first | exact Ext.refl _ | assumption | refine Ext.alloc ?_ _ | refine Ext.drewN ?_ _ | refine Ext.drew ?_))).size⟩, hNs.ext (by repeat (first | exact Ext.refl _ | assumption | refine Ext.alloc ?_ _ | refine Ext.drewN ?_ _ | refine Ext.drew ?_)), (hSB.set (j := p) hxn (.int .i64 (B' x p - 1))).ext (by repeat (first | exact Ext.refl _ | assumption | refine Ext.alloc ?_ _ | refine Ext.drewN ?_ _ | refine Ext.drew ?_)), Lib.hid HA2.out⟩
        | false =>
          have HA2 := Lib.hid (HAu.out.on hxn hpn hlt (by simpa using hd2) HPP.out)
          go_wp2_with fail
          go_region
          all_goals
            go_wp2_with fail
            go_region
          all_goals
            have hNs := hNr.set hpn hxn (B' p x + 1)
            have hos := ho.keep (grownBy_setCell wr ⟨rb p, x, none⟩ (.int .i64 (B' p x + 1))) (by
              right
              have h1 := HRL.out p hpn
              simp only [Value.ownBlock, ne_eq, Option.some.injEq]
              omega)
            have hxs := hx.setOwn ⟨rb p, x, none⟩ (.int .i64 (B' p x + 1)) hlp.1
            have hcs : (wr.setCell ⟨rb p, x, none⟩ (.int .i64 (B' p x + 1))).cell? ⟨fx, 1, none⟩ = some (.slice (some ⟨gb, ob, none⟩) n cb) := by
              rw [World.cell?_setCell_other _ _ _ _ (fun e => by
                have h1 := HRL.out p hpn
                simp only [Addr.mk.injEq] at e
                omega)]
              exact hcb
            have hfs : fx < (wr.setCell ⟨rb p, x, none⟩ (.int .i64 (B' p x + 1))).heap.size := by simpa [World.setCell] using hfl1
            go_wp2_with fail
            go_roundg (rk p)
            case measure => omega
            case rel => exact ⟨p, _, rfl, hpn, hpr, rfl, hxs.trans (by repeat (first | exact Ext.refl _ | assumption | refine Ext.alloc ?_ _ | refine Ext.drewN ?_ _ | refine Ext.drew ?_)), hos.ext (by repeat (first | exact Ext.refl _ | assumption | refine Ext.alloc ?_ _ | refine Ext.drewN ?_ _ | refine Ext.drew ?_)), ⟨((show Ext (wr.setCell ⟨rb p, x, none⟩ (.int .i64 (B' p x + 1))) _ from (by repeat (first | exact Ext.refl _ | assumption | refine Ext.alloc ?_ _ | refine Ext.drewN ?_ _ | refine Ext.drew ?_))).cell (p := ⟨fx, 1, none⟩) hfs).trans hcs, Nat.lt_of_lt_of_le hfs (show Ext (wr.setCell ⟨rb p, x, none⟩ (.int .i64 (B' p x + 1))) _ from (by repeat (first | exact Ext.refl _ | assumption | refine Ext.alloc ?_ _ | refine Ext.drewN ?_ _ | refine Ext.drew ?_))).size⟩, hNs.ext (by repeat (first | exact Ext.refl _ | assumption | refine Ext.alloc ?_ _ | refine Ext.drewN ?_ _ | refine Ext.drew ?_)), (hSB.set (j := x) hpn (.int .i64 (B' p x + 1))).ext (by repeat (first | exact Ext.refl _ | assumption | refine Ext.alloc ?_ _ | refine Ext.drewN ?_ _ | refine Ext.drew ?_)), Lib.hid HA2.out⟩
end Go.Proofs.Ytmmjjfjbhogfgaa
