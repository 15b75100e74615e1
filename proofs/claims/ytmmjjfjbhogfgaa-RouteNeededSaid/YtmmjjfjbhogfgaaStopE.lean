/- Then: going by one profile and then by another one; of the program and of the specification. -/
import Derived.Test.YtmmjjfjbhogfgaaStopD
import Derived.Test.YtmmjjfjbhogfgaaStep
import Derived.Deep.AppendLies
namespace Go.Proofs.Ytmmjjfjbhogfgaa
open Go.RowKit
attribute [local go_sem] Leg.val run_store_fn

/-- The stops of going on. -/
def goOn (b : Stops) (wait : Int) (s : Int × Int) : Option (Int × Int) := if 0 ≤ lookL b (s.2 + wait) then some (s.1, lookL b (s.2 + wait)) else none
def joined (a b : Stops) (wait : Int) : Stops := a.filterMap (goOn b wait)
theorem joined_len (a b : Stops) (wait : Int) : (joined a b wait).length ≤ a.length := List.length_filterMap_le _ _
theorem joined_snoc {a b : Stops} {wait : Int} {k : Nat} (hk : k < a.length) : joined (a.take (k + 1)) b wait = joined (a.take k) b wait ++ (if 0 ≤ lookL b (tSnd a k + wait) then [(tFst a k, lookL b (tSnd a k + wait))] else []) := by
  have e : a.getD k (0, 0) = (tFst a k, tSnd a k) := rfl
  unfold joined
  rw [take_snoc' hk, List.filterMap_append, e]
  congr 1
  simp only [List.filterMap_cons, List.filterMap_nil, goOn]
  split
  · rename_i h; split at h
    · cases h
    · rename_i h2; rw [if_neg h2]
  · rename_i x h; split at h
    · rename_i h2; cases h; rw [if_pos h2]
    · cases h
theorem joined_cons {a b : Stops} {wait : Int} {k : Nat} (hk : k < a.length) : (joined (a.drop k) b wait).reverse = (joined (a.drop (k + 1)) b wait).reverse ++ (if 0 ≤ lookL b (tSnd a k + wait) then [(tFst a k, lookL b (tSnd a k + wait))] else []) := by
  have e : a[k] = (tFst a k, tSnd a k) := by simp [tFst, tSnd, List.getD_eq_getElem?_getD, hk]
  unfold joined
  rw [List.drop_eq_getElem_cons hk, e]
  simp only [List.filterMap_cons, goOn]
  split
  · rename_i h; split at h
    · cases h
    · rename_i h2; rw [if_neg h2, List.append_nil]
  · rename_i x h; split at h
    · rename_i h2; cases h; rw [if_pos h2, List.reverse_cons]
    · cases h
theorem goOn_mem {a b : Stops} {wait : Int} {s : Int × Int} (h : s ∈ joined a b wait) : ∃ r ∈ a, s.1 = r.1 ∧ s.2 = lookL b (r.2 + wait) ∧ 0 ≤ s.2 := by
  obtain ⟨r, hr, h⟩ := List.mem_filterMap.1 h
  unfold goOn at h
  split at h
  · rename_i h2; cases h; exact ⟨r, hr, rfl, rfl, h2⟩
  · cases h
theorem lookL_le {p : Stops} {t M : Int} (h : ∀ s ∈ p, s.2 ≤ M) (hM : -1 ≤ M) : lookL p t ≤ M := by
  induction p with
  | nil => exact hM
  | cons s r ih =>
    unfold lookL
    split
    · exact h s (by simp)
    · exact ih (fun s hs => h s (by simp [hs]))
theorem joined_bd {a b : Stops} {wait : Int} (ha : ProfOk a) (hb : ProfOk b) : ∀ s ∈ joined a b wait, Bd s := by
  intro s hs
  obtain ⟨r, hr, h1, h2, h3⟩ := goOn_mem hs
  have h4 := ha.bd r hr
  have h5 : lookL b (r.2 + wait) ≤ 20000 := lookL_le (fun s hs => (hb.bd s hs).2.2) (by omega)
  unfold Bd
  omega
def ThenOk (a b : Stops) (wait : Int) : Prop := ProfOk a ∧ ProfOk b ∧ 0 ≤ wait ∧ wait ≤ 100
def ThenOf (a b : Stops) (wait : Int) (R : Stops) (e : Int) : Prop := (¬ ThenOk a b wait ∧ R = [] ∧ e = 2) ∨ (ThenOk a b wait ∧ e = 0 ∧ FrontOf (joined a b wait) R)
theorem ThenOf.uniq {a b : Stops} {wait : Int} {R R' : Stops} {e e' : Int} (h : ThenOf a b wait R e) (h' : ThenOf a b wait R' e') : R = R' ∧ e = e' := by
  rcases h with ⟨h1, rfl, rfl⟩ | ⟨h1, rfl, h2⟩ <;> rcases h' with ⟨g1, rfl, rfl⟩ | ⟨g1, rfl, g2⟩
  · exact ⟨rfl, rfl⟩
  · exact (h1 g1).elim
  · exact (g1 h1).elim
  · have h0 : ∀ s ∈ joined a b wait, 0 ≤ s.2 := fun s hs => (joined_bd h1.1 h1.2.1 s hs).2.2.1
    exact ⟨h2.uniq g2 h0 h0 (fun _ _ h => h), rfl⟩
def ThenRes (w : World) (a b : Stops) (wait : Int) (e : Ending) (w' : World) : Prop :=
  ∃ v R er, e = .returned (.tuple #[v, .int .i64 er]) ∧ Own w' w.heap.size 2 v (trips R) ∧ ThenOf a b wait R er ∧ R.length ≤ a.length ∧ Ext w w'

set_option maxRecDepth 100000 in
set_option maxHeartbeats 8000000 in
theorem then_calls (w : World) (ao bo : Option Addr) (acap bcap : Nat) (a b : Stops) (wait : Int) (ha : TripsIn w ao a) (hb : TripsIn w bo b) (hal : a.length ≤ 10000000) (hbl : b.length ≤ 10000000) :
    Calls Try.prog 40 #[.slice ao a.length acap, .slice bo b.length bcap, .int .i64 wait] w (ThenRes w a b wait) := by
  obtain ⟨i0, hi, hz0, hz1, hz2⟩ := info_parts info_stop
  go_enter Try.func40, Try.ntmps40
  go_wp2_with fail
  refine (profile_calls w ao acap a ha hal).mono ?_
  rintro e w1 ⟨r1, rfl, hr1, hx1⟩
  have HP1 := Lib.hid hr1
  clear hr1
  cases r1 with
  | false =>
    have HB : Hid (¬ ThenOk a b wait) := Lib.hid (fun h => by have := HP1.out.2 h.1; cases this)
    go_wp2_with fail
    go_ret2
    exact ⟨_, [], 2, rfl, Own.nil _ _ _, .inl ⟨HB.out, rfl, rfl⟩, by simp, hx1⟩
  | true =>
    have HPa : Hid (ProfOk a) := Lib.hid (HP1.out.1 rfl)
    clear HP1
    go_wp2_with fail
    refine (profile_calls w1 bo bcap b (hb.ext hx1) hbl).mono ?_
    rintro e w2 ⟨r2, rfl, hr2, hx2⟩
    have hx12 := hx1.trans hx2
    have HP2 := Lib.hid hr2
    clear hr2
    cases r2 with
    | false =>
      have HB : Hid (¬ ThenOk a b wait) := Lib.hid (fun h => by have := HP2.out.2 h.2.1; cases this)
      go_wp2_with fail
      go_ret2
      exact ⟨_, [], 2, rfl, Own.nil _ _ _, .inl ⟨HB.out, rfl, rfl⟩, by simp, hx12⟩
    | true =>
      by_cases h1 : wait < 0
      · have HB : Hid (¬ ThenOk a b wait) := Lib.hid (fun h => by have := h.2.2.1; omega)
        go_wp2_with fail
        go_ret2
        exact ⟨_, [], 2, rfl, Own.nil _ _ _, .inl ⟨HB.out, rfl, rfl⟩, by simp, hx12⟩
      · by_cases h2 : 100 < wait
        · have HB : Hid (¬ ThenOk a b wait) := Lib.hid (fun h => by have := h.2.2.2; omega)
          go_wp2_with fail
          go_ret2
          exact ⟨_, [], 2, rfl, Own.nil _ _ _, .inl ⟨HB.out, rfl, rfl⟩, by simp, hx12⟩
        · have HB : Hid (ThenOk a b wait) := Lib.hid ⟨HPa.out, HP2.out.1 rfl, by omega, by omega⟩
          have hal2 : a.length ≤ 1000 := HB.out.1.1
          clear HPa HP2
          go_wp2_with fail
          go_loopw [30, 8] (fun i out wr => ∃ (k : Nat) (outv : Value), k ≤ a.length ∧ i = .int .i64 k ∧ outv = out ∧ Ext w wr ∧ Own wr w.heap.size 2 outv (trips (joined (a.take k) b wait))) (fun i _ _ => a.length - (intOf i).toNat)
          case atStart => exact ⟨0, _, by omega, rfl, rfl, hx12, Own.nil _ _ _⟩
          case round =>
            obtain ⟨k, outv, hk, rfl, rfl, hx, ho⟩ := hrel
            by_cases hlt : k < a.length
            · obtain ⟨ab, af, hao, hab, hs0, hs1⟩ := (ha.ext hx) k hlt
              subst hao
              have hsnd : 0 ≤ tSnd a k ∧ tSnd a k ≤ 20000 := by have := HB.out.1.2 k hlt; unfold OkAt at this; omega
              have HJ := Lib.hid (joined_snoc (b := b) (wait := wait) hlt)
              have hjl := joined_len (a.take k) b wait
              rw [List.length_take] at hjl
              have hxs := hx.size
              go_wp2_with fail
              refine (look_calls _ bo bcap b _ (hb.ext (hx.alloc _)) hbl rfl).mono ?_
              rintro e w4 ⟨rfl, hx4⟩
              obtain ⟨hc0, hc1⟩ := two_stop wr (tFst a k) (tSnd a k) 54
              have hlt0 : wr.heap.size < (wr.alloc (Obj.cells #[Value.int IntKind.i64 (tFst a k), Value.int IntKind.i64 (tSnd a k)] 54)).heap.size := by simp
              have hc04 := (hx4.cell (p := ⟨wr.heap.size, 0, none⟩) hlt0).trans hc0
              have hc14 := (hx4.cell (p := ⟨wr.heap.size, 1, none⟩) hlt0).trans hc1
              have hlt4 := Nat.lt_of_lt_of_le hlt0 hx4.size
              have hxr4 := (hx.alloc (Obj.cells #[Value.int IntKind.i64 (tFst a k), Value.int IntKind.i64 (tSnd a k)] 54)).trans hx4
              have ho4 := ho.ext (((Ext.refl wr).alloc (Obj.cells #[Value.int IntKind.i64 (tFst a k), Value.int IntKind.i64 (tSnd a k)] 54)).trans hx4)
              have hxs4 := hxr4.size
              clear hc0 hc1 hlt0
              generalize hL : lookL b (tSnd a k + wait) = y at *
              clear hL
              by_cases hy : 0 ≤ y
              · go_wp2_with (at_builtin; refine wpList_append_Own _ rfl _ _ 49 rfl 54 i0 (.agg #[.int .i64 0, .int .i64 0]) 2 16 Try.underlying49 hi hz0 hz1 hz2 rfl (by omega) w.heap.size _ _ rfl (Own.ext ho4 ((Ext.refl _).alloc _)) (by simp; omega) _ 1 1 [.int .i64 (tFst a k), .int .i64 y] rfl rfl (two_cell _ _ _ _ _ rfl) (by simp [Value.oneCell']) (by simp [trips_length]; unfold maxLen; omega) (by simp [trips_length]; omega) ?_; intro v' w5 ho5 hg5 hb5)
                rw [trips_snoc] at ho5
                have hx5 : Ext w w5 := (hxr4.alloc _).onto hg5 (fun q hq => (ho4.lt q hq).1)
                exact ⟨⟨k + 1, _, by omega, rfl, rfl, hx5, by rw [HJ.out, if_pos hy]; exact ho5⟩, by simp only [intOf]; omega⟩
              · go_wp2_with fail
                exact ⟨⟨k + 1, _, by omega, rfl, rfl, hxr4, by rw [HJ.out, if_neg (by omega), List.append_nil]; exact ho4⟩, by simp only [intOf]; omega⟩
            · obtain rfl : k = a.length := by omega
              rw [List.take_length] at ho
              have hjl := joined_len a b wait
              go_wp2_with (go_at_call 70; refine (bestStops_calls w _ outv (joined a b wait) hx ho (joined_bd HB.out.1 HB.out.2.1) (by omega)).mono ?_; rintro e w6 ⟨v, R, rfl, ho6, hF, hRl, hx6⟩)
              go_ret2
              exact ⟨v, R, 0, rfl, ho6, .inr ⟨HB.out, rfl, hF⟩, by omega, hx6⟩

theorem up_drop {a : Stops} {q : Nat} (h : Up a) (hq : q < a.length) : ∀ r ∈ a.drop (q + 1), tFst a q < r.1 ∧ tSnd a q < r.2 := by
  intro r hr
  have := List.pairwise_iff_getElem.1 h
  obtain ⟨i, hi, rfl⟩ := List.getElem_of_mem hr
  rw [List.length_drop] at hi
  have := this q (q + 1 + i) hq (by omega) (by omega)
  rw [List.getElem_drop]
  simpa [tFst, tSnd, List.getD_eq_getElem?_getD, hq] using this
theorem goOn_mem' {a b : Stops} {wait : Int} {s : Int × Int} (h : s ∈ (joined a b wait).reverse) : ∃ r ∈ a, s.1 = r.1 := by
  obtain ⟨r, hr, h1, _⟩ := goOn_mem (List.mem_reverse.1 h)
  exact ⟨r, hr, h1⟩
def RefThenRes (w : World) (a b : Stops) (wait : Int) (e : Ending) (w' : World) : Prop :=
  ∃ vo vcap R er, e = .returned (.tuple #[.slice vo R.length vcap, .int .i64 er]) ∧ TripsIn w' vo R ∧ ThenOf a b wait R er ∧ Ext w w'
theorem two_cellD (w : World) (x y : Value) (t : TypeId) : ∀ (j : Nat) (u : Value), [x, y][j]? = some u → (w.alloc (.cells #[x, y] t)).drew.cell? (Addr.add ⟨w.heap.size, 0, none⟩ j) = some u := by
  intro j u h
  have := two_cell w x y t w.heap.size rfl j u h
  simpa using this
theorem keep2 {w1 w2 : World} {b b' o o' : Nat} {x y : Value} (hb : b < w1.heap.size) (hb' : b' < w1.heap.size) (h : w1.cell? ⟨b, o, none⟩ = some x) (h' : w1.cell? ⟨b', o', none⟩ = some y) (he : Ext w1 w2) : (w2.cell? ⟨b, o, none⟩ = some x ∧ w2.cell? ⟨b', o', none⟩ = some y) ∧ Ext w1 w2 :=
  ⟨⟨(he.cell hb).trans h, (he.cell hb').trans h'⟩, he⟩

set_option maxRecDepth 100000 in
set_option maxHeartbeats 8000000 in
theorem refThen_calls (w : World) (ao bo : Option Addr) (acap bcap : Nat) (a b : Stops) (wait : Int) (ha : TripsIn w ao a) (hb : TripsIn w bo b) (hal : a.length ≤ 10000000) (hbl : b.length ≤ 10000000) :
    Calls Try.prog 41 #[.slice ao a.length acap, .slice bo b.length bcap, .int .i64 wait] w (RefThenRes w a b wait) := by
  obtain ⟨i0, hi, hz0, hz1, hz2⟩ := info_parts info_stop
  go_enter Try.func41, Try.ntmps41
  go_wp2_with fail
  refine (points_calls w ao acap a ha hal).mono ?_
  rintro e w1 ⟨r1, rfl, hr1, hx1⟩
  have HP1 := Lib.hid hr1
  clear hr1
  cases r1 with
  | false =>
    have HB : Hid (¬ ThenOk a b wait) := Lib.hid (fun h => by have := HP1.out.2 h.1; cases this)
    go_wp2_with fail
    go_ret2
    exact ⟨none, 0, [], 2, rfl, fun k hk => by simp at hk, .inl ⟨HB.out, rfl, rfl⟩, hx1⟩
  | true =>
    have HPa : Hid (ProfOk a) := Lib.hid (HP1.out.1 rfl)
    clear HP1
    go_wp2_with fail
    refine (points_calls w1 bo bcap b (hb.ext hx1) hbl).mono ?_
    rintro e w2 ⟨r2, rfl, hr2, hx2⟩
    have hx12 := hx1.trans hx2
    have HP2 := Lib.hid hr2
    clear hr2
    cases r2 with
    | false =>
      have HB : Hid (¬ ThenOk a b wait) := Lib.hid (fun h => by have := HP2.out.2 h.2.1; cases this)
      go_wp2_with fail
      go_ret2
      exact ⟨none, 0, [], 2, rfl, fun k hk => by simp at hk, .inl ⟨HB.out, rfl, rfl⟩, hx12⟩
    | true =>
      by_cases h1 : wait < 0
      · have HB : Hid (¬ ThenOk a b wait) := Lib.hid (fun h => by have := h.2.2.1; omega)
        go_wp2_with fail
        go_ret2
        exact ⟨none, 0, [], 2, rfl, fun k hk => by simp at hk, .inl ⟨HB.out, rfl, rfl⟩, hx12⟩
      · by_cases h2 : 100 < wait
        · have HB : Hid (¬ ThenOk a b wait) := Lib.hid (fun h => by have := h.2.2.2; omega)
          go_wp2_with fail
          go_ret2
          exact ⟨none, 0, [], 2, rfl, fun k hk => by simp at hk, .inl ⟨HB.out, rfl, rfl⟩, hx12⟩
        · have HB : Hid (ThenOk a b wait) := Lib.hid ⟨HPa.out, HP2.out.1 rfl, by omega, by omega⟩
          have hal2 : a.length ≤ 1000 := HB.out.1.1
          clear HPa HP2
          obtain ⟨W, hW⟩ : ∃ W, W = w2.heap.size := ⟨_, rfl⟩
          go_wp2_with fail
          go_loopw [9, 8] (fun i out wr => ∃ (k : Nat) (outv : Value) (O : Stops), k ≤ a.length ∧ i = .int .i64 ((k : Int) - 1) ∧ outv = out ∧ Ext w2 wr ∧ Own wr W 2 outv (trips O) ∧ O.length + k ≤ a.length ∧ Hid (DownRec (joined (a.drop k) b wait).reverse O)) (fun i _ _ => ((intOf i) + 1).toNat)
          case atStart => exact ⟨a.length, _, [], by omega, rfl, rfl, Ext.refl _, Own.nil _ _ _, by simp, Lib.hid (by rw [List.drop_length]; exact DownRec.nil)⟩
          case round =>
            obtain ⟨k, outv, O, hk, rfl, rfl, hx, ho, hOl, HD⟩ := hrel
            have hxw := hx12.trans hx
            by_cases hk0 : k = 0
            · subst hk0
              rw [List.drop_zero] at HD
              have hki : ((0 : Nat) : Int) - 1 = -1 := by omega
              rw [hki]
              clear hki
              obtain ⟨oo, ocap, rfl, hto⟩ := ho.tripsIn
              have HFr : Hid (FrontOf (joined a b wait) O.reverse) := Lib.hid (HD.out.front.congr (fun s => List.mem_reverse))
              obtain ⟨W2, hW2⟩ : ∃ W2, W2 = wr.heap.size := ⟨_, rfl⟩
              go_wp2_with fail
              go_loopw [12, 11] (fun i out ws => ∃ (k : Nat) (outv : Value), k ≤ O.length ∧ i = .int .i64 ((k : Int) - 1) ∧ outv = out ∧ Ext wr ws ∧ Own ws W2 2 outv (trips (O.drop k).reverse)) (fun i _ _ => ((intOf i) + 1).toNat)
              case atStart => exact ⟨O.length, _, by omega, rfl, rfl, Ext.refl _, by rw [List.drop_length]; exact Own.nil _ _ _⟩
              case round =>
                rename World => ws
                obtain ⟨k, outv, hk2, rfl, rfl, hxs, hos⟩ := hrel
                by_cases hk1 : k = 0
                · subst hk1
                  rw [List.drop_zero] at hos
                  have hki : ((0 : Nat) : Int) - 1 = -1 := by omega
                  rw [hki]
                  clear hki
                  obtain ⟨vo, vcap, rfl, htv⟩ := hos.tripsIn
                  go_wp2_with fail
                  go_ret2
                  exact ⟨vo, vcap, O.reverse, 0, rfl, htv, .inr ⟨HB.out, rfl, HFr.out⟩, hxw.trans hxs⟩
                · obtain ⟨q, rfl⟩ : ∃ q, k = q + 1 := ⟨k - 1, by omega⟩
                  have hlt : q < O.length := by omega
                  obtain ⟨ob, of_, hoo, hob, hs0, hs1⟩ := (hto.ext hxs) q hlt
                  subst hoo
                  have HJ : Hid ((O.drop q).reverse = (O.drop (q + 1)).reverse ++ [(tFst O q, tSnd O q)]) := Lib.hid (by
                    rw [List.drop_eq_getElem_cons hlt, List.reverse_cons]
                    simp [tFst, tSnd, List.getD_eq_getElem?_getD, hlt])
                  have hqi : ((q + 1 : Nat) : Int) - 1 = (q : Int) := by omega
                  rw [hqi]
                  clear hqi
                  have hss := hxs.size
                  have hdl : (O.drop (q + 1)).reverse.length ≤ 1000 := by rw [List.length_reverse, List.length_drop]; omega
                  go_wp2_with (at_builtin; refine wpList_append_Own _ rfl _ _ 49 rfl 54 i0 (.agg #[.int .i64 0, .int .i64 0]) 2 16 Try.underlying49 hi hz0 hz1 hz2 rfl (by omega) W2 _ _ rfl (Own.ext hos ((Ext.refl _).alloc _)) (by simp; omega) _ 1 1 [.int .i64 (tFst O q), .int .i64 (tSnd O q)] rfl rfl (two_cell _ _ _ _ _ rfl) (by simp [Value.oneCell']) (by rw [trips_length]; simp only [List.length_cons, List.length_nil]; unfold maxLen; omega) (by rw [trips_length]; simp only [List.length_cons, List.length_nil]; omega) ?_; intro v' w5 ho5 hg5 hb5)
                  rw [trips_snoc] at ho5
                  have hx5 : Ext wr w5 := (hxs.alloc _).onto hg5 (fun z hz => by have := (hos.lt z hz).1; omega)
                  exact ⟨⟨q, _, by omega, rfl, rfl, hx5, by rw [HJ.out]; exact ho5⟩, by simp only [intOf]; omega⟩
            · obtain ⟨q, rfl⟩ : ∃ q, k = q + 1 := ⟨k - 1, by omega⟩
              have hlt : q < a.length := by omega
              obtain ⟨ab, af, hao, hab, hs0, hs1⟩ := (ha.ext hxw) q hlt
              subst hao
              have hsnd : 0 ≤ tSnd a q ∧ tSnd a q ≤ 20000 := by have := HB.out.1.2 q hlt; unfold OkAt at this; omega
              have HJ := Lib.hid (joined_cons (b := b) (wait := wait) hlt)
              have HU := Lib.hid (up_drop HB.out.1.up hlt)
              have hqi : ((q + 1 : Nat) : Int) - 1 = (q : Int) := by omega
              rw [hqi]
              have hq0 : decide (0 ≤ (q : Int)) = true := by simp
              clear hqi
              go_wp2_with fail
              refine (refLook_calls _ bo bcap b _ (hb.ext hxw) hbl rfl).mono ?_
              rintro e wl ⟨⟨r, rfl, hr⟩, hxl⟩
              have hxL := hx.trans hxl
              have hoL := ho.ext hxl
              rcases hr with ⟨rfl, hr⟩ | ⟨r, rfl, hrb, hr⟩
              · have HR := Lib.hid hr
                clear hr
                go_wp2_with fail
                refine wp_region_after (by kernel_rfl) (by kernel_rfl) ?_
                intro hne3
                repeat (go_big_quiet_step (fail))
                refine wpQuiet_nil ?_
                intro w3 hx3
                go_wp2_with fail
                exact ⟨⟨q, _, O, by omega, rfl, rfl, hxL.trans hx3, hoL.ext hx3, by omega, Lib.hid (by rw [HJ.out, HR.out, if_neg (by omega), List.append_nil]; exact HD.out)⟩, by simp only [intOf]; omega⟩
              · have HR := Lib.hid hr
                clear hr
                have hbr := HB.out.2.1.2 r hrb
                have h0 : 0 ≤ tSnd b r := by unfold OkAt at hbr; omega
                clear hbr
                have HS : Hid (∀ p ∈ (joined (a.drop (q + 1)) b wait).reverse, tFst a q ≤ p.1 ∧ (tFst a q = p.1 → p.2 ≤ tSnd b r)) := Lib.hid (fun p hp => by
                  obtain ⟨x, hx, h1⟩ := goOn_mem' hp
                  have := (HU.out x hx).1
                  exact ⟨by omega, fun h => by omega⟩)
                obtain ⟨bb, bf, hbo, hbb, hb0, hb1⟩ := (hb.ext (hxw.trans hxl)) r hrb
                subst hbo
                have habL : ab < wl.heap.size := Nat.lt_of_lt_of_le hab hxl.size
                have hsL := (hxl.cell (p := ⟨ab, af + q * 2, none⟩) hab).trans hs0
                have hr0 : decide (0 ≤ (r : Int)) = true := by simp
                have hWl := hxL.size
                obtain ⟨oo, ocap, rfl, hne⟩ := hoL.tripShape
                by_cases hO : O = []
                · have hl0 : O.length = 0 := by simp [hO]
                  have HO0 := Lib.hid hO
                  have hOz : ((O.length : Int) == 0) = true := by rw [hl0]; rfl
                  clear hO hne hl0
                  go_wp2_with fail
                  refine wp_region_after (by kernel_rfl) (by kernel_rfl) ?_
                  intro hne3
                  have hbs := After.cell hb1 hbb
                  have hxo := trivial
                  repeat (go_big_quiet_step (fail))
                  refine wpQuiet_nil ?_
                  intro w3 hx3
                  have ho3 := hoL.ext hx3
                  have hca3 := (hx3.cell (p := ⟨ab, af + q * 2, none⟩) habL).trans hsL
                  have hcb3 := (hx3.cell (p := ⟨bb, bf + r * 2 + 1, none⟩) hbb).trans hb1
                  have hab3 := Nat.lt_of_lt_of_le habL hx3.size
                  have hbb3 := Nat.lt_of_lt_of_le hbb hx3.size
                  have hW3 := hx3.size
                  clear hbs hxo
                  obtain ⟨_, _, hq1, hab2, hca2, -⟩ := (ha.ext hx12) q hlt
                  simp only [Option.some.injEq, Addr.mk.injEq, and_true] at hq1
                  obtain ⟨rfl, rfl⟩ := hq1
                  obtain ⟨_, _, hq2, hbb2, -, hcb2⟩ := (hb.ext hx12) r hrb
                  simp only [Option.some.injEq, Addr.mk.injEq, and_true] at hq2
                  obtain ⟨rfl, rfl⟩ := hq2
                  have hx23 := hxL.trans hx3
                  go_wp2_with fail
                  go_region_held3 (fun w' => (w'.cell? ⟨ab, af + q * 2, none⟩ = some (.int .i64 (tFst a q)) ∧ w'.cell? ⟨bb, bf + r * 2 + 1, none⟩ = some (.int .i64 (tSnd b r))) ∧ Ext w2 w')
                    (first
                      | exact keep2 hab2 hbb2 hca2 hcb2 hx5
                      | exact keep2 hab2 hbb2 hca2 hcb2 (by repeat (first | exact Ext.refl _ | assumption | refine Ext.alloc ?_ _ | refine Ext.drewN ?_ _ | refine Ext.drew ?_)))
                    ((refine step_append_Own _ (by rfl) _ _ 49 (by rfl) 54 i0 (.agg #[.int .i64 0, .int .i64 0]) 2 16 Try.underlying49 hi hz0 hz1 hz2 rfl (by omega) W _ (trips O) (by rfl) (Own.ext ho3 (by repeat (first | exact Ext.refl _ | assumption | refine Ext.alloc ?_ _ | refine Ext.drewN ?_ _ | refine Ext.drew ?_))) (by simp <;> omega) _ 1 1 [.int .i64 (tFst a q), .int .i64 (tSnd b r)] (by rfl) (by rfl) (two_cellD _ _ _ _) (by simp [Value.oneCell']) (by simp [trips_length]; unfold maxLen; omega) (by simp [trips_length]; omega) ?_
                      intro v' w5 ho5 hg5 hb5
                      have hx5 : Ext w2 w5 := (show Ext w2 _ from (by repeat (first | exact Ext.refl _ | assumption | refine Ext.alloc ?_ _ | refine Ext.drewN ?_ _ | refine Ext.drew ?_))).onto hg5 (fun k hk => by have := (ho3.lt k hk).1; omega)))
                  rw [trips_snoc] at ho5
                  go_wp2_with fail
                  exact ⟨⟨q, _, O ++ [(tFst a q, tSnd b r)], by omega, rfl, rfl, hx5, ho5, by simp; omega, Lib.hid (by rw [HJ.out, HR.out, if_pos h0]; exact HD.out.add h0 HS.out (.inl HO0.out))⟩, by simp only [intOf]; omega⟩
                · obtain ⟨og, oof, rfl, hogl, hoc⟩ := hne hO
                  have hOp : 0 < O.length := List.length_pos_iff.2 hO
                  have HO := Lib.hid hO
                  have hOz : ((O.length : Int) == 0) = false := by simp only [beq_eq_false_iff_ne]; omega
                  clear hO hne
                  cases hd : decide (tSnd b r < lastArr O) with
                  | false =>
                    go_wp2_with fail
                    refine wp_region_after (by kernel_rfl) (by kernel_rfl) ?_
                    intro hne3
                    have hbs := After.cell hb1 hbb
                    have hxo := After.cell hoc hogl
                    repeat (go_big_quiet_step (fail))
                    refine wpQuiet_nil ?_
                    intro w3 hx3
                    have ho3 := hoL.ext hx3
                    have hca3 := (hx3.cell (p := ⟨ab, af + q * 2, none⟩) habL).trans hsL
                    have hcb3 := (hx3.cell (p := ⟨bb, bf + r * 2 + 1, none⟩) hbb).trans hb1
                    have hab3 := Nat.lt_of_lt_of_le habL hx3.size
                    have hbb3 := Nat.lt_of_lt_of_le hbb hx3.size
                    have hW3 := hx3.size
                    clear hbs hxo
                    have HDD := Lib.hid hd
                    clear hd
                    go_wp2_with fail
                    exact ⟨⟨q, _, O, by omega, rfl, rfl, hxL.trans hx3, ho3, by omega, Lib.hid (by rw [HJ.out, HR.out, if_pos h0]; exact HD.out.skip (fun p hp => (HS.out p hp).1) HO.out (by have := HDD.out; simpa using this))⟩, by simp only [intOf]; omega⟩
                  | true =>
                    go_wp2_with fail
                    refine wp_region_after (by kernel_rfl) (by kernel_rfl) ?_
                    intro hne3
                    have hbs := After.cell hb1 hbb
                    have hxo := After.cell hoc hogl
                    repeat (go_big_quiet_step (fail))
                    refine wpQuiet_nil ?_
                    intro w3 hx3
                    have ho3 := hoL.ext hx3
                    have hca3 := (hx3.cell (p := ⟨ab, af + q * 2, none⟩) habL).trans hsL
                    have hcb3 := (hx3.cell (p := ⟨bb, bf + r * 2 + 1, none⟩) hbb).trans hb1
                    have hab3 := Nat.lt_of_lt_of_le habL hx3.size
                    have hbb3 := Nat.lt_of_lt_of_le hbb hx3.size
                    have hW3 := hx3.size
                    clear hbs hxo
                    have HDD := Lib.hid hd
                    clear hd hoc
                    obtain ⟨_, _, hq1, hab2, hca2, -⟩ := (ha.ext hx12) q hlt
                    simp only [Option.some.injEq, Addr.mk.injEq, and_true] at hq1
                    obtain ⟨rfl, rfl⟩ := hq1
                    obtain ⟨_, _, hq2, hbb2, -, hcb2⟩ := (hb.ext hx12) r hrb
                    simp only [Option.some.injEq, Addr.mk.injEq, and_true] at hq2
                    obtain ⟨rfl, rfl⟩ := hq2
                    have hx23 := hxL.trans hx3
                    go_wp2_with fail
                    go_region_held3 (fun w' => (w'.cell? ⟨ab, af + q * 2, none⟩ = some (.int .i64 (tFst a q)) ∧ w'.cell? ⟨bb, bf + r * 2 + 1, none⟩ = some (.int .i64 (tSnd b r))) ∧ Ext w2 w')
                      (first
                        | exact keep2 hab2 hbb2 hca2 hcb2 hx5
                        | exact keep2 hab2 hbb2 hca2 hcb2 (by repeat (first | exact Ext.refl _ | assumption | refine Ext.alloc ?_ _ | refine Ext.drewN ?_ _ | refine Ext.drew ?_)))
                      ((refine step_append_Own _ (by rfl) _ _ 49 (by rfl) 54 i0 (.agg #[.int .i64 0, .int .i64 0]) 2 16 Try.underlying49 hi hz0 hz1 hz2 rfl (by omega) W _ (trips O) (by rfl) (Own.ext ho3 (by repeat (first | exact Ext.refl _ | assumption | refine Ext.alloc ?_ _ | refine Ext.drewN ?_ _ | refine Ext.drew ?_))) (by simp <;> omega) _ 1 1 [.int .i64 (tFst a q), .int .i64 (tSnd b r)] (by rfl) (by rfl) (two_cellD _ _ _ _) (by simp [Value.oneCell']) (by simp [trips_length]; unfold maxLen; omega) (by simp [trips_length]; omega) ?_
                        intro v' w5 ho5 hg5 hb5
                        have hx5 : Ext w2 w5 := (show Ext w2 _ from (by repeat (first | exact Ext.refl _ | assumption | refine Ext.alloc ?_ _ | refine Ext.drewN ?_ _ | refine Ext.drew ?_))).onto hg5 (fun k hk => by have := (ho3.lt k hk).1; omega)))
                    rw [trips_snoc] at ho5
                    go_wp2_with fail
                    exact ⟨⟨q, _, O ++ [(tFst a q, tSnd b r)], by omega, rfl, rfl, hx5, ho5, by simp; omega, Lib.hid (by rw [HJ.out, HR.out, if_pos h0]; exact HD.out.add h0 HS.out (.inr (by have := HDD.out; simpa using this)))⟩, by simp only [intOf]; omega⟩
end Go.Proofs.Ytmmjjfjbhogfgaa
