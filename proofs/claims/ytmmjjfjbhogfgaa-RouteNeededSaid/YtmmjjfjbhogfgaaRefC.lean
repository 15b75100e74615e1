/- The specification's grown: journeys with one leg more. -/
import Derived.Test.YtmmjjfjbhogfgaaRefB
import Derived.Test.YtmmjjfjbhogfgaaIs
namespace Go.Proofs.Ytmmjjfjbhogfgaa
open Go.RowKit
attribute [local go_sem] Leg.val run_store_fn

def nilV : Value := .slice none 0 0
/-- Rows that are being filled in. -/
structure OutAt (w : World) (g B m : Nat) (vs : List Value) (os : List (Option (List Nat))) : Prop where
  lenv : vs.length = m
  leno : os.length = m
  row : ∀ q, q < m → IntsRow (fun b => b ≠ g ∧ B ≤ b) w (vs.getD q nilV) (os.getD q none)
theorem OutAt.keep {w w' : World} {g B m : Nat} {vs : List Value} {os : List (Option (List Nat))} {row : Option Nat} (h : OutAt w g B m vs os) (hg : w.grownBy w' row) (hr : row = none ∨ row = some g) : OutAt w' g B m vs os := by
  refine ⟨h.lenv, h.leno, fun q hq => (h.row q hq).keep hg (fun b hb => ?_)⟩
  rcases hr with rfl | rfl
  · simp
  · intro e; simp at e; exact hb.1 e
theorem OutAt.ext {w w' : World} {g B m : Nat} {vs : List Value} {os : List (Option (List Nat))} (h : OutAt w g B m vs os) (he : Ext w w') : OutAt w' g B m vs os := h.keep (he.grown none) (.inl rfl)
theorem getD_set {α : Type} (xs : List α) (k j : Nat) (x d : α) (hk : k < xs.length) : (xs.set k x).getD j d = if j = k then x else xs.getD j d := by
  simp only [List.getD_eq_getElem?_getD]
  by_cases h : j = k
  · subst h; simp [hk]
  · rw [if_neg h, List.getElem?_set_ne (fun e => h e.symm)]
theorem OutAt.put {w w' : World} {g B m i : Nat} {vs : List Value} {os : List (Option (List Nat))} (h : OutAt w g B m vs os) (hi : i < m) (hg : w.grownBy w' (some g)) {v : Value} {o : Option (List Nat)} (hv : IntsRow (fun b => b ≠ g ∧ B ≤ b) w v o) : OutAt w' g B m (vs.set i v) (os.set i o) := by
  have h1 := h.lenv
  have h2 := h.leno
  refine ⟨by simpa using h1, by simpa using h2, fun q hq => ?_⟩
  rw [getD_set _ _ _ _ _ (by omega), getD_set _ _ _ _ _ (by omega)]
  split
  · exact hv.keep hg (fun b hb e => by simp at e; exact hb.1 e)
  · exact (h.row q hq).keep hg (fun b hb e => by simp at e; exact hb.1 e)
theorem Own.valAt {w : World} {base g off n cap : Nat} {vs : List Value} (h : Own w base 1 (.slice (some ⟨g, off, none⟩) n cap) vs) {k : Nat} (hk : k < vs.length) :
    w.cell? ⟨g, off + k, none⟩ = some (vs.getD k nilV) ∧ w.frozen? ⟨g, off + k, none⟩ = false := by
  have := h.cellAt k hk
  rw [List.getElem?_eq_getElem hk] at this
  simpa [List.getD_eq_getElem?_getD, hk] using this
theorem OutAt.start (w : World) (g B m : Nat) : OutAt w g B m (List.replicate m nilV) (List.replicate m none) := by
  refine ⟨by simp, by simp, fun q hq => ?_⟩
  simp only [List.getD_eq_getElem?_getD, List.getElem?_replicate, hq, if_true, Option.getD_some]
  exact .inl ⟨rfl, rfl⟩
/-- At the end the rows lie there. -/
theorem OutAt.rows {w : World} {base g B off m cap : Nat} {vs : List Value} {os : List (Option (List Nat))} (h : OutAt w g B m vs os) (ho : Own w base 1 (.slice (some ⟨g, off, none⟩) m cap) vs) (hB : base ≤ B) : RowsIn (fun b => base ≤ b) w (some ⟨g, off, none⟩) os := by
  intro k hk
  have h1 := h.lenv
  have h2 := h.leno
  exact ⟨g, off, _, rfl, (ho.lt g rfl).2, (ho.lt g rfl).1, (ho.valAt (by omega)).1, (h.row k (by omega)).weaken (fun _ _ h => Nat.le_trans hB h.2)⟩
/-- A row that has just been made. -/
theorem Own.rowOf {w : World} {base g B : Nat} {v : Value} {x : List Nat} (h : Own w base 1 v (ints (nats x))) (hx : x ≠ []) (hg : g < base) (hB : B ≤ base) : IntsRow (fun b => b ≠ g ∧ B ≤ b) w v (some x) := by
  obtain ⟨ao, cap, rfl, hi, hb⟩ := h.intsShape
  have hp : 0 < x.length := List.length_pos_iff.2 hx
  obtain ⟨b, off, rfl, hlt, _⟩ := hi 0 (by rw [nats_length]; exact hp)
  have h1 := hb _ rfl
  rw [nats_length]
  exact .inr ⟨x, b, off, cap, rfl, hx, rfl, hlt, ⟨fun e => by have := h1.1; simp at this; omega, by have := h1.1; simp at this; omega⟩, hi⟩
theorem IntsIn.news {w : World} {b off : Nat} {xs : List Int} (h : IntsIn w (some ⟨b, off, none⟩) xs) : ∀ (j : Nat) (u : Value), (ints xs)[j]? = some u → w.cell? (Addr.add ⟨b, off, none⟩ j) = some u := by
  intro j u hu
  have hj := (List.getElem?_eq_some_iff.1 hu).1
  rw [ints_length] at hj
  obtain ⟨b', off', e, _, hc⟩ := h j hj
  simp only [Option.some.injEq, Addr.mk.injEq, and_true] at e
  obtain ⟨rfl, rfl⟩ := e
  rw [ints_at xs j hj] at hu
  have ea : Addr.add ⟨b, off, none⟩ j = ⟨b, off + j, none⟩ := by
    simp only [Addr.add]
    split
    · rename_i h; subst h; rfl
    · rfl
  rw [ea, hc, hu]
theorem ints_one (xs : List Int) : ∀ u ∈ ints xs, u.oneCell' = true := by
  intro u hu
  simp only [ints, List.mem_map] at hu
  obtain ⟨x, _, rfl⟩ := hu
  rfl
theorem grew_len {m : Nat} {fol : Nat → Nat → Bool} {first : Nat → Bool} {k i j : Nat} {x : List Nat} (h : GrewTo m fol first k i j x) : x.length = k + 2 := by
  obtain ⟨q, y, _, _, _, ⟨_, h⟩, rfl⟩ := h
  simp [h]
theorem grew_min {m : Nat} {fol : Nat → Nat → Bool} {first : Nat → Bool} {k i q : Nat} {y : List Nat} (hy : JK m fol first k q y ∧ ∀ x, JK m fol first k q x → Lx y x) : ∀ x, GrewOf m fol first k i q x → Lx (y ++ [i]) x := by
  rintro x ⟨_, _, y', hy', rfl⟩
  exact Lx.append _ (hy.2 y' hy') (by rw [hy.1.2, hy'.2])
theorem info_ints : (Try.prog.info? 25).map (fun i => (i.zero, i.size, i.bytes)) = some (some (.slice none 0 0), 1, 24) := by kernel_rfl

def RowsRes (w : World) (m : Nat) (P : Nat → List Nat → Prop) (e : Ending) (w' : World) : Prop :=
  ∃ g off cap os, e = .returned (.slice (some ⟨g, off, none⟩) m cap) ∧ RowsIn (fun b => w.heap.size ≤ b) w' (some ⟨g, off, none⟩) os ∧ w.heap.size ≤ g ∧ os.length = m ∧ (∀ i, i < m → LeastOf (P i) (os.getD i none)) ∧ Ext w w'

set_option maxRecDepth 100000 in
set_option maxHeartbeats 8000000 in
theorem grown_calls (w : World) (ao : Option Addr) (cap : Nat) (L : List Leg) (c n : Int) (no : Option Addr) (ncap : Nat) (rs : List (Option (List Nat))) (first : Nat → Bool) (kk : Nat)
    (hL : LegsIn w ao L) (hlen : L.length ≤ 100) (hc : 0 ≤ c ∧ c ≤ 101) (hfine : ∀ k, k < L.length → Fine n (leg L k)) (hR : RowsIn Any w no rs) (hrl : rs.length = L.length) (hkk : kk ≤ 200) (hle : ∀ q, q < L.length → LeastOf (JK L.length (folL c L) first kk q) (rs.getD q none)) :
    Calls Try.prog 77 #[.slice ao L.length cap, .int .i64 c, .slice no L.length ncap] w (RowsRes w L.length (JK L.length (folL c L) first (kk + 1))) := by
  have HF := Lib.hid hfine
  have HL := Lib.hid hle
  clear hfine hle
  obtain ⟨i0, hi, hz0, hz1, hz2⟩ := info_parts info_ints
  obtain ⟨j0, hj, hy0, hy1, hy2⟩ := info_parts info_int
  have hrun := fun (w : World) (a : Option Addr) (n c : Nat) => Lib.run_eql_slice_nil (P := Try.prog) w 25 3 a n c 0 0 Try.underlying25
  go_enter Try.func77, Try.ntmps77
  go_wp2_with (at_make; refine wpList_make_Own _ rfl _ _ 88 rfl 25 i0 (.slice none 0 0) Try.underlying88 hi hz0 hz1 rfl _ _ L.length rfl rfl rfl rfl (by rw [hz2]; omega) (by unfold maxLen; omega) ?_; intro g off cap1 w1 ho1 hx1)
  go_loopw [8] (fun ii wr => ∃ (i : Nat) (vs : List Value) (os : List (Option (List Nat))), i ≤ L.length ∧ ii = .int .i64 i ∧ Ext w wr ∧ Own wr w.heap.size 1 (.slice (some ⟨g, off, none⟩) L.length cap1) vs ∧ Hid (OutAt wr g w.heap.size L.length vs os) ∧ Hid (∀ p, p < L.length → (p < i → LeastOf (JK L.length (folL c L) first (kk + 1) p) (os.getD p none)) ∧ (i ≤ p → os.getD p none = none))) (fun ii _ => L.length - (intOf ii).toNat)
  case atStart =>
    refine ⟨0, _, _, by omega, rfl, hx1, ho1, Lib.hid (OutAt.start _ _ _ _), Lib.hid (fun p hp => ⟨fun h => by omega, fun _ => ?_⟩)⟩
    simp [List.getD_eq_getElem?_getD, hp]
  case round =>
    obtain ⟨i, vs, os, hi2, rfl, hx, ho, HO, HG⟩ := hrel
    by_cases hlt : i < L.length
    · go_wp2_with fail
      go_loopw [9] (fun qq ws => ∃ (q : Nat) (vs : List Value) (os : List (Option (List Nat))), q ≤ L.length ∧ qq = .int .i64 q ∧ Ext w ws ∧ Own ws w.heap.size 1 (.slice (some ⟨g, off, none⟩) L.length cap1) vs ∧ Hid (OutAt ws g w.heap.size L.length vs os) ∧ Hid (LeastOf (GrewTo L.length (folL c L) first kk i q) (os.getD i none) ∧ ∀ p, p < L.length → (p < i → LeastOf (JK L.length (folL c L) first (kk + 1) p) (os.getD p none)) ∧ (i < p → os.getD p none = none))) (fun qq _ => L.length - (intOf qq).toNat)
      case atStart =>
        refine ⟨0, vs, os, by omega, rfl, hx, ho, HO, Lib.hid ⟨?_, fun p hp => ⟨(HG.out p hp).1, fun h => (HG.out p hp).2 (by omega)⟩⟩⟩
        rw [(HG.out i hlt).2 (Nat.le_refl _)]
        exact grew_zero
      case round =>
        clear hx ho HO HG
        obtain ⟨q, vs, os, hq, rfl, hx, ho, HO, HG⟩ := hrel
        by_cases hlt2 : q < L.length
        · obtain ⟨nb, nf, v, hno, hnb, -, hncell, hnrow⟩ := (hR.ext hx) q (by omega)
          subst hno
          obtain ⟨lb, lf, hlo, hlb, -⟩ := hL.ext hx q hlt2
          subst hlo
          have harr : 0 ≤ (leg L q).Arr ∧ (leg L q).Arr ≤ 10000 := by have := HF.out q hlt2; unfold Fine at this; omega
          rcases hnrow with ⟨hno, rfl⟩ | ⟨y, yb, yf, ycap, hyo, hyne, rfl, hyb, -, hyi⟩
          · have HQ : Hid (∀ x, ¬ GrewOf L.length (folL c L) first kk i q x) := Lib.hid (by
              rintro x ⟨_, _, y, hy, _⟩
              have := HL.out q hlt2
              rw [hno] at this
              exact this.no y hy)
            clear hno
            go_wp2_with fail
            refine wp_region_after (by kernel_rfl) (by kernel_rfl) ?_
            intro hne
            have hcs := After.cell hncell hnb
            repeat (go_big_quiet_step (fail))
            refine wpQuiet_nil ?_
            intro w3 hx3
            have hxw3 := hx.trans hx3
            have ho3 := ho.ext hx3
            have HO3 := Lib.hid (HO.out.ext hx3)
            have HK := Lib.hid (And.intro (HG.out.1.skip HQ.out grew_succ) HG.out.2)
            go_wp2_with fail
            exact ⟨⟨q + 1, vs, os, by omega, rfl, hxw3, ho3, HO3, Lib.hid HK.out⟩, by simp only [intOf]; omega⟩
          · have HY : Hid (JK L.length (folL c L) first kk q y ∧ ∀ x, JK L.length (folL c L) first kk q x → Lx y x) := Lib.hid (by
              have := HL.out q hlt2
              rw [hyo] at this
              exact this.mem)
            clear hyo
            cases hfl : folB c (leg L q) (leg L i) with
            | false =>
              have Hf := Lib.hid hfl
              have HQ : Hid (∀ x, ¬ GrewOf L.length (folL c L) first kk i q x) := Lib.hid (by
                rintro x ⟨_, h, _⟩
                unfold folL at h
                rw [Hf.out] at h
                cases h)
              go_wp2_with fail
              refine wp_region_after (by kernel_rfl) (by kernel_rfl) ?_
              intro hne
              have hcs := After.cell hncell hnb
              have hqs := (hL.ext hx).after hlt2
              have his := (hL.ext hx).after hlt
              repeat (go_big_quiet_step ((go_at_call 56; exact Calls.after_eq (congrArg Value.bool hfl) (joins_calls _ (leg L q) (leg L i) c harr hc))))
              refine wpQuiet_nil ?_
              intro w3 hx3
              have hxw3 := hx.trans hx3
              have ho3 := ho.ext hx3
              have HO3 := Lib.hid (HO.out.ext hx3)
              have HK := Lib.hid (And.intro (HG.out.1.skip HQ.out grew_succ) HG.out.2)
              clear hfl
              go_wp2_with fail
              exact ⟨⟨q + 1, vs, os, by omega, rfl, hxw3, ho3, HO3, Lib.hid HK.out⟩, by simp only [intOf]; omega⟩
            | true =>
              have Hf := Lib.hid hfl
              go_wp2_with fail
              refine wp_region_after (by kernel_rfl) (by kernel_rfl) ?_
              intro hne
              have hcs := After.cell hncell hnb
              have hqs := (hL.ext hx).after hlt2
              have his := (hL.ext hx).after hlt
              repeat (go_big_quiet_step ((go_at_call 56; exact Calls.after_eq (congrArg Value.bool hfl) (joins_calls _ (leg L q) (leg L i) c harr hc))))
              refine wpQuiet_nil ?_
              intro w3 hx3
              clear hfl hcs hqs his
              have hxw3 := hx.trans hx3
              have ho3 := ho.ext hx3
              have HO3 := Lib.hid (HO.out.ext hx3)
              have hyl : y.length = kk + 1 := HY.out.1.2
              have hyi3 := hyi.ext hx3
              have hnc3 := (hx3.cell (p := ⟨nb, nf + q, none⟩) hnb).trans hncell
              have hnb3 : nb < w3.heap.size := Nat.lt_of_lt_of_le hnb hx3.size
              have hgb := (ho3.lt g rfl).1
              have hgl := (ho3.lt g rfl).2
              have Hyl := Lib.hid hyl
              have hyb2 : y.length ≤ 201 := by omega
              clear hyl
              obtain ⟨W, hW⟩ : ∃ W, W = w3.heap.size := ⟨_, rfl⟩
              have hvl := HO3.out.lenv
              have hgc := ho3.valAt (k := i) (by omega)
              clear hvl
              have HC := Lib.hid (grew_min (i := i) HY.out)
              rcases HO3.out.row i hlt with ⟨hoi, hvi⟩ | ⟨z, zb, zf, zcap, hoz, hzne, hvz, hzb, hzS, hzi⟩
              · rw [hvi] at hgc
                have HZ : Hid (∀ z, os.getD i none = some z → Lx (y ++ [i]) z) := Lib.hid (fun z h => by rw [hoi] at h; cases h)
                clear hvi hoi
                go_wp2_with (first
                  | (at_builtin; refine wpList_append_Own _ rfl _ _ 25 rfl 3 j0 (.int .i64 0) 1 8 Try.underlying25 hj hy0 hy1 hy2 rfl (by omega) W (.slice none 0 0) [] rfl (Own.nil _ _ _) (by omega) ⟨yb, yf, none⟩ y.length ycap (ints (nats y)) rfl (by simp [ints_length, nats_length]) hyi3.news (ints_one _) (by simp [ints_length, nats_length]; unfold maxLen; omega) (by simp [ints_length, nats_length]; omega) ?_; intro v5 w5 ho5 hg5 hb5; simp only [List.nil_append] at ho5; have hx5 : Ext w3 w5 := Ext.ofGrown hg5; have hs5 := hx5.size)
                  | (at_builtin; refine wpList_append_Own _ rfl _ _ 25 rfl 3 j0 (.int .i64 0) 1 8 Try.underlying25 hj hy0 hy1 hy2 rfl (by omega) W _ _ rfl (Own.ext ho5 ((Ext.refl _).alloc _)) (by simp; omega) _ 1 1 [.int .i64 (i : Int)] rfl rfl (one_cell _ _ _ _ rfl) (by simp [Value.oneCell']) (by simp [ints_length, nats_length]; unfold maxLen; omega) (by simp [ints_length, nats_length]; omega) ?_; intro v6 w6 ho6 hg6 hb6; have hx6 : Ext w3 w6 := (hx5.alloc _).onto hg6 (fun k hk => by have := (ho5.lt k hk).1; omega); rw [show ints (nats y) ++ [Value.int .i64 (i : Int)] = ints (nats (y ++ [i])) by simp [ints, nats]] at ho6; have hrow6 := Lib.hid (ho6.rowOf (g := g) (B := w.heap.size) (by simp) (by omega) (by omega)); obtain ⟨xo, xcap, rfl, hxi, -⟩ := ho6.intsShape; rw [nats_length] at hrow6 ⊢; have hgc6 := (hx6.cell (p := ⟨g, off + i, none⟩) hgl).trans hgc.1; have hgf6 := (hx6.frozen (p := ⟨g, off + i, none⟩) hgl).trans hgc.2; have hgl6 := Nat.lt_of_lt_of_le hgl hx6.size; have hlen6 : (y ++ [i]).length = y.length + 1 := by simp))
                have hrow7 : IntsRow (fun b => b ≠ g ∧ w.heap.size ≤ b) w6 (.slice xo (y.length + 1) xcap) (some (y ++ [i])) := by
                  have h := hrow6.out
                  rw [hlen6] at h
                  exact h.keep (row := none) (Ext.grown (Ext.refl w6) none) (fun _ _ => by simp)
                have hx36 : Ext w3 w6 := hx6.trans (Ext.refl w6)
                have hxw7 := hxw3.trans hx36
                have ho7 := ho3.ext hx36
                have HO7 := HO3.out.ext hx36
                have hl1 := HO7.lenv
                have hl2 := HO7.leno
                have HK := HG.out.1.take (Q := GrewOf L.length (folL c L) first kk i q) ⟨hlt2, Hf.out, y, HY.out.1, rfl⟩ HC.out grew_succ HZ.out
                refine ⟨⟨q + 1, vs.set i (.slice xo (y.length + 1) xcap), os.set i (some (y ++ [i])), by omega, rfl, hxw7.setOwn _ _ hgb, ho7.stored i (by omega) _, Lib.hid (HO7.put hlt (grownBy_setCell _ _ _) hrow7), Lib.hid ⟨?_, fun p hp => ⟨fun h => ?_, fun h => ?_⟩⟩⟩, by simp only [intOf]; omega⟩
                · rw [getD_set _ _ _ _ _ (by omega), if_pos rfl]
                  exact HK
                · rw [getD_set _ _ _ _ _ (by omega), if_neg (by omega)]
                  exact (HG.out.2 p hp).1 h
                · rw [getD_set _ _ _ _ _ (by omega), if_neg (by omega)]
                  exact (HG.out.2 p hp).2 h
              · rw [hvz] at hgc
                have HOz := Lib.hid hoz
                have hzl : z.length = kk + 2 := by
                  have := HG.out.1
                  rw [hoz] at this
                  exact grew_len this.mem.1
                have Hzl := Lib.hid hzl
                clear hvz hoz hzl hzne
                cases hls : lessB (y ++ [i]) z with
                | true =>
                  go_wp2_with (first
                    | (at_builtin; refine wpList_append_Own _ rfl _ _ 25 rfl 3 j0 (.int .i64 0) 1 8 Try.underlying25 hj hy0 hy1 hy2 rfl (by omega) W (.slice none 0 0) [] rfl (Own.nil _ _ _) (by omega) ⟨yb, yf, none⟩ y.length ycap (ints (nats y)) rfl (by simp [ints_length, nats_length]) hyi3.news (ints_one _) (by simp [ints_length, nats_length]; unfold maxLen; omega) (by simp [ints_length, nats_length]; omega) ?_; intro v5 w5 ho5 hg5 hb5; simp only [List.nil_append] at ho5; have hx5 : Ext w3 w5 := Ext.ofGrown hg5; have hs5 := hx5.size)
                    | (at_builtin; refine wpList_append_Own _ rfl _ _ 25 rfl 3 j0 (.int .i64 0) 1 8 Try.underlying25 hj hy0 hy1 hy2 rfl (by omega) W _ _ rfl (Own.ext ho5 ((Ext.refl _).alloc _)) (by simp; omega) _ 1 1 [.int .i64 (i : Int)] rfl rfl (one_cell _ _ _ _ rfl) (by simp [Value.oneCell']) (by simp [ints_length, nats_length]; unfold maxLen; omega) (by simp [ints_length, nats_length]; omega) ?_; intro v6 w6 ho6 hg6 hb6; have hx6 : Ext w3 w6 := (hx5.alloc _).onto hg6 (fun k hk => by have := (ho5.lt k hk).1; omega); rw [show ints (nats y) ++ [Value.int .i64 (i : Int)] = ints (nats (y ++ [i])) by simp [ints, nats]] at ho6; have hrow6 := Lib.hid (ho6.rowOf (g := g) (B := w.heap.size) (by simp) (by omega) (by omega)); obtain ⟨xo, xcap, rfl, hxi, -⟩ := ho6.intsShape; rw [nats_length] at hrow6 ⊢; have hgc6 := (hx6.cell (p := ⟨g, off + i, none⟩) hgl).trans hgc.1; have hgf6 := (hx6.frozen (p := ⟨g, off + i, none⟩) hgl).trans hgc.2; have hgl6 := Nat.lt_of_lt_of_le hgl hx6.size; have hlen6 : (y ++ [i]).length = y.length + 1 := by simp)
                    | (go_at_call 75; refine (less_calls _ xo (some ⟨zb, zf, none⟩) xcap zcap (y ++ [i]) z hxi (hzi.ext hx6) (by rw [hlen6, Hyl.out, Hzl.out]) (by rw [hlen6]; omega) (by first | rfl | simp) rfl).mono ?_; rintro e w7 ⟨rfl, hx7⟩; rw [hls]; have hgc7 := (hx7.cell (p := ⟨g, off + i, none⟩) hgl6).trans hgc6; have hgf7 := (hx7.frozen (p := ⟨g, off + i, none⟩) hgl6).trans hgf6; have hgl7 := Nat.lt_of_lt_of_le hgl6 hx7.size))
                  have HZ : Hid (∀ z, os.getD i none = some z → Lx (y ++ [i]) z) := Lib.hid (fun z' h => by
                    rw [HOz.out] at h
                    cases h
                    exact lessB_true (by rw [hlen6, Hyl.out, Hzl.out]) hls)
                  have hrow7 : IntsRow (fun b => b ≠ g ∧ w.heap.size ≤ b) w7 (.slice xo (y.length + 1) xcap) (some (y ++ [i])) := by
                    have h := hrow6.out
                    rw [hlen6] at h
                    exact h.keep (row := none) (Ext.grown hx7 none) (fun _ _ => by simp)
                  have hx36 : Ext w3 w7 := hx6.trans hx7
                  have hxw7 := hxw3.trans hx36
                  have ho7 := ho3.ext hx36
                  have HO7 := HO3.out.ext hx36
                  have hl1 := HO7.lenv
                  have hl2 := HO7.leno
                  have HK := HG.out.1.take (Q := GrewOf L.length (folL c L) first kk i q) ⟨hlt2, Hf.out, y, HY.out.1, rfl⟩ HC.out grew_succ HZ.out
                  refine ⟨⟨q + 1, vs.set i (.slice xo (y.length + 1) xcap), os.set i (some (y ++ [i])), by omega, rfl, hxw7.setOwn _ _ hgb, ho7.stored i (by omega) _, Lib.hid (HO7.put hlt (grownBy_setCell _ _ _) hrow7), Lib.hid ⟨?_, fun p hp => ⟨fun h => ?_, fun h => ?_⟩⟩⟩, by simp only [intOf]; omega⟩
                  · rw [getD_set _ _ _ _ _ (by omega), if_pos rfl]
                    exact HK
                  · rw [getD_set _ _ _ _ _ (by omega), if_neg (by omega)]
                    exact (HG.out.2 p hp).1 h
                  · rw [getD_set _ _ _ _ _ (by omega), if_neg (by omega)]
                    exact (HG.out.2 p hp).2 h
                | false =>
                  go_wp2_with (first
                    | (at_builtin; refine wpList_append_Own _ rfl _ _ 25 rfl 3 j0 (.int .i64 0) 1 8 Try.underlying25 hj hy0 hy1 hy2 rfl (by omega) W (.slice none 0 0) [] rfl (Own.nil _ _ _) (by omega) ⟨yb, yf, none⟩ y.length ycap (ints (nats y)) rfl (by simp [ints_length, nats_length]) hyi3.news (ints_one _) (by simp [ints_length, nats_length]; unfold maxLen; omega) (by simp [ints_length, nats_length]; omega) ?_; intro v5 w5 ho5 hg5 hb5; simp only [List.nil_append] at ho5; have hx5 : Ext w3 w5 := Ext.ofGrown hg5; have hs5 := hx5.size)
                    | (at_builtin; refine wpList_append_Own _ rfl _ _ 25 rfl 3 j0 (.int .i64 0) 1 8 Try.underlying25 hj hy0 hy1 hy2 rfl (by omega) W _ _ rfl (Own.ext ho5 ((Ext.refl _).alloc _)) (by simp; omega) _ 1 1 [.int .i64 (i : Int)] rfl rfl (one_cell _ _ _ _ rfl) (by simp [Value.oneCell']) (by simp [ints_length, nats_length]; unfold maxLen; omega) (by simp [ints_length, nats_length]; omega) ?_; intro v6 w6 ho6 hg6 hb6; have hx6 : Ext w3 w6 := (hx5.alloc _).onto hg6 (fun k hk => by have := (ho5.lt k hk).1; omega); rw [show ints (nats y) ++ [Value.int .i64 (i : Int)] = ints (nats (y ++ [i])) by simp [ints, nats]] at ho6; have hrow6 := Lib.hid (ho6.rowOf (g := g) (B := w.heap.size) (by simp) (by omega) (by omega)); obtain ⟨xo, xcap, rfl, hxi, -⟩ := ho6.intsShape; rw [nats_length] at hrow6 ⊢; have hgc6 := (hx6.cell (p := ⟨g, off + i, none⟩) hgl).trans hgc.1; have hgf6 := (hx6.frozen (p := ⟨g, off + i, none⟩) hgl).trans hgc.2; have hgl6 := Nat.lt_of_lt_of_le hgl hx6.size; have hlen6 : (y ++ [i]).length = y.length + 1 := by simp)
                    | (go_at_call 75; refine (less_calls _ xo (some ⟨zb, zf, none⟩) xcap zcap (y ++ [i]) z hxi (hzi.ext hx6) (by rw [hlen6, Hyl.out, Hzl.out]) (by rw [hlen6]; omega) (by first | rfl | simp) rfl).mono ?_; rintro e w7 ⟨rfl, hx7⟩; rw [hls]; have hgc7 := (hx7.cell (p := ⟨g, off + i, none⟩) hgl6).trans hgc6; have hgf7 := (hx7.frozen (p := ⟨g, off + i, none⟩) hgl6).trans hgf6; have hgl7 := Nat.lt_of_lt_of_le hgl6 hx7.size))
                  have hz2 := HG.out.1
                  rw [HOz.out] at hz2
                  have hx36 : Ext w3 w7 := hx6.trans hx7
                  refine ⟨⟨q + 1, vs, os, by omega, rfl, hxw3.trans hx36, ho3.ext hx36, Lib.hid (HO3.out.ext hx36), Lib.hid ⟨?_, HG.out.2⟩⟩, by simp only [intOf]; omega⟩
                  rw [HOz.out]
                  exact hz2.keep HC.out grew_succ (lessB_false (by rw [hlen6, Hyl.out, Hzl.out]) hls)
        · obtain rfl : q = L.length := by omega
          go_wp2_with fail
          refine ⟨⟨i + 1, vs, os, by omega, rfl, hx, ho, HO, Lib.hid (fun p hp => ⟨fun h => ?_, fun h => (HG.out.2 p hp).2 (by omega)⟩)⟩, by simp only [intOf]; omega⟩
          by_cases e : p = i
          · subst e
            exact HG.out.1.congr (grew_end hlt)
          · exact (HG.out.2 p hp).1 (by omega)
    · obtain rfl : i = L.length := by omega
      go_wp2_with fail
      go_ret
      exact ⟨g, off, cap1, os, rfl, HO.out.rows ho (Nat.le_refl _), (ho.lt g rfl).1, HO.out.leno, fun i hi => (HG.out i hi).1 hi, hx⟩
end Go.Proofs.Ytmmjjfjbhogfgaa
