/- Trips: how early one comes with how few changes. -/
import Derived.Test.YtmmjjfjbhogfgaaChanges
import Derived.Test.YtmmjjfjbhogfgaaEarly
namespace Go.Proofs.Ytmmjjfjbhogfgaa
open Go.RowKit
attribute [local go_sem] Leg.val run_store_fn

def trips (T : List (Int × Int)) : List Value := T.flatMap (fun t => [.int .i64 t.1, .int .i64 t.2])
theorem trips_length (T : List (Int × Int)) : (trips T).length = T.length * 2 := by
  induction T with
  | nil => rfl
  | cons a r ih => simp only [trips, List.flatMap_cons, List.length_append, List.length_cons, List.length_nil] at ih ⊢; omega
theorem trips_snoc (T : List (Int × Int)) (x y : Int) : trips T ++ [.int .i64 x, .int .i64 y] = trips (T ++ [(x, y)]) := by simp [trips]
theorem Own.tripShape {w : World} {base : Nat} {v : Value} {T : List (Int × Int)} (h : Own w base 2 v (trips T)) :
    ∃ ao cap, v = .slice ao T.length cap ∧ (T ≠ [] → ∃ g off, ao = some ⟨g, off, none⟩ ∧ g < w.heap.size ∧ w.cell? ⟨g, off + (T.length - 1) * 2 + 1, none⟩ = some (.int .i64 (lastArr T))) := by
  have hl := trips_length T
  rcases h.shape (by omega) with ⟨rfl, hx⟩ | ⟨g, off, cap, rfl, hb, hlt, _, _⟩
  · have : T = [] := by
      cases T with
      | nil => rfl
      | cons a r => simp [trips] at hx
    subst this
    exact ⟨none, 0, rfl, fun h => (h rfl).elim⟩
  · refine ⟨some ⟨g, off, none⟩, cap, by rw [hl]; simp, fun hne => ⟨g, off, rfl, hlt, ?_⟩⟩
    have hpos : 0 < T.length := List.length_pos_iff.2 hne
    have := (h.cellAt ((T.length - 1) * 2 + 1) (by omega)).1
    rw [Nat.add_assoc, this]
    obtain ⟨T', p, rfl⟩ : ∃ T' p, T = T' ++ [p] := ⟨T.dropLast, T.getLast hne, (List.dropLast_concat_getLast hne).symm⟩
    obtain ⟨x, y⟩ := p
    rw [← trips_snoc, List.getElem?_append_right (by rw [trips_length]; simp)]
    rw [trips_length]
    simp [lastArr]

/-- Leg i can be come to with at most k changes. -/
def Within (c : Int) (L : List Leg) (first : Nat → Bool) (k i : Nat) : Prop := ∃ y, Jn L.length (folL c L) first (fun q => q == i) y ∧ wsum (wtL L) y ≤ k
theorem Fewest.within {c : Int} {L : List Leg} {first : Nat → Bool} {xs : List Int} (h : Fewest L.length (folL c L) (wtL L) first xs) (k i : Nat) (hi : i < L.length) : (0 ≤ ith xs i ∧ ith xs i ≤ k) ↔ Within c L first k i := by
  constructor
  · rintro ⟨h0, h1⟩
    obtain ⟨y, hy, hs⟩ := h.sound i hi h0
    exact ⟨y, hy, by omega⟩
  · rintro ⟨y, hy, hs⟩
    have := h.least i y hi hy
    omega
def TripsOf (n : Int) (L : List Leg) (c src dst at_ : Int) (T : List (Int × Int)) (er : Int) : Prop :=
  (goodE n L c src dst [at_] ≠ 0 ∧ T = [] ∧ er = goodE n L c src dst [at_]) ∨
  (goodE n L c src dst [at_] = 0 ∧ src = dst ∧ T = [(0, at_)] ∧ er = 0) ∨
  (goodE n L c src dst [at_] = 0 ∧ src ≠ dst ∧ Rec (fun k a => ArrAt L dst (Within c L (fun i => begB src at_ (leg L i)) k) L.length a) L.length T ∧ er = if T = [] then 10 else 0)
def TripsRes (w : World) (n : Int) (L : List Leg) (c src dst at_ : Int) (e : Ending) (w' : World) : Prop :=
  ∃ v T er, e = .returned (.tuple #[v, .int .i64 er]) ∧ Own w' w.heap.size 2 v (trips T) ∧ TripsOf n L c src dst at_ T er ∧ Ext w w'

theorem trips1_calls (w : World) (b1 b2 : Nat) (src at_ : Int) (l : Leg) (h1 : IntBox w b1 src) (h2 : IntBox w b2 at_) :
    Calls Try.prog 53 #[l.val, .pointer (some ⟨b1, 0, none⟩), .pointer (some ⟨b2, 0, none⟩)] w fun e w' => e = .returned (.bool (begB src at_ l)) ∧ Ext w w' := by
  obtain ⟨h1l, h1c⟩ := h1
  obtain ⟨h2l, h2c⟩ := h2
  go_enter Try.func53, Try.ntmps53
  go_wp2_with (go_at_call 48; refine (begins_calls _ l src at_).mono ?_; rintro e w' ⟨rfl, hx⟩)
  go_ret
  exact ⟨rfl, ((Ext.refl w).alloc _).trans hx⟩
theorem pred_trips1 (w : World) (b1 b2 : Nat) (src at_ : Int) (h1 : IntBox w b1 src) (h2 : IntBox w b2 at_) :
    Pred w 53 #[.pointer (some ⟨b1, 0, none⟩), .pointer (some ⟨b2, 0, none⟩)] (fun _ => True) (begB src at_) :=
  ⟨by intro args w'; simp [go_sem], fun w' l hx _ => trips1_calls w' b1 b2 src at_ l (h1.ext hx) (h2.ext hx)⟩

theorem boxes3 (w : World) (t : TypeId) (a b d : Int) :
    Ext w (((w.alloc (Obj.cells #[Value.int IntKind.i64 a] t)).alloc (Obj.cells #[Value.int IntKind.i64 b] t)).alloc (Obj.cells #[Value.int IntKind.i64 d] t)) ∧
    IntBox (((w.alloc (Obj.cells #[Value.int IntKind.i64 a] t)).alloc (Obj.cells #[Value.int IntKind.i64 b] t)).alloc (Obj.cells #[Value.int IntKind.i64 d] t)) w.heap.size a ∧
    IntBox (((w.alloc (Obj.cells #[Value.int IntKind.i64 a] t)).alloc (Obj.cells #[Value.int IntKind.i64 b] t)).alloc (Obj.cells #[Value.int IntKind.i64 d] t)) (w.heap.size + 1) b ∧
    IntsIn (((w.alloc (Obj.cells #[Value.int IntKind.i64 a] t)).alloc (Obj.cells #[Value.int IntKind.i64 b] t)).alloc (Obj.cells #[Value.int IntKind.i64 d] t)) (some ⟨w.heap.size + 1 + 1, 0, none⟩) [d] := by
  have B : ∀ (w : World) (x : Int), IntBox (w.alloc (Obj.cells #[Value.int IntKind.i64 x] t)) w.heap.size x := fun w x => ⟨by simp, by simp [go_sem]⟩
  have E : ∀ (w : World) (x : Int), Ext w (w.alloc (Obj.cells #[Value.int IntKind.i64 x] t)) := fun w x => (Ext.refl w).alloc _
  refine ⟨(by repeat (first | exact Ext.refl _ | assumption | refine Ext.alloc ?_ _ | refine Ext.drewN ?_ _ | refine Ext.drew ?_)), ((B w a).ext (E _ b)).ext (E _ d), ?_, ?_⟩
  · have := (B (w.alloc (Obj.cells #[Value.int IntKind.i64 a] t)) b).ext (E _ d)
    simpa using this
  · have := one_int ((w.alloc (Obj.cells #[Value.int IntKind.i64 a] t)).alloc (Obj.cells #[Value.int IntKind.i64 b] t)) t d
    simpa using this
theorem info_trip : (Try.prog.info? 36).map (fun i => (i.zero, i.size, i.bytes)) = some (some (.agg #[.int .i64 0, .int .i64 0]), 2, 16) := by kernel_rfl
theorem two_cell (w : World) (x y : Value) (t : TypeId) (z : Nat) (hz : z = w.heap.size) : ∀ (j : Nat) (u : Value), [x, y][j]? = some u → (w.alloc (.cells #[x, y] t)).cell? (Addr.add ⟨z, 0, none⟩ j) = some u := by
  subst hz
  intro j u h
  match j with
  | 0 => simp at h; subst h; simp [go_sem]
  | 1 => simp at h; subst h; simp [go_sem]
  | j + 2 => simp at h
theorem Own.fresh2 {w : World} {t : TypeId} (base : Nat) (x y : Value) (hb : base ≤ w.heap.size) : Own (w.alloc (.cells #[x, y] t)) base 2 (.slice (some ⟨w.heap.size, 0, none⟩) 1 1) [x, y] := by
  refine ⟨1, rfl, .inr ⟨w.heap.size, 0, 1, rfl, hb, by simp, Nat.le_refl _, by unfold maxLen; omega, fun j hj => ?_, fun j hj => ?_⟩⟩
  · match j, hj with
    | 0, _ => simp [go_sem]
    | 1, _ => simp [go_sem]
  · match j, hj with
    | 0, _ => simp [go_sem]
    | 1, _ => simp [go_sem]

set_option maxRecDepth 100000 in
set_option maxHeartbeats 2000000 in
theorem trips_calls (w : World) (n : Int) (ao : Option Addr) (cap : Nat) (L : List Leg) (c src dst at_ : Int) (hL : LegsIn w ao L) (hlen : L.length ≤ 10000000) :
    Calls Try.prog 24 #[.int .i64 n, .slice ao L.length cap, .int .i64 c, .int .i64 src, .int .i64 dst, .int .i64 at_] w (TripsRes w n L c src dst at_) := by
  obtain ⟨i0, hi, hz0, hz1, hz2⟩ := info_parts info_trip
  go_enter Try.func24, Try.ntmps24
  go_wp2_with fail
  obtain ⟨hx4, hb1, hb2, hts⟩ := boxes3 w 3 src at_ at_
  generalize ((w.alloc (Obj.cells #[Value.int IntKind.i64 src] 3)).alloc (Obj.cells #[Value.int IntKind.i64 at_] 3)).alloc (Obj.cells #[Value.int IntKind.i64 at_] 3) = w4 at *
  refine (of_calls w4 n ao cap L c src dst _ 1 [at_] (hL.ext hx4) hlen hts (by simp)).mono ?_
  rintro e w5 ⟨hx5, ⟨hg, rfl⟩ | ⟨hg, tb, rfl, htb, hT⟩⟩
  · have hne : (goodE n L c src dst [at_] != 0) = true := by simpa using hg
    have HG := Lib.hid hg
    clear hg
    go_wp2_with fail
    go_ret2
    exact ⟨_, [], _, rfl, Own.nil _ _ _, .inl ⟨HG.out, rfl, rfl⟩, hx4.trans hx5⟩
  · have HG := Lib.hid hg
    have hgood := good_iff.1 hg
    have hlen2 := hgood.len
    have hch := hgood.change
    have HF := Lib.hid hgood.fine
    clear hg hgood
    obtain ⟨hb1l, hb1c⟩ := hb1.ext hx5
    obtain ⟨hb2l, hb2c⟩ := hb2.ext hx5
    have hxw := hx4.trans hx5
    cases hsd : (src == dst) with
    | true =>
      have hsd' : src = dst := by simpa using hsd
      have HS := Lib.hid hsd'
      clear hsd'
      go_wp2_with fail
      go_ret2
      exact ⟨_, [(0, at_)], _, rfl, Own.fresh2 _ _ _ hxw.size, .inr (.inl ⟨HG.out, HS.out, rfl, rfl⟩), hxw.alloc _⟩
    | false =>
      have hsd' : src ≠ dst := by simpa using hsd
      have HS := Lib.hid hsd'
      clear hsd'
      have hp1 := pred_trips1 w5 w.heap.size (w.heap.size + 1) src at_ ⟨hb1l, hb1c⟩ ⟨hb2l, hb2c⟩
      go_wp2_with fail
      refine (changes_calls w5 tb n ao cap L c _ _ _ _ hT (hL.ext hxw) (by omega) hp1 (fun _ _ => trivial) (by omega) HF.out).mono ?_
      rintro e wC ⟨fv, xs, rfl, ho, hFew, hx6⟩
      have HW := Lib.hid hFew
      have hxl := hFew.length
      clear hFew
      have hxC := hxw.trans hx6
      obtain ⟨so, scap, rfl, hSin, hsb⟩ := ho.intsShape
      rw [hxl]
      have hLC := hL.ext hxC
      obtain ⟨W, hW⟩ : ∃ W, W = wC.heap.size := ⟨_, rfl⟩
      go_wp2_with fail
      go_loopw [50, 17] (fun i out wr => ∃ (k : Nat) (T : List (Int × Int)), k ≤ L.length ∧ i = .int .i64 k ∧ Ext wC wr ∧ Own wr W 2 out (trips T) ∧ T.length ≤ k ∧ Hid (Rec (fun k a => ArrAt L dst (Within c L (fun i => begB src at_ (leg L i)) k) L.length a) k T)) (fun i _ _ => L.length - (intOf i).toNat)
      case atStart => exact ⟨0, [], by omega, rfl, Ext.refl _, Own.nil _ _ _, by simp, Lib.hid .zero⟩
      case round =>
        obtain ⟨k, T, hk, rfl, hx, ho2, hTl, HR⟩ := hrel
        have hxWr := hx.size
        by_cases hlt : k < L.length
        · go_wp2_with fail
          go_loopw [55, 19] (fun i arr ws => ∃ (j : Nat) (a : Int), j ≤ L.length ∧ i = .int .i64 j ∧ arr = .int .i64 a ∧ Ext wr ws ∧ Hid (ArrAt L dst (fun i => 0 ≤ ith xs i ∧ ith xs i ≤ k) j a)) (fun i _ _ => L.length - (intOf i).toNat)
          case atStart => exact ⟨0, -1, by omega, rfl, rfl, Ext.refl _, Lib.hid (.inl ⟨rfl, fun i hi => by omega⟩)⟩
          case round =>
            obtain ⟨j, a, hj, rfl, rfl, hxs, HA⟩ := hrel
            by_cases hlt2 : j < L.length
            · have hxrs := hx.trans hxs
              obtain ⟨b2, lo2, hao2, hbr, h0r, h1r, h2r, h3r, h4r⟩ := hLC.ext hxrs j hlt2
              subst hao2
              obtain ⟨sb, so', hso, hsb', hck⟩ := (hSin.ext hxrs) j (by omega)
              subst hso
              have harr : 0 ≤ (leg L j).Arr := by
                have := HF.out j hlt2
                unfold Fine at this
                omega
              by_cases hto : (leg L j).To = dst
              · have hto' : ((leg L j).To == dst) = true := by simp [hto]
                cases hd0 : decide (0 ≤ ith xs j) with
                | false =>
                  have HK := Lib.hid (HA.out.skip (by simp at hd0; rintro ⟨h, _⟩; omega))
                  try clear hto
                  go_wp2_with fail
                  exact ⟨⟨j + 1, a, by omega, rfl, rfl, hxs.alloc _, Lib.hid HK.out⟩, by simp only [intOf]; omega⟩
                | true =>
                  cases hd1 : decide (ith xs j ≤ (k : Int)) with
                  | false =>
                    have HK := Lib.hid (HA.out.skip (by simp at hd1; rintro ⟨h, _⟩; omega))
                    try clear hto
                    go_wp2_with fail
                    exact ⟨⟨j + 1, a, by omega, rfl, rfl, hxs.alloc _, Lib.hid HK.out⟩, by simp only [intOf]; omega⟩
                  | true =>
                    by_cases ha : a = -1
                    · subst ha
                      have HK := Lib.hid (HA.out.take (by simp at hd0 hd1; exact ⟨hd0, hd1⟩) hto harr (.inl (by omega)))
                      try clear hto
                      go_wp2_with fail
                      exact ⟨⟨j + 1, (leg L j).Arr, by omega, rfl, rfl, hxs.alloc _, Lib.hid HK.out⟩, by simp only [intOf]; omega⟩
                    · have h0 : 0 ≤ a := by
                        rcases HA.out.bound with h | h
                        · exact (ha h).elim
                        · exact h
                      have hd3 : decide (a < 0) = false := by simp; omega
                      cases hd2 : decide ((leg L j).Arr < a) with
                      | true =>
                        have HK := Lib.hid (HA.out.take (by simp at hd0 hd1; exact ⟨hd0, hd1⟩) hto harr (.inr (by simpa using hd2)))
                        try clear hto
                        go_wp2_with fail
                        exact ⟨⟨j + 1, (leg L j).Arr, by omega, rfl, rfl, hxs.alloc _, Lib.hid HK.out⟩, by simp only [intOf]; omega⟩
                      | false =>
                        have HK := Lib.hid (HA.out.keep h0 (by simp at hd2; omega))
                        try clear hto
                        go_wp2_with fail
                        exact ⟨⟨j + 1, a, by omega, rfl, rfl, hxs.alloc _, Lib.hid HK.out⟩, by simp only [intOf]; omega⟩
              · have hto' : ((leg L j).To == dst) = false := by simp [hto]
                have HK := Lib.hid (HA.out.skip (by simp [hto]))
                try clear hto
                go_wp2_with fail
                exact ⟨⟨j + 1, a, by omega, rfl, rfl, hxs.alloc _, Lib.hid HK.out⟩, by simp only [intOf]; omega⟩
            · obtain rfl : j = L.length := by omega
              have hQ : ArrAt L dst (Within c L (fun i => begB src at_ (leg L i)) k) L.length a := HA.out.congr (fun i hi => HW.out.within k i hi)
              have HQ := Lib.hid hQ
              have hab := hQ.bound
              clear hQ
              have hxrs := hx.trans hxs
              have ho3 := ho2.ext hxs
              have hWs := hxrs.size
              obtain ⟨oo, ocap, rfl, hne⟩ := ho3.tripShape
              by_cases ha : a = -1
              · subst ha
                go_wp2_with fail
                exact ⟨⟨k + 1, T, by omega, rfl, hxrs, ho3, by omega, Lib.hid (.skip HR.out HQ.out (.inl (by omega)))⟩, by simp only [intOf]; omega⟩
              · have h0 : 0 ≤ a := by omega
                have hd3 : decide (0 ≤ a) = true := by simp; omega
                by_cases hT0 : T = []
                · have hl0 : T.length = 0 := by simp [hT0]
                  have HT0 := Lib.hid hT0
                  clear hT0 hne
                  go_wp2_with (at_builtin; refine wpList_append_Own _ rfl _ _ 32 rfl 36 i0 (.agg #[.int .i64 0, .int .i64 0]) 2 16 Try.underlying32 hi hz0 hz1 hz2 rfl (by omega) W _ _ rfl (Own.ext ho3 ((Ext.refl _).alloc _)) (by simp; omega) _ 1 1 [.int .i64 (k : Int), .int .i64 a] rfl rfl (two_cell _ _ _ _ _ rfl) (by simp [Value.oneCell']) (by simp [trips_length]; unfold maxLen; omega) (by simp [trips_length]; omega) ?_; intro v' w5 ho5 hg5 hb5)
                  rw [trips_snoc] at ho5
                  have hx5 : Ext wC w5 := (hxrs.alloc _).onto hg5 (fun q hq => by have := (ho3.lt q hq).1; omega)
                  exact ⟨⟨k + 1, _, by omega, rfl, hx5, ho5, by simp; omega, Lib.hid (.add HR.out HQ.out h0 (.inl HT0.out))⟩, by simp only [intOf]; omega⟩
                · obtain ⟨og, oof, rfl, hogl, hoc⟩ := hne hT0
                  have hTp : 0 < T.length := List.length_pos_iff.2 hT0
                  cases hd2 : decide (a < lastArr T) with
                  | false =>
                    go_wp2_with fail
                    exact ⟨⟨k + 1, T, by omega, rfl, hxrs, ho3, by omega, Lib.hid (.skip HR.out HQ.out (.inr ⟨hT0, by simpa using hd2⟩))⟩, by simp only [intOf]; omega⟩
                  | true =>
                    go_wp2_with (at_builtin; refine wpList_append_Own _ rfl _ _ 32 rfl 36 i0 (.agg #[.int .i64 0, .int .i64 0]) 2 16 Try.underlying32 hi hz0 hz1 hz2 rfl (by omega) W _ _ rfl (Own.ext ho3 ((Ext.refl _).alloc _)) (by simp; omega) _ 1 1 [.int .i64 (k : Int), .int .i64 a] rfl rfl (two_cell _ _ _ _ _ rfl) (by simp [Value.oneCell']) (by simp [trips_length]; unfold maxLen; omega) (by simp [trips_length]; omega) ?_; intro v' w5 ho5 hg5 hb5)
                    rw [trips_snoc] at ho5
                    have hx5 : Ext wC w5 := (hxrs.alloc _).onto hg5 (fun q hq => by have := (ho3.lt q hq).1; omega)
                    exact ⟨⟨k + 1, _, by omega, rfl, hx5, ho5, by simp; omega, Lib.hid (.add HR.out HQ.out h0 (.inr (by simpa using hd2)))⟩, by simp only [intOf]; omega⟩
        · obtain rfl : k = L.length := by omega
          obtain ⟨oo, ocap, rfl, hne⟩ := ho2.tripShape
          by_cases hT0 : T = []
          · subst hT0
            go_wp2_with fail
            go_ret2
            exact ⟨_, [], 10, rfl, Own.nil _ _ _, .inr (.inr ⟨HG.out, HS.out, HR.out, by simp⟩), hxC.trans hx⟩
          · have hTp : 0 < T.length := List.length_pos_iff.2 hT0
            have HT0 := Lib.hid hT0
            clear hT0 hne
            go_wp2_with fail
            go_ret2
            exact ⟨_, T, 0, rfl, ho2.rebase (by have := hxC.size; omega), .inr (.inr ⟨HG.out, HS.out, HR.out, by rw [if_neg HT0.out]⟩), hxC.trans hx⟩
end Go.Proofs.Ytmmjjfjbhogfgaa
