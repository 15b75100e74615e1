/- The awake part: three legs. -/
import Derived.Test.YtmmjjfjbhogfgaaTrips
namespace Go.Proofs.Ytmmjjfjbhogfgaa
open Go.RowKit
attribute [local go_sem] Leg.val run_store_fn

def L3 : List Leg := [⟨0, 1, 10, 20, 1⟩, ⟨1, 2, 22, 30, 2⟩, ⟨1, 2, 20, 40, 1⟩]
theorem three_calls (w : World) : Calls Try.prog 42 #[] w fun e w' => e = .returned (.slice (some ⟨w.heap.size, 0, none⟩) 3 3) ∧ LegsIn w' (some ⟨w.heap.size, 0, none⟩) L3 ∧ Ext w w' := by
  go_enter Try.func42, Try.ntmps42
  go_wp2_with fail
  go_ret
  refine ⟨rfl, fun k hk => ?_, (by repeat (first | exact Ext.refl _ | assumption | refine Ext.alloc ?_ _ | refine Ext.drewN ?_ _ | refine Ext.drew ?_))⟩
  have : k = 0 ∨ k = 1 ∨ k = 2 := by simp [L3] at hk; omega
  rcases this with rfl | rfl | rfl <;> exact ⟨w.heap.size, 0, rfl, by simp, by simp [go_sem, L3, leg], by simp [go_sem, L3, leg], by simp [go_sem, L3, leg], by simp [go_sem, L3, leg], by simp [go_sem, L3, leg]⟩

theorem same_calls (w : World) (xo yo : Option Addr) (xcap ycap : Nat) (xs ys : List Int) (hx : IntsIn w xo xs) (hy : IntsIn w yo ys) (hxl : xs.length ≤ 10000000) (hyl : ys.length ≤ 10000000) :
    Calls Try.prog 22 #[.slice xo xs.length xcap, .slice yo ys.length ycap] w fun e w' => e = .returned (.bool (decide (xs = ys))) ∧ Ext w w' := by
  cases hl : ((xs.length : Int) != (ys.length : Int)) with
  | true =>
    have HL := Lib.hid hl
    go_enter Try.func22, Try.ntmps22
    go_wp2_with fail
    go_ret
    refine ⟨ret_bool ?_, (by repeat (first | exact Ext.refl _ | assumption | refine Ext.alloc ?_ _ | refine Ext.drewN ?_ _ | refine Ext.drew ?_))⟩
    symm
    simp only [decide_eq_false_iff_not]
    rintro rfl
    simp at hl
  | false =>
    have hlen : xs.length = ys.length := by simp at hl; omega
    go_enter Try.func22, Try.ntmps22
    go_wp2_with fail
    go_loopw [5] (fun i wr => ∃ k : Nat, k ≤ xs.length ∧ i = .int .i64 k ∧ Ext w wr ∧ Hid (∀ j, j < k → ith xs j = ith ys j)) (fun i _ => xs.length - (intOf i).toNat)
    case atStart => exact ⟨0, by omega, rfl, (by repeat (first | exact Ext.refl _ | assumption | refine Ext.alloc ?_ _ | refine Ext.drewN ?_ _ | refine Ext.drew ?_)), Lib.hid (fun j hj => by omega)⟩
    case round =>
      obtain ⟨k, hk, rfl, hxr, HN⟩ := hrel
      by_cases hlt : k < xs.length
      · obtain ⟨xb, xf, hxo, hxb, hxc⟩ := hx.ext hxr k hlt
        obtain ⟨yb, yf, hyo, hyb, hyc⟩ := hy.ext hxr k (by omega)
        subst hxo hyo
        have hlty : k < ys.length := by omega
        cases hd : (ith xs k != ith ys k) with
        | true =>
          go_wp2_with fail
          refine wp_region_after (by kernel_rfl) (by kernel_rfl) ?_
          intro hne
          have hxs := After.cell hxc hxb
          have hys := After.cell hyc hyb
          repeat (go_big_quiet_step (fail))
          refine wpQuiet_nil ?_
          intro w3 hx3
          have HD := Lib.hid hd
          clear hd
          go_wp2_with fail
          go_ret
          refine ⟨ret_bool ?_, hxr.trans hx3⟩
          symm
          simp only [decide_eq_false_iff_not]
          rintro rfl
          have := HD.out
          simp at this
        | false =>
          go_wp2_with fail
          refine wp_region_after (by kernel_rfl) (by kernel_rfl) ?_
          intro hne
          have hxs := After.cell hxc hxb
          have hys := After.cell hyc hyb
          repeat (go_big_quiet_step (fail))
          refine wpQuiet_nil ?_
          intro w3 hx3
          have HD := Lib.hid hd
          clear hd
          go_wp2_with fail
          refine ⟨⟨k + 1, by omega, rfl, hxr.trans hx3, Lib.hid (fun j hj => ?_)⟩, by simp only [intOf]; omega⟩
          rcases Nat.lt_or_ge j k with h | h
          · exact HN.out j h
          · obtain rfl : j = k := by omega
            have := HD.out
            simpa using this
      · go_wp2_with fail
        go_ret
        refine ⟨ret_bool ?_, hxr⟩
        symm
        simp only [decide_eq_true_eq]
        refine List.ext_getElem hlen (fun i h1 h2 => ?_)
        have := HN.out i (by omega)
        simpa [ith, h1, h2] using this

theorem jn3 {fol : Nat → Nat → Bool} {first last : Nat → Bool} {y : List Nat} (hfol : ∀ i j, i < 3 → j < 3 → fol i j = true → i = 0 ∧ j ≠ 0) (hfirst : ∀ i, i < 3 → first i = true → i = 0) (h : Jn 3 fol first last y) :
    (y = [0] ∧ last 0 = true) ∨ ∃ j, y = [0, j] ∧ j < 3 ∧ j ≠ 0 ∧ fol 0 j = true ∧ last j = true := by
  obtain ⟨i, r, rfl, hf, hp⟩ := h
  obtain rfl := hfirst i hp.1 hf
  cases r with
  | nil => exact .inl ⟨rfl, hp.one_inv⟩
  | cons j s =>
    have h1 := hp.cons_inv
    have h2 := hfol 0 j (by omega) h1.2.lt h1.1
    cases s with
    | nil => exact .inr ⟨j, rfl, h1.2.lt, h2.2, h1.1, h1.2.one_inv⟩
    | cons q s =>
      have h3 := h1.2.cons_inv
      have h4 := hfol j q h1.2.lt h3.2.lt h3.1
      exact (h2.2 h4.1).elim
theorem jn3_one {fol : Nat → Nat → Bool} {first last : Nat → Bool} {j : Nat} (hf : first 0 = true) (hj : j < 3) (hfol : fol 0 j = true) (hl : last j = true) : Jn 3 fol first last [0, j] :=
  ⟨0, [j], rfl, hf, .cons (by omega) hfol (.one hj hl)⟩

theorem fol3 (c : Int) (_hc : 0 ≤ c) : ∀ i j, i < 3 → j < 3 → folL c L3 i j = true → i = 0 ∧ j ≠ 0 := by
  intro i j hi hj h
  have h1 : i = 0 ∨ i = 1 ∨ i = 2 := by omega
  have h2 : j = 0 ∨ j = 1 ∨ j = 2 := by omega
  rcases h1 with rfl | rfl | rfl <;> rcases h2 with rfl | rfl | rfl <;> simp [folL, folB, L3, leg] at h ⊢
theorem first3 : ∀ i, i < 3 → begB 0 0 (leg L3 i) = true → i = 0 := by
  intro i hi h
  have h1 : i = 0 ∨ i = 1 ∨ i = 2 := by omega
  rcases h1 with rfl | rfl | rfl <;> simp [begB, L3, leg] at h ⊢
theorem good3 (c : Int) (hc : 0 ≤ c ∧ c ≤ 100) : goodE 3 L3 c 0 2 [0] = 0 := by
  rw [good_iff]
  refine ⟨by omega, by simp [L3], fun k hk => ?_, hc, by omega, by omega, fun k hk => ?_⟩
  · have : k = 0 ∨ k = 1 ∨ k = 2 := by simp [L3] at hk; omega
    rcases this with rfl | rfl | rfl <;> simp [Fine, leg, L3]
  · have : k = 0 := by simp at hk; omega
    subst this; simp [ith]
theorem begin3 : begB 0 0 (leg L3 0) = true := by decide
theorem come3 {c : Int} (hc : 0 ≤ c) {i : Nat} (hi : i < 3) (h : ComeTo c L3 (fun i => begB 0 0 (leg L3 i)) i) : i = 0 ∨ folL c L3 0 i = true := by
  obtain ⟨y, hy⟩ := h
  rcases jn3 (fol3 c hc) first3 hy with ⟨rfl, h⟩ | ⟨j, rfl, _, _, hf, h⟩
  · simp at h; exact .inl h.symm
  · simp at h; subst h; exact .inr hf

theorem arr3a : ArrAt L3 2 (ComeTo 5 L3 (fun i => begB 0 0 (leg L3 i))) L3.length 40 := by
  refine .inr ⟨by omega, ⟨2, by simp [L3], ⟨[0, 2], jn3_one begin3 (by omega) (by decide) (by simp)⟩, by simp [L3, leg], by simp [L3, leg]⟩, fun i hi hc ht => ?_⟩
  have h1 : i = 0 ∨ i = 1 ∨ i = 2 := by simp [L3] at hi; omega
  rcases h1 with rfl | rfl | rfl
  · simp [leg, L3] at ht
  · rcases come3 (by omega) (by omega) hc with h | h
    · omega
    · exact absurd h (by decide)
  · simp [leg, L3]
theorem arr3b : ArrAt L3 2 (ComeTo 2 L3 (fun i => begB 0 0 (leg L3 i))) L3.length 30 := by
  refine .inr ⟨by omega, ⟨1, by simp [L3], ⟨[0, 1], jn3_one begin3 (by omega) (by decide) (by simp)⟩, by simp [L3, leg], by simp [L3, leg]⟩, fun i hi hc ht => ?_⟩
  have h1 : i = 0 ∨ i = 1 ∨ i = 2 := by simp [L3] at hi; omega
  rcases h1 with rfl | rfl | rfl
  · simp [leg, L3] at ht
  · simp [leg, L3]
  · simp [leg, L3]
theorem least3 : Least L3.length (folL 5 L3) (fun i => begB 0 0 (leg L3 i)) (fun i => endB 2 40 (leg L3 i)) [0, 2] := by
  refine ⟨jn3_one begin3 (by omega) (by decide) (by decide), fun y hy => ?_⟩
  rcases jn3 (fol3 5 (by omega)) first3 hy with ⟨rfl, h⟩ | ⟨j, rfl, hj, h0, hf, h⟩
  · exact absurd h (by decide)
  · have : j = 1 ∨ j = 2 := by omega
    rcases this with rfl | rfl
    · exact absurd hf (by decide)
    · exact .inr ⟨rfl, Lx.refl _⟩
theorem early3a {a : Int} {xs : List Nat} {e : Int} (h : EarlyOf 3 L3 5 0 2 0 a xs e) : a = 40 ∧ xs = [0, 2] ∧ e = 0 := by
  have hg := good3 5 (by omega)
  rcases h with ⟨h, _⟩ | ⟨_, h, _⟩ | ⟨_, _, _, _, _, h⟩ | ⟨_, _, h, _, hA, hl⟩
  · exact (h hg).elim
  · omega
  · have := h.uniq arr3a; omega
  · obtain rfl := hA.uniq arr3a
    exact ⟨rfl, hl.uniq least3, h⟩
theorem early3b {a : Int} {xs : List Nat} {e : Int} (h : EarlyOf 3 L3 2 0 2 0 a xs e) : a = 30 ∧ e = 0 := by
  have hg := good3 2 (by omega)
  rcases h with ⟨h, _⟩ | ⟨_, h, _⟩ | ⟨_, _, _, _, _, h⟩ | ⟨_, _, h, _, hA, hl⟩
  · exact (h hg).elim
  · omega
  · have := h.uniq arr3b; omega
  · obtain rfl := hA.uniq arr3b
    exact ⟨rfl, h⟩
theorem within3 {k i : Nat} (hi : i < 3) (h : Within 2 L3 (fun i => begB 0 0 (leg L3 i)) k i) : i = 0 ∨ (i ≠ 0 ∧ wtL L3 0 i ≤ k) := by
  obtain ⟨y, hy, hs⟩ := h
  rcases jn3 (fol3 2 (by omega)) first3 hy with ⟨rfl, h⟩ | ⟨j, rfl, _, h0, hf, h⟩
  · simp at h; exact .inl h.symm
  · simp at h; subst h
    simp [wsum] at hs
    exact .inr ⟨h0, hs⟩
theorem arr3k0 : ArrAt L3 2 (Within 2 L3 (fun i => begB 0 0 (leg L3 i)) 0) L3.length 40 := by
  refine .inr ⟨by omega, ⟨2, by simp [L3], ⟨[0, 2], jn3_one begin3 (by omega) (by decide) (by simp), by decide⟩, by simp [L3, leg], by simp [L3, leg]⟩, fun i hi hc ht => ?_⟩
  have h1 : i = 0 ∨ i = 1 ∨ i = 2 := by simp [L3] at hi; omega
  rcases h1 with rfl | rfl | rfl
  · simp [leg, L3] at ht
  · rcases within3 (by omega) hc with h | ⟨_, h⟩
    · omega
    · exact absurd h (by decide)
  · simp [leg, L3]
theorem arr3k (k : Nat) (hk : 1 ≤ k) : ArrAt L3 2 (Within 2 L3 (fun i => begB 0 0 (leg L3 i)) k) L3.length 30 := by
  refine .inr ⟨by omega, ⟨1, by simp [L3], ⟨[0, 1], jn3_one begin3 (by omega) (by decide) (by simp), by simp [wsum, wtL, leg, L3]; exact hk⟩, by simp [L3, leg], by simp [L3, leg]⟩, fun i hi hc ht => ?_⟩
  have h1 : i = 0 ∨ i = 1 ∨ i = 2 := by simp [L3] at hi; omega
  rcases h1 with rfl | rfl | rfl
  · simp [leg, L3] at ht
  · simp [leg, L3]
  · simp [leg, L3]
theorem trips3 {T : List (Int × Int)} {e : Int} (h : TripsOf 3 L3 2 0 2 0 T e) : T = [(0, 40), (1, 30)] ∧ e = 0 := by
  have hg := good3 2 (by omega)
  rcases h with ⟨h, _⟩ | ⟨_, h, _⟩ | ⟨_, _, hR, he⟩
  · exact (h hg).elim
  · omega
  · have h1 : Rec (fun k a => ArrAt L3 2 (Within 2 L3 (fun i => begB 0 0 (leg L3 i)) k) L3.length a) 3 (([] ++ [(((0 : Nat) : Int), (40 : Int))]) ++ [(((1 : Nat) : Int), (30 : Int))]) :=
      .skip (.add (.add .zero arr3k0 (by omega) (.inl rfl)) (arr3k 1 (by omega)) (by omega) (.inr (by decide))) (arr3k 2 (by omega)) (.inr ⟨by simp, by decide⟩)
    have := hR.uniq (fun k a b h h' => h.uniq h') h1
    subst this
    exact ⟨rfl, by simpa using he⟩

set_option maxRecDepth 100000 in
set_option maxHeartbeats 2000000 in
theorem alive_calls (w : World) : Calls Try.prog 19 #[] w fun e w' => e = .returned (.bool true) ∧ Ext w w' := by
  go_enter Try.func19, Try.ntmps19
  go_wp2_with fail
  refine (three_calls w).mono ?_
  rintro e w1 ⟨rfl, hL1, hx1⟩
  go_wp2_with fail
  refine (earliest_calls w1 3 _ 3 L3 5 0 2 0 hL1 (by simp [L3])).mono ?_
  rintro e w2 ⟨a, v, xs, er, rfl, ho, hE, hx2⟩
  obtain ⟨rfl, rfl, rfl⟩ := early3a hE
  clear hE
  obtain ⟨vo, vcap, rfl, hvi, -⟩ := ho.intsShape
  go_wp2_with fail
  refine (three_calls w2).mono ?_
  rintro e w3 ⟨rfl, hL3, hx3⟩
  go_wp2_with fail
  refine (earliest_calls w3 3 _ 3 L3 2 0 2 0 hL3 (by simp [L3])).mono ?_
  rintro e w4 ⟨a, v2, xs, er, rfl, ho2, hE2, hx4⟩
  obtain ⟨rfl, rfl⟩ := early3b hE2
  clear hE2
  go_wp2_with fail
  refine (three_calls w4).mono ?_
  rintro e w5 ⟨rfl, hL5, hx5⟩
  go_wp2_with fail
  refine (trips_calls w5 3 _ 3 L3 2 0 2 0 hL5 (by simp [L3])).mono ?_
  rintro e w6 ⟨v3, T, er, rfl, ho3, hT, hx6⟩
  obtain ⟨rfl, rfl⟩ := trips3 hT
  clear hT
  have hx16 : Ext w w6 := ((((hx1.trans hx2).trans hx3).trans hx4).trans hx5).trans hx6
  have hx26 : Ext w2 w6 := ((hx3.trans hx4).trans hx5).trans hx6
  have hvi6 := hvi.ext hx26
  have hys : IntsIn (w6.alloc (Obj.cells #[Value.int IntKind.i64 0, Value.int IntKind.i64 2] 3)) (some ⟨w6.heap.size, 0, none⟩) [0, 2] := by
    intro k hk
    have : k = 0 ∨ k = 1 := by simp at hk; omega
    rcases this with rfl | rfl <;> exact ⟨_, 0, rfl, by simp, by simp [go_sem, ith]⟩
  have hx67 := (Ext.refl w6).alloc (Obj.cells #[Value.int IntKind.i64 0, Value.int IntKind.i64 2] 3)
  go_wp2_with fail
  refine (same_calls _ vo _ vcap 2 (nats [0, 2]) [0, 2] (hvi6.ext hx67) hys (by simp [nats]) (by simp)).mono ?_
  rintro e w7 ⟨rfl, hx7⟩
  have ho4 := ho3.ext (hx67.trans hx7)
  have hsm : decide (nats [0, 2] = [0, 2]) = true := by decide
  rw [hsm]
  rcases ho4.shape (by omega) with ⟨-, h⟩ | ⟨g, off, tcap, h, hgb, hgl, hnc, -⟩
  · simp [trips] at h
  · simp only [trips_length] at h
    subst h
    have hc2 := (ho4.cellAt 2 (by simp [trips])).1
    have hc3 := (ho4.cellAt 3 (by simp [trips])).1
    simp only [trips, List.flatMap_cons, List.flatMap_nil, List.cons_append, List.nil_append, List.getElem?_cons_succ, List.getElem?_cons_zero] at hc2 hc3
    have hc3' : w7.cell? ⟨g, off + 2 + 1, none⟩ = some (.int .i64 30) := hc3
    go_wp2_with fail
    go_ret
    exact ⟨rfl, (hx16.trans hx67).trans hx7⟩
end Go.Proofs.Ytmmjjfjbhogfgaa
