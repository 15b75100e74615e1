/- RouteMore: the walk. -/
import Derived.Test.YtmmjjfjbhogfgaaAlive
import Derived.Test.YtmmjjfjbhogfgaaOpen
import Derived.Test.YtmmjjfjbhogfgaaStep
import Derived.Deep.AppendLies
namespace Go.Proofs.Ytmmjjfjbhogfgaa
open Go.RowKit
attribute [local go_sem] Leg.val run_store_fn

theorem earliest_len (w : World) (n : Int) (ao : Option Addr) (cap : Nat) (L : List Leg) (c src dst at_ : Int) (hL : LegsIn w ao L) (hlen : L.length ≤ 10000000) {m : Nat} (hm : L.length = m) :
    Calls Try.prog 21 #[.int .i64 n, .slice ao m cap, .int .i64 c, .int .i64 src, .int .i64 dst, .int .i64 at_] w (EarlyRes w n L c src dst at_) := by
  subst hm
  exact earliest_calls w n ao cap L c src dst at_ hL hlen
theorem Path.widen {m m' : Nat} {fol fol' : Nat → Nat → Bool} {last last' : Nat → Bool} (hm : m ≤ m') (hf : ∀ i j, i < m → j < m → fol i j = true → fol' i j = true) (hl : ∀ i, i < m → last i = true → last' i = true) : ∀ {x : List Nat}, Path m fol last x → Path m' fol' last' x
  | [], h => h.elim
  | [a], h => .one (by have := h.1; omega) (hl a h.1 h.one_inv)
  | a :: b :: s, h => .cons (by have := h.1; omega) (hf a b h.1 h.cons_inv.2.1 h.cons_inv.1) (Path.widen hm hf hl h.cons_inv.2)
theorem leg_more (L : List Leg) (x : Leg) {k : Nat} (hk : k < L.length) : leg (L ++ [x]) k = leg L k := by
  simp [leg, List.getElem?_append_left hk]
theorem comeTo_more {c : Int} {L : List Leg} {x : Leg} {src at_ : Int} {i : Nat} (h : ComeTo c L (fun i => begB src at_ (leg L i)) i) : ComeTo c (L ++ [x]) (fun i => begB src at_ (leg (L ++ [x]) i)) i := by
  obtain ⟨y, a, r, rfl, hf, hp⟩ := h
  refine ⟨a :: r, a, r, rfl, ?_, hp.widen (by simp) (fun i j hi hj h => ?_) (fun i _ h => h)⟩
  · show begB src at_ (leg (L ++ [x]) a) = true
    rw [leg_more L x hp.1]; exact hf
  · unfold folL at h ⊢
    rw [leg_more L x hi, leg_more L x hj]
    exact h
theorem goodE_02 {n : Int} {L : List Leg} {c src dst : Int} {ts : List Int} (hn : 1 ≤ n ∧ n ≤ 8) (hl : L.length ≤ 60) : goodE n L c src dst ts = 0 ∨ goodE n L c src dst ts = 2 := by
  unfold goodE
  rw [if_neg (by omega), if_neg (by omega)]
  split
  · exact .inr rfl
  · split
    · exact .inr rfl
    · exact .inl rfl
theorem early_good {n : Int} {L : List Leg} {c src dst at_ a : Int} {xs : List Nat} {e : Int} (h : EarlyOf n L c src dst at_ a xs e) (he : e = 0 ∨ e = 10) : Good n L c src dst [at_] ∨ (e = 10 ∧ goodE n L c src dst [at_] = 10) := by
  rcases h with ⟨h, _, _, rfl⟩ | ⟨h, _⟩ | ⟨h, _⟩ | ⟨h, _⟩
  · rcases he with he | he
    · exact (h he).elim
    · exact .inr ⟨he, he⟩
  · exact .inl (good_iff.1 h)
  · exact .inl (good_iff.1 h)
  · exact .inl (good_iff.1 h)
theorem more1 {n : Int} {L : List Leg} {x : Leg} {c src dst at_ a b : Int} {xs ys : List Nat} {e f : Int} (hl : L.length < 60) (h : EarlyOf n L c src dst at_ a xs e) (h' : EarlyOf n (L ++ [x]) c src dst at_ b ys f) (he : e = 0) : f = 2 ∨ (f = 0 ∧ b ≤ a) := by
  have hg : Good n L c src dst [at_] := by
    rcases early_good h (.inl he) with h | ⟨h, _⟩
    · exact h
    · omega
  have h0 := good_iff.2 hg
  rcases h' with ⟨_, _, _, rfl⟩ | ⟨_, h1, rfl, _, rfl⟩ | ⟨_, h1, _, _, _, hA⟩ | ⟨_, h1, rfl, _, hA, _⟩
  · rcases goodE_02 (L := L ++ [x]) (c := c) (src := src) (dst := dst) (ts := [at_]) hg.n (by simp; omega) with h | h
    · exact (by contradiction)
    · exact .inl h
  · rcases h with ⟨h, _⟩ | ⟨_, _, rfl, _⟩ | ⟨_, h, _⟩ | ⟨_, h, _⟩
    · exact (h h0).elim
    · exact .inr ⟨rfl, Int.le_refl _⟩
    · exact (h h1).elim
    · exact (h h1).elim
  · exfalso
    rcases h with ⟨h, _⟩ | ⟨_, h, _⟩ | ⟨_, _, _, _, h, _⟩ | ⟨_, _, _, _, hB, _⟩
    · exact h h0
    · exact h1 h
    · omega
    · rcases hB with ⟨h, _⟩ | ⟨_, ⟨i, hi, h2, h3, _⟩, _⟩
      · omega
      · rcases hA with ⟨_, hA⟩ | ⟨hA, _⟩
        · exact hA i (by simp; omega) ⟨comeTo_more h2, by rw [leg_more L x hi]; exact h3⟩
        · omega
  · refine .inr ⟨rfl, ?_⟩
    rcases h with ⟨h, _⟩ | ⟨_, h, _⟩ | ⟨_, _, _, _, h, _⟩ | ⟨_, _, _, _, hB, _⟩
    · exact (h h0).elim
    · exact (h1 h).elim
    · omega
    · rcases hB with ⟨h, _⟩ | ⟨_, ⟨i, hi, h2, h3, h4⟩, _⟩
      · omega
      · rcases hA with ⟨_, hA⟩ | ⟨_, _, hA⟩
        · exact (hA i (by simp; omega) ⟨comeTo_more h2, by rw [leg_more L x hi]; exact h3⟩).elim
        · have := hA i (by simp; omega) (comeTo_more h2) (by rw [leg_more L x hi]; exact h3)
          rw [leg_more L x hi] at this
          omega
theorem comeTo_slow {c : Int} {L : List Leg} {first : Nat → Bool} {i : Nat} (h : ComeTo (c + 1) L first i) : ComeTo c L first i := by
  obtain ⟨y, a, r, rfl, hf, hp⟩ := h
  refine ⟨a :: r, a, r, rfl, hf, hp.widen (Nat.le_refl _) (fun i j hi hj h => ?_) (fun i _ h => h)⟩
  unfold folL folB at h ⊢
  simp only [Bool.and_eq_true, decide_eq_true_eq] at h ⊢
  refine ⟨h.1, ?_⟩
  have := h.2
  split at this <;> rename_i hh
  · rw [if_pos hh]; exact this
  · rw [if_neg hh]; simp at this ⊢; omega
theorem more2 {n : Int} {L : List Leg} {c c' src dst at_ a b : Int} {xs ys : List Nat} {e f : Int} (hl : L.length < 60) (hc : c' = c + 1 ∨ c' < 0) (h : EarlyOf n L c src dst at_ a xs e) (h' : EarlyOf n L c' src dst at_ b ys f) (he : f = 0) : e = 2 ∨ (e = 0 ∧ a ≤ b) := by
  have hg : Good n L c' src dst [at_] := by
    rcases early_good h' (.inl he) with h | ⟨h, _⟩
    · exact h
    · omega
  have h0 := good_iff.2 hg
  have hc0 : c' = c + 1 := by have := hg.change; omega
  subst hc0
  rcases h with ⟨_, _, _, rfl⟩ | ⟨_, h1, rfl, _, rfl⟩ | ⟨_, h1, _, _, _, hA⟩ | ⟨_, h1, rfl, _, hA, _⟩
  · rcases goodE_02 (L := L) (c := c) (src := src) (dst := dst) (ts := [at_]) hg.n (by omega) with h | h
    · exact (by contradiction)
    · exact .inl h
  · rcases h' with ⟨h, _⟩ | ⟨_, _, rfl, _⟩ | ⟨_, h, _⟩ | ⟨_, h, _⟩
    · exact (h h0).elim
    · exact .inr ⟨rfl, Int.le_refl _⟩
    · exact (h h1).elim
    · exact (h h1).elim
  · exfalso
    rcases h' with ⟨h, _⟩ | ⟨_, h, _⟩ | ⟨_, _, _, _, h, _⟩ | ⟨_, _, _, _, hB, _⟩
    · exact h h0
    · exact h1 h
    · omega
    · rcases hB with ⟨h, _⟩ | ⟨_, ⟨i, hi, h2, h3, _⟩, _⟩
      · omega
      · rcases hA with ⟨_, hA⟩ | ⟨hA, _⟩
        · exact hA i hi ⟨comeTo_slow h2, h3⟩
        · omega
  · refine .inr ⟨rfl, ?_⟩
    rcases h' with ⟨h, _⟩ | ⟨_, h, _⟩ | ⟨_, _, _, _, h, _⟩ | ⟨_, _, _, _, hB, _⟩
    · exact (h h0).elim
    · exact (h1 h).elim
    · omega
    · rcases hB with ⟨h, _⟩ | ⟨_, ⟨i, hi, h2, h3, h4⟩, _⟩
      · omega
      · rcases hA with ⟨_, hA⟩ | ⟨_, _, hA⟩
        · exact (hA i hi ⟨comeTo_slow h2, h3⟩).elim
        · have := hA i hi (comeTo_slow h2) h3
          omega
theorem info_leg : (Try.prog.info? 38).map (fun i => (i.zero, i.size, i.bytes)) = some (some (.agg #[.int .i64 0, .int .i64 0, .int .i64 0, .int .i64 0, .int .i64 0]), 5, 40) := by kernel_rfl
theorem one_leg (w : World) (x : Leg) : LegsIn (w.alloc x.box) (some ⟨w.heap.size, 0, none⟩) [x] := by
  intro k hk
  obtain rfl : k = 0 := by simpa using hk
  obtain ⟨h, h0, h1, h2, h3, h4⟩ := LegAt.boxed w x
  exact ⟨w.heap.size, 0, rfl, h, h0, h1, h2, h3, h4⟩
theorem oneB (w1 : World) (x : Leg) (t : TypeId) : LegsIn ((w1.alloc (.cells #[] t)).alloc x.box).drew (some ⟨w1.heap.size + 1, 0, none⟩) [x] := by
  have := (one_leg (w1.alloc (.cells #[] t)) x).ext (Ext.refl _).drew
  simpa using this
theorem oneC (w1 : World) (x : Leg) (t : TypeId) : LegsIn ((w1.alloc x.box).alloc (.cells #[] t)).drew (some ⟨w1.heap.size, 0, none⟩) [x] :=
  (one_leg w1 x).ext ((Ext.refl _).alloc _).drew
theorem keep5 {w1 w2 : World} {b : Nat} {x : Leg} (h : LegAt w1 b x) (he : Ext w1 w2) : (w2.cell? ⟨b, 0, none⟩ = some (.int .i64 x.From) ∧ w2.cell? ⟨b, 1, none⟩ = some (.int .i64 x.To) ∧ w2.cell? ⟨b, 2, none⟩ = some (.int .i64 x.Dep) ∧ w2.cell? ⟨b, 3, none⟩ = some (.int .i64 x.Arr) ∧ w2.cell? ⟨b, 4, none⟩ = some (.int .i64 x.Line)) ∧ Ext w1 w2 := by
  obtain ⟨_, h0, h1, h2, h3, h4⟩ := h.ext he
  exact ⟨⟨h0, h1, h2, h3, h4⟩, he⟩

set_option maxRecDepth 100000 in
set_option maxHeartbeats 4000000 in
theorem more_calls (w : World) (n : Int) (ao : Option Addr) (cap : Nat) (L : List Leg) (c src dst at_ : Int) (x : Leg) (hL : LegsIn w ao L) (hc : I64 c) (_hlen : L.length ≤ maxLen) :
    Calls Try.prog 5 #[.int .i64 n, .slice ao L.length cap, .int .i64 c, .int .i64 src, .int .i64 dst, .int .i64 at_, x.val] w (TrueRes w) := by
  go_enter Try.func5, Try.ntmps5
  by_cases hm : 60 ≤ L.length
  · go_wp2_with fail
    refine (alive_calls _).mono ?_
    rintro e w1 ⟨rfl, hx1⟩
    go_wp2_with fail
    go_ret
    exact ⟨rfl, ((Ext.refl w).alloc _).trans hx1⟩
  · go_wp2_with fail
    have hxb := (Ext.refl w).alloc x.box
    have hxB := LegAt.boxed w x
    refine (earliest_calls _ n ao cap L c src dst at_ (hL.ext hxb) (by omega)).mono ?_
    rintro e w1 ⟨a, v, xs, er, rfl, ho, hE, hx1⟩
    have hB1 := hxB.ext hx1
    have hxw1 := hxb.trans hx1
    obtain ⟨hBl, hB0, hB1, hB2, hB3, hB4⟩ := hB1
    obtain ⟨i0, hi, hz0, hz1, hz2⟩ := info_parts info_leg
    go_wp2_with fail
    go_region_held3 (fun w' => (w'.cell? ⟨w.heap.size, 0, none⟩ = some (.int .i64 x.From) ∧ w'.cell? ⟨w.heap.size, 1, none⟩ = some (.int .i64 x.To) ∧ w'.cell? ⟨w.heap.size, 2, none⟩ = some (.int .i64 x.Dep) ∧ w'.cell? ⟨w.heap.size, 3, none⟩ = some (.int .i64 x.Arr) ∧ w'.cell? ⟨w.heap.size, 4, none⟩ = some (.int .i64 x.Line)) ∧ Ext w1 w')
      (first
        | exact keep5 ⟨hBl, hB0, hB1, hB2, hB3, hB4⟩ hx5
        | exact keep5 ⟨hBl, hB0, hB1, hB2, hB3, hB4⟩ (hx5.alloc _)
        | exact keep5 ⟨hBl, hB0, hB1, hB2, hB3, hB4⟩ hx6
        | exact keep5 ⟨hBl, hB0, hB1, hB2, hB3, hB4⟩ (hx6.trans hx7)
        | exact keep5 ⟨hBl, hB0, hB1, hB2, hB3, hB4⟩ (by repeat (first | exact Ext.refl _ | assumption | refine Ext.alloc ?_ _ | refine Ext.drewN ?_ _ | refine Ext.drew ?_)))
      ((first
        | (go_at_call 21
           refine (earliest_len _ n xo xcap (L ++ [x]) c src dst at_ hLx (by simp; omega) (by simp)).mono ?_
           rintro e w7 ⟨b, v7, ys, fr, rfl, ho7, hE7, hx7⟩)
        | ((fail_if_success (go_at_call 21))
           refine step_append_legs _ (by rfl) _ _ 22 (by rfl) 38 i0 _ Try.underlying22 hi hz0 hz1 hz2 rfl w1.heap.size _ [] (by rfl) (Own.hollow _ w1.heap.size _ 5 (by simp <;> omega) (by simp <;> omega)) (by simp <;> omega) ao cap L (by rfl) (hL.ext (hxw1.trans (by repeat (first | exact Ext.refl _ | assumption | refine Ext.alloc ?_ _ | refine Ext.drewN ?_ _ | refine Ext.drew ?_)))) (by simp) (by omega) ?_
           intro v5 w5 ho5 hg5 hb5
           have hx5 : Ext w1 w5 := (show Ext w1 _ from (by repeat (first | exact Ext.refl _ | assumption | refine Ext.alloc ?_ _ | refine Ext.drewN ?_ _ | refine Ext.drew ?_))).onto hg5 (fun k hk => by simp [Value.ownBlock] at hk; omega))
        | ((fail_if_success (go_at_call 21))
           refine step_append_legs _ (by rfl) _ _ 22 (by rfl) 38 i0 _ Try.underlying22 hi hz0 hz1 hz2 rfl w1.heap.size _ L (by rfl) (by first | exact ho5 | exact ho5.ext ((Ext.refl _).alloc _)) (by have := hx5.size; first | omega | (simp; omega)) _ 1 [x] (by rfl) (by first | exact one_leg w5 x | exact (oneB w1 x _).grown hg5 (by simp [Value.ownBlock]) | exact (oneC w1 x _).grown hg5 (by simp [Value.ownBlock])) (by omega) (by simp) ?_
           intro v6 w6 ho6 hg6 hb6
           have hx6 : Ext w1 w6 := (show Ext w1 _ from (by first | exact hx5 | exact hx5.alloc _)).onto hg6 (fun k hk => (ho5.lt k hk).1)
           obtain ⟨xo, xcap, rfl, hLx⟩ := ho6.legsShape)))
    all_goals
      have hxw7 := hxw1.trans (hx6.trans hx7)
      have hM1 : er = 0 → fr = 2 ∨ (fr = 0 ∧ b ≤ a) := more1 (by omega) hE hE7
      have HM1 := Lib.hid hM1
      have hal : ∀ w2, Ext w w2 → Calls Try.prog 19 #[] w2 fun e w' => e = .returned (.bool true) ∧ Ext w w' := fun w2 hx => (alive_calls w2).mono (fun e w' ⟨he, hx'⟩ => ⟨he, hx.trans hx'⟩)
      have hL7 := hL.ext hxw7
      clear hB0 hB1 hB2 hB3 hB4 hBl hM1
      clear ho6 ho7 hg5 hg6 hb5 hb6 ho5 hLx
      obtain ⟨c', hcc, hc'⟩ : ∃ c' : Int, IntKind.i64.wrap (c + 1) = c' ∧ (c' = c + 1 ∨ c' < 0) := by
        refine ⟨_, rfl, ?_⟩
        unfold I64 at hc
        by_cases hcm : c + 1 ≤ 9223372036854775807
        · left
          simp [IntKind.wrap, IntKind.bits, IntKind.signed]; omega
        · right
          have : c = 9223372036854775807 := by omega
          subst this
          decide
      rcases Decidable.em (er = 0) with h1 | h1
      · rcases HM1.out h1 with h2 | ⟨h2, h3⟩
        · subst h1 h2
          go_wp2_with fail
          refine (earliest_calls w7 n ao cap L c' src dst at_ hL7 (by omega)).mono ?_
          rintro e8 w8 ⟨d, v8, zs, gr, rfl, ho8, hE8, hx8⟩
          have hM2 := more2 (by omega) hc' hE hE8
          clear ho8
          rcases Decidable.em (gr = 0) with g1 | g1
          · rcases hM2 g1 with g2 | ⟨g2, g3⟩
            · first
              | (exfalso; omega)
              | (subst g1 g2
                 go_wp2_with fail
                 refine (hal _ (hxw7.trans hx8)).mono ?_
                 rintro e9 w9 ⟨rfl, hx9⟩
                 go_wp2_with fail
                 go_ret
                 exact ⟨rfl, hx9⟩)
            · first
              | (exfalso; omega)
              | (subst g1
                 have hd4 : decide (d < a) = false := by simp; omega
                 go_wp2_with fail
                 refine (hal _ (hxw7.trans hx8)).mono ?_
                 rintro e9 w9 ⟨rfl, hx9⟩
                 go_wp2_with fail
                 go_ret
                 exact ⟨rfl, hx9⟩)
          · have hg1 : (gr == 0) = false := by simpa using g1
            go_wp2_with fail
            refine (hal _ (hxw7.trans hx8)).mono ?_
            rintro e9 w9 ⟨rfl, hx9⟩
            go_wp2_with fail
            go_ret
            exact ⟨rfl, hx9⟩
        · subst h1 h2
          have hd3 : decide (a < b) = false := by simp; omega
          go_wp2_with fail
          refine (earliest_calls w7 n ao cap L c' src dst at_ hL7 (by omega)).mono ?_
          rintro e8 w8 ⟨d, v8, zs, gr, rfl, ho8, hE8, hx8⟩
          have hM2 := more2 (by omega) hc' hE hE8
          clear ho8
          rcases Decidable.em (gr = 0) with g1 | g1
          · rcases hM2 g1 with g2 | ⟨g2, g3⟩
            · first
              | (exfalso; omega)
              | (subst g1 g2
                 go_wp2_with fail
                 refine (hal _ (hxw7.trans hx8)).mono ?_
                 rintro e9 w9 ⟨rfl, hx9⟩
                 go_wp2_with fail
                 go_ret
                 exact ⟨rfl, hx9⟩)
            · first
              | (exfalso; omega)
              | (subst g1
                 have hd4 : decide (d < a) = false := by simp; omega
                 go_wp2_with fail
                 refine (hal _ (hxw7.trans hx8)).mono ?_
                 rintro e9 w9 ⟨rfl, hx9⟩
                 go_wp2_with fail
                 go_ret
                 exact ⟨rfl, hx9⟩)
          · have hg1 : (gr == 0) = false := by simpa using g1
            go_wp2_with fail
            refine (hal _ (hxw7.trans hx8)).mono ?_
            rintro e9 w9 ⟨rfl, hx9⟩
            go_wp2_with fail
            go_ret
            exact ⟨rfl, hx9⟩
      · have he1 : (er == 0) = false := by simpa using h1
        go_wp2_with fail
        refine (earliest_calls w7 n ao cap L c' src dst at_ hL7 (by omega)).mono ?_
        rintro e8 w8 ⟨d, v8, zs, gr, rfl, ho8, hE8, hx8⟩
        have hM2 := more2 (by omega) hc' hE hE8
        clear ho8
        rcases Decidable.em (gr = 0) with g1 | g1
        · rcases hM2 g1 with g2 | ⟨g2, g3⟩
          · first
            | (exfalso; omega)
            | (subst g1 g2
               go_wp2_with fail
               refine (hal _ (hxw7.trans hx8)).mono ?_
               rintro e9 w9 ⟨rfl, hx9⟩
               go_wp2_with fail
               go_ret
               exact ⟨rfl, hx9⟩)
          · first
            | (exfalso; omega)
            | (subst g1
               have hd4 : decide (d < a) = false := by simp; omega
               go_wp2_with fail
               refine (hal _ (hxw7.trans hx8)).mono ?_
               rintro e9 w9 ⟨rfl, hx9⟩
               go_wp2_with fail
               go_ret
               exact ⟨rfl, hx9⟩)
        · have hg1 : (gr == 0) = false := by simpa using g1
          go_wp2_with fail
          refine (hal _ (hxw7.trans hx8)).mono ?_
          rintro e9 w9 ⟨rfl, hx9⟩
          go_wp2_with fail
          go_ret
          exact ⟨rfl, hx9⟩
end Go.Proofs.Ytmmjjfjbhogfgaa
