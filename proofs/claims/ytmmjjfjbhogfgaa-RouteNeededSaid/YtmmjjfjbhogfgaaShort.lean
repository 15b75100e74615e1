/- after, shortest: the first of the shortest journeys. -/
import Derived.Test.YtmmjjfjbhogfgaaSteps
namespace Go.Proofs.Ytmmjjfjbhogfgaa
open Go.RowKit
attribute [local go_sem] Leg.val run_store_fn

theorem IntsIn.after {w : World} {b off : Nat} {xs : List Int} (h : IntsIn w (some ⟨b, off, none⟩) xs) {k : Nat} (hk : k < xs.length) : ∀ s : After w, s.at_.cell? ⟨b, off + k, none⟩ = some (.int .i64 (ith xs k)) := by
  intro s
  obtain ⟨b', off', e, _, h0⟩ := h.ext s.ext k hk
  simp only [Option.some.injEq, Addr.mk.injEq, and_true] at e
  obtain ⟨rfl, rfl⟩ := e
  exact h0

/-- What after looks for. -/
def NextOk (c : Int) (L : List Leg) (xs : List Int) (b j : Nat) : Prop := ith xs j = ith xs b - 1 ∧ 0 < ith xs j ∧ folL c L b j = true
def AfterRes (w : World) (c : Int) (L : List Leg) (xs : List Int) (b : Nat) (e : Ending) (w' : World) : Prop :=
  ∃ j : Nat, e = .returned (.int .i64 j) ∧ j < L.length ∧ NextOk c L xs b j ∧ (∀ i, i < j → ¬ NextOk c L xs b i) ∧ Ext w w'

set_option maxRecDepth 100000 in
set_option maxHeartbeats 8000000 in
theorem after_calls (w : World) (tb : Nat) (n : Int) (ao : Option Addr) (cap : Nat) (L : List Leg) (c : Int) (b : Nat) (so : Option Addr) (scap : Nat) (xs : List Int)
    (hT : TableIn w tb n ao L.length cap c) (hL : LegsIn w ao L) (hlen : L.length ≤ 100) (hc : 0 ≤ c ∧ c ≤ 101) (hfine : ∀ k, k < L.length → Fine n (leg L k))
    (hS : IntsIn w so xs) (hxs : xs.length = L.length) (hb : b < L.length) (hbb : 0 ≤ ith xs b ∧ ith xs b ≤ 10000) (hex : ∃ j, j < L.length ∧ NextOk c L xs b j) :
    Calls Try.prog 85 #[.pointer (some ⟨tb, 0, none⟩), .int .i64 b, .slice so L.length scap] w (AfterRes w c L xs b) := by
  have HF := Lib.hid hfine
  have HE := Lib.hid hex
  clear hfine hex
  have hTn := hT.legs
  have htb := hT.lt
  obtain ⟨sb, so', rfl, hsb, -⟩ := hS b (by omega)
  obtain ⟨lb, lo, rfl, hlb, -⟩ := hL b hb
  go_enter Try.func85, Try.ntmps85
  go_wp2_with fail
  go_loopw [14] (fun i wr => ∃ (k : Nat), k ≤ L.length ∧ i = .int .i64 k ∧ Ext w wr ∧ Hid (∀ i, i < k → ¬ NextOk c L xs b i)) (fun i _ => L.length - (intOf i).toNat)
  case atStart => exact ⟨0, by omega, rfl, Ext.refl _, Lib.hid (fun i hi => by omega)⟩
  case round =>
    obtain ⟨k, hk, rfl, hx, HN⟩ := hrel
    by_cases hlt : k < L.length
    · obtain ⟨b2, lo2, hao2, hbr, h0r, h1r, h2r, h3r, h4r⟩ := hL.ext hx k hlt
      simp only [Option.some.injEq, Addr.mk.injEq, and_true] at hao2
      obtain ⟨rfl, rfl⟩ := hao2
      have hFk := HF.out b hb
      go_wp2_with fail
      refine wp_region_boxed (b := leg L k) (by kernel_rfl) (by kernel_rfl) ?_
      intro w0 hne hx0 hB
      have hxw := hx.trans hx0
      have hBs := hB.after
      have hck := (hS.ext hxw).after (k := k) (by omega)
      have hcb := (hS.ext hxw).after (k := b) (by omega)
      have hAs := (hL.ext hxw).after hb
      have hTc := hT.ext hxw
      have hTs := After.cell hTc.legs hTc.lt
      clear hTn h0r h1r h2r h3r h4r
      cases hd : (ith xs k == ith xs b - 1) with
      | false =>
        repeat (go_big_quiet_step (fail))
        refine wpQuiet_nil ?_
        intro w3 hx3
        have HD := Lib.hid hd
        clear hd
        go_wp2_with fail
        refine ⟨⟨k + 1, by omega, rfl, hxw.trans hx3, Lib.hid (fun i hi => ?_)⟩, by simp only [intOf]; omega⟩
        rcases Nat.lt_or_ge i k with h | h
        · exact HN.out i h
        · obtain rfl : i = k := by omega
          intro hn
          have := HD.out
          simp [hn.1] at this
      | true =>
        cases hd2 : decide (0 < ith xs k) with
        | false =>
          repeat (go_big_quiet_step (fail))
          refine wpQuiet_nil ?_
          intro w3 hx3
          have HD := Lib.hid hd2
          clear hd hd2
          go_wp2_with fail
          refine ⟨⟨k + 1, by omega, rfl, hxw.trans hx3, Lib.hid (fun i hi => ?_)⟩, by simp only [intOf]; omega⟩
          rcases Nat.lt_or_ge i k with h | h
          · exact HN.out i h
          · obtain rfl : i = k := by omega
            intro hn
            have := HD.out
            have := hn.2.1
            simp at *; omega
        | true =>
          repeat (go_big_quiet_step ((go_at_call 55; exact Calls.after (follows_calls _ tb 0 (leg L b) (leg L k) c (Nat.lt_of_lt_of_le hTc.lt (After.ext _).size) (hTc.ext (After.ext _)).change (by unfold Fine at hFk; omega) hc))))
          refine wpQuiet_nil ?_
          intro w3 hx3
          have HD : Hid (ith xs k = ith xs b - 1 ∧ 0 < ith xs k) := Lib.hid ⟨by simpa using hd, by simpa using hd2⟩
          clear hd hd2
          cases hf : folB c (leg L b) (leg L k) with
          | false =>
            have Hf := Lib.hid hf
            clear hf
            go_wp2_with fail
            refine ⟨⟨k + 1, by omega, rfl, hxw.trans hx3, Lib.hid (fun i hi => ?_)⟩, by simp only [intOf]; omega⟩
            rcases Nat.lt_or_ge i k with h | h
            · exact HN.out i h
            · obtain rfl : i = k := by omega
              intro hn
              have h1 := hn.2.2
              unfold folL at h1
              rw [Hf.out] at h1
              simp at h1
          | true =>
            have Hf := Lib.hid hf
            clear hf
            go_wp2_with fail
            go_ret
            exact ⟨k, rfl, hlt, ⟨HD.out.1, HD.out.2, Hf.out⟩, HN.out, hxw.trans hx3⟩
    · exfalso
      obtain ⟨j, hj, hn⟩ := HE.out
      exact HN.out j (by omega) hn

def nats (xs : List Nat) : List Int := xs.map (fun k : Nat => (k : Int))
theorem nats_length (xs : List Nat) : (nats xs).length = xs.length := by simp [nats]
theorem nats_snoc (xs : List Nat) (x : Nat) : nats xs ++ [(x : Int)] = nats (xs ++ [x]) := by simp [nats]
theorem Own.fresh {w : World} {t : TypeId} (base : Nat) (x : Value) (hb : base ≤ w.heap.size) : Own (w.alloc (.cells #[x] t)) base 1 (.slice (some ⟨w.heap.size, 0, none⟩) 1 1) [x] := by
  refine ⟨1, rfl, .inr ⟨w.heap.size, 0, 1, rfl, hb, by simp, Nat.le_refl _, by unfold maxLen; omega, fun j hj => ?_, fun j hj => ?_⟩⟩
  · obtain rfl : j = 0 := by omega
    simp [go_sem]
  · obtain rfl : j = 0 := by omega
    simp [go_sem]

theorem Pred.after {w : World} {f : FuncId} {caps : Array Value} {G : Leg → Prop} {F : Leg → Bool} (hp : Pred w f caps G F) {w0 : World} (hx : Ext w w0) {l : Leg} (hg : G l) {b : Bool} (hb : F l = b) {s : After w0} :
    Calls Try.prog f (#[l.val] ++ caps) s.at_ fun e w'' => e = .returned (.bool b) ∧ ∃ s' : After w0, w'' = s'.at_ := by
  subst hb
  exact Calls.after (hp.call _ l (hx.trans s.ext) hg)

theorem one_cell (w : World) (x : Value) (t : TypeId) (z : Nat) (hz : z = w.heap.size) : ∀ (j : Nat) (u : Value), [x][j]? = some u → (w.alloc (.cells #[x] t)).cell? (Addr.add ⟨z, 0, none⟩ j) = some u := by
  subst hz
  intro j u h
  cases j with
  | zero => simp at h; subst h; simp [go_sem]
  | succ j => simp at h

/-- The best beginning among the first k ones. -/
def BestAt (F1 : Nat → Bool) (xs : List Int) (k : Nat) (best : Int) : Prop :=
  (best = -1 ∧ ∀ i, i < k → ¬ (0 < ith xs i ∧ F1 i = true)) ∨
  ∃ b : Nat, best = (b : Int) ∧ b < k ∧ 0 < ith xs b ∧ F1 b = true ∧ ∀ i, i < k → F1 i = true → 0 < ith xs i → ith xs b < ith xs i ∨ (ith xs b = ith xs i ∧ b ≤ i)
theorem BestAt.skip {F1 : Nat → Bool} {xs : List Int} {k : Nat} {best : Int} (h : BestAt F1 xs k best) (hn : ¬ (0 < ith xs k ∧ F1 k = true)) : BestAt F1 xs (k + 1) best := by
  rcases h with ⟨rfl, h⟩ | ⟨b, rfl, hb, h0, hf, hm⟩
  · refine .inl ⟨rfl, fun i hi => ?_⟩
    rcases Nat.lt_or_ge i k with h' | h'
    · exact h i h'
    · obtain rfl : i = k := by omega
      exact hn
  · refine .inr ⟨b, rfl, by omega, h0, hf, fun i hi hfi h0i => ?_⟩
    rcases Nat.lt_or_ge i k with h' | h'
    · exact hm i h' hfi h0i
    · obtain rfl : i = k := by omega
      exact (hn ⟨h0i, hfi⟩).elim
theorem BestAt.first {F1 : Nat → Bool} {xs : List Int} {k : Nat} (h : BestAt F1 xs k (-1)) (h0 : 0 < ith xs k) (hf : F1 k = true) : BestAt F1 xs (k + 1) k := by
  rcases h with ⟨_, h⟩ | ⟨b, e, _⟩
  · refine .inr ⟨k, rfl, by omega, h0, hf, fun i hi hfi h0i => ?_⟩
    rcases Nat.lt_or_ge i k with h' | h'
    · exact (h i h' ⟨h0i, hfi⟩).elim
    · obtain rfl : i = k := by omega
      exact .inr ⟨rfl, Nat.le_refl _⟩
  · omega
theorem BestAt.other {F1 : Nat → Bool} {xs : List Int} {k b : Nat} (h : BestAt F1 xs k b) (hge : ith xs b ≤ ith xs k) : BestAt F1 xs (k + 1) b := by
  rcases h with ⟨e, _⟩ | ⟨b', e, hb, h0, hf, hm⟩
  · omega
  · obtain rfl : b = b' := by omega
    refine .inr ⟨b, rfl, by omega, h0, hf, fun i hi hfi h0i => ?_⟩
    rcases Nat.lt_or_ge i k with h' | h'
    · exact hm i h' hfi h0i
    · obtain rfl : i = k := by omega
      omega
theorem BestAt.better {F1 : Nat → Bool} {xs : List Int} {k b : Nat} (h : BestAt F1 xs k b) (hlt : ith xs k < ith xs b) (h0 : 0 < ith xs k) (hf : F1 k = true) : BestAt F1 xs (k + 1) k := by
  rcases h with ⟨e, _⟩ | ⟨b', e, hb, h0', hf', hm⟩
  · omega
  · obtain rfl : b = b' := by omega
    refine .inr ⟨k, rfl, by omega, h0, hf, fun i hi hfi h0i => ?_⟩
    rcases Nat.lt_or_ge i k with h' | h'
    · have := hm i h' hfi h0i
      omega
    · obtain rfl : i = k := by omega
      omega
theorem BestAt.bound {F1 : Nat → Bool} {xs : List Int} {k b : Nat} (h : BestAt F1 xs k b) : b < k ∧ 0 < ith xs b := by
  rcases h with ⟨e, _⟩ | ⟨b', e, hb, h0', hf', hm⟩
  · omega
  · obtain rfl : b = b' := by omega
    exact ⟨hb, h0'⟩

/-- The walk along the steps, with the number of steps that are left. -/
structure GreedyAt (m : Nat) (fol : Nat → Nat → Bool) (first last : Nat → Bool) (xs : List Int) (out : List Nat) (b q : Nat) : Prop where
  greedy : Greedy m fol first last out b
  left : ith xs b = q
  pos : 0 < q
  bound : out.length + q ≤ 10002
theorem Greedy.lt {m : Nat} {fol : Nat → Nat → Bool} {first last : Nat → Bool} {out : List Nat} {b : Nat} (h : Greedy m fol first last out b) : b < m := by
  obtain ⟨_, _, h, _⟩ := h
  exact h

def ShortRes (w : World) (m : Nat) (fol : Nat → Nat → Bool) (first last : Nat → Bool) (e : Ending) (w' : World) : Prop :=
  Ext w w' ∧ ((∃ v xs, e = .returned (.tuple #[v, .bool true]) ∧ Own w' w.heap.size 1 v (ints (nats xs)) ∧ Least m fol first last xs) ∨
    (e = .returned (.tuple #[.slice none 0 0, .bool false]) ∧ ∀ x, ¬ Jn m fol first last x))

set_option maxRecDepth 100000 in
set_option maxHeartbeats 2000000 in
theorem shortest_calls (w : World) (tb : Nat) (n : Int) (ao : Option Addr) (cap : Nat) (L : List Leg) (c : Int) (f1 f2 : FuncId) (caps1 caps2 : Array Value) (G1 G2 : Leg → Prop) (F1 F2 : Leg → Bool)
    (hT : TableIn w tb n ao L.length cap c) (hL : LegsIn w ao L) (hlen : L.length ≤ 100) (hp1 : Pred w f1 caps1 G1 F1) (hp2 : Pred w f2 caps2 G2 F2) (hG1 : ∀ k, k < L.length → G1 (leg L k)) (hG2 : ∀ k, k < L.length → G2 (leg L k)) (hc : 0 ≤ c ∧ c ≤ 101) (hfine : ∀ k, k < L.length → Fine n (leg L k)) :
    Calls Try.prog 50 #[.pointer (some ⟨tb, 0, none⟩), .func (.func f1) #[] caps1, .func (.func f2) #[] caps2] w (ShortRes w L.length (folL c L) (fun i => F1 (leg L i)) (fun i => F2 (leg L i))) := by
  have HF := Lib.hid hfine
  have HG1 := Lib.hid hG1
  have HG2 := Lib.hid hG2
  clear hfine hG1 hG2
  have hTn := hT.legs
  have htb := hT.lt
  have hent := hp1.enter
  obtain ⟨i0, hi, hz0, hz1, hz2⟩ := info_parts info_int
  go_enter Try.func50, Try.ntmps50
  go_wp2_with fail
  refine (steps_calls w tb n ao cap L c f2 caps2 G2 F2 hT hL hlen hp2 HG2.out hc HF.out).mono ?_
  rintro e w1 ⟨v, xs, rfl, ho, hS, hx1⟩
  have HS := Lib.hid hS
  have hxl := hS.length
  have hbnd : Hid (∀ i, i < L.length → 0 ≤ ith xs i ∧ ith xs i ≤ 10000) := by
    refine Lib.hid (StepsIn.bound (last := fun i => F2 (leg L i)) ⟨hS.length, hS.nonneg, hS.sound, fun i hi h => ?_⟩ (fun i => (leg L i).Dep) (fine_time hc.1 HF.out) (fine_top HF.out))
    have := hS.least i [] (.one hi h)
    simp at this
    omega
  clear hS
  have hTn1 := (hT.ext hx1).legs
  have htb1 := hx1.size
  obtain ⟨so, scap, rfl, hSin, hsb⟩ := ho.intsShape
  rw [hxl] at ho ⊢
  go_wp2_with fail
  go_loopw [21, 9] (fun i best wr => ∃ (k : Nat) (bi : Int), k ≤ L.length ∧ i = .int .i64 k ∧ best = .int .i64 bi ∧ Ext w wr ∧ Own wr w.heap.size 1 (.slice so L.length scap) (ints xs) ∧ Hid (BestAt (fun i => F1 (leg L i)) xs k bi)) (fun i _ _ => L.length - (intOf i).toNat)
  case atStart => exact ⟨0, -1, by omega, rfl, rfl, hx1, ho, Lib.hid (.inl ⟨rfl, fun i hi => by omega⟩)⟩
  case round =>
    obtain ⟨k, bi, hk, rfl, rfl, hx, hor, HB⟩ := hrel
    by_cases hlt : k < L.length
    · obtain ⟨b2, lo2, hao2, hbr, h0r, h1r, h2r, h3r, h4r⟩ := hL.ext hx k hlt
      subst hao2
      obtain ⟨sb, so', hso, hsb', -⟩ := hSin k (by omega)
      subst hso
      go_wp2_with fail
      refine wp_region_boxed (b := leg L k) (by kernel_rfl) (by kernel_rfl) ?_
      intro w0 hne hx0 hB
      have hxw := hx.trans hx0
      have hBs := hB.after
      have ho0 := hor.ext hx0
      have hck := ho0.intsIn.after (k := k) (by omega)
      clear h0r h1r h2r h3r h4r hTn hTn1
      cases hd : decide (0 < ith xs k) with
      | false =>
        have hq := HB.out.skip (by simp at hd; simp; omega)
        repeat (go_big_quiet_step (exact hp1.after hxw (HG1.out k hlt) hF1))
        refine wpQuiet_nil ?_
        intro w3 hx3
        try clear hF1
        try clear hd2
        clear hd
        go_wp2_with fail
        refine ⟨⟨k + 1, bi, by omega, rfl, rfl, hxw.trans hx3, ho0.ext hx3, Lib.hid hq⟩, by simp only [intOf]; omega⟩
      | true =>
        cases hF1 : F1 (leg L k) with
        | false =>
          have hq := HB.out.skip (by simp [hF1])
          repeat (go_big_quiet_step (exact hp1.after hxw (HG1.out k hlt) hF1))
          refine wpQuiet_nil ?_
          intro w3 hx3
          try clear hF1
          try clear hd2
          clear hd
          go_wp2_with fail
          refine ⟨⟨k + 1, bi, by omega, rfl, rfl, hxw.trans hx3, ho0.ext hx3, Lib.hid hq⟩, by simp only [intOf]; omega⟩
        | true =>
          by_cases hbi : bi = -1
          · subst hbi
            have hq := HB.out.first (by simpa using hd) hF1
            repeat (go_big_quiet_step (exact hp1.after hxw (HG1.out k hlt) hF1))
            refine wpQuiet_nil ?_
            intro w3 hx3
            try clear hF1
            try clear hd2
            clear hd
            go_wp2_with fail
            refine ⟨⟨k + 1, k, by omega, rfl, rfl, hxw.trans hx3, ho0.ext hx3, Lib.hid hq⟩, by simp only [intOf]; omega⟩
          · obtain ⟨bb, rfl⟩ : ∃ bb : Nat, bi = (bb : Int) := by
              rcases HB.out with ⟨e, _⟩ | ⟨bb, e, _⟩
              · exact (hbi e).elim
              · exact ⟨bb, e⟩
            have hbd := HB.out.bound
            have hcb := ho0.intsIn.after (k := bb) (by omega)
            have hbb0 : decide ((bb : Int) < 0) = false := by simp
            cases hd2 : decide (ith xs k < ith xs bb) with
            | true =>
              have hq := HB.out.better (by simpa using hd2) (by simpa using hd) hF1
              repeat (go_big_quiet_step (exact hp1.after hxw (HG1.out k hlt) hF1))
              refine wpQuiet_nil ?_
              intro w3 hx3
              try clear hF1
              try clear hd2
              clear hd
              go_wp2_with fail
              refine ⟨⟨k + 1, k, by omega, rfl, rfl, hxw.trans hx3, ho0.ext hx3, Lib.hid hq⟩, by simp only [intOf]; omega⟩
            | false =>
              have hq := HB.out.other (by simp at hd2; omega)
              repeat (go_big_quiet_step (exact hp1.after hxw (HG1.out k hlt) hF1))
              refine wpQuiet_nil ?_
              intro w3 hx3
              try clear hF1
              try clear hd2
              clear hd
              go_wp2_with fail
              refine ⟨⟨k + 1, bb, by omega, rfl, rfl, hxw.trans hx3, ho0.ext hx3, Lib.hid hq⟩, by simp only [intOf]; omega⟩
    · have HX := Lib.hid hx1
      obtain rfl : k = L.length := by omega
      by_cases hbi : bi = -1
      · subst hbi
        go_wp2_with fail
        go_ret2
        refine ⟨hx, .inr ⟨rfl, fun x hj => ?_⟩⟩
        rcases HB.out with ⟨_, h⟩ | ⟨bb, e, _⟩
        · obtain ⟨i, hi, hf, h0⟩ := HS.out.some.2 ⟨x, hj⟩
          exact h i hi ⟨h0, hf⟩
        · omega
      · obtain ⟨bb, rfl⟩ : ∃ bb : Nat, bi = (bb : Int) := by
          rcases HB.out with ⟨e, _⟩ | ⟨bb, e, _⟩
          · exact (hbi e).elim
          · exact ⟨bb, e⟩
        have hbd := HB.out.bound
        have hbb0 : decide ((bb : Int) < 0) = false := by simp
        have hbeg : Greedy L.length (folL c L) (fun i => F1 (leg L i)) (fun i => F2 (leg L i)) [bb] bb := by
          rcases HB.out with ⟨e, _⟩ | ⟨b', e, hb, h0', hf', hm⟩
          · omega
          · obtain rfl : bb = b' := by omega
            exact Greedy.begin HS.out hb hf' h0' hm
        have HGr := Lib.hid hbeg
        have hbbx := hbnd.out bb hbd.1
        obtain ⟨sb, so', hso, hsb', -⟩ := hSin bb (by omega)
        subst hso
        have hsw := (hor.lt sb rfl).2
        have hxs := hx.size
        obtain ⟨W, hW⟩ : ∃ W, W = wr.heap.size := ⟨_, rfl⟩
        clear hbeg
        go_wp2_with fail
        go_loopg [9, 12] (ith xs bb).toNat (fun q best out ws => ∃ (b : Nat) (o : List Nat), best = .int .i64 b ∧ Ext w ws ∧ Own ws w.heap.size 1 (.slice (some ⟨sb, so', none⟩) L.length scap) (ints xs) ∧ W ≤ ws.heap.size ∧ Own ws W 1 out (ints (nats o)) ∧ Hid (GreedyAt L.length (folL c L) (fun i => F1 (leg L i)) (fun i => F2 (leg L i)) xs o b q))
        case atStart =>
          refine ⟨bb, [bb], rfl, hx.alloc _, hor.ext ((Ext.refl _).alloc _), by simp; omega, ?_, Lib.hid ⟨HGr.out, by omega, by omega, by simp; omega⟩⟩
          rw [hW]
          exact Own.fresh _ _ (Nat.le_refl _)
        case round =>
          clear hx hor
          obtain ⟨b, o, rfl, hx, hor, hWs, hoo, HQ⟩ := hrel
          have hbm := HQ.out.greedy.lt
          have hbx := hbnd.out b hbm
          obtain ⟨hcb, -⟩ := hor.intAt b (by omega)
          by_cases h1 : 1 < ith xs b
          · go_wp2_with fail
            refine (after_calls _ tb n ao cap L c b _ scap xs (hT.ext hx) (hL.ext hx) hlen hc HF.out hor.intsIn hxl hbm hbx ?_).mono ?_
            · obtain ⟨j, hj, h2, h3, h4⟩ := HS.out.next hbm h1
              exact ⟨j, hj, h2, h3, h4⟩
            rintro e w2 ⟨j, rfl, hj, hn, hmin, hx2⟩
            have HN := Lib.hid (And.intro hn hmin)
            clear hn hmin
            have hoo2 := hoo.ext hx2
            have hor2 := hor.ext hx2
            have hx2w := hx.trans hx2
            have hW2 := hx2.size
            have hQb := HQ.out.bound
            have hor3 := hor2.ext ((Ext.refl _).alloc (.cells #[.int .i64 (j : Int)] 3))
            have hoo3 := hoo2.ext ((Ext.refl _).alloc (.cells #[.int .i64 (j : Int)] 3))
            go_wp2_with (at_builtin; refine wpList_append_Own _ rfl _ _ 25 rfl 3 i0 (.int .i64 0) 1 8 Try.underlying25 hi hz0 hz1 hz2 rfl (by omega) W _ _ rfl hoo3 (by simp; omega) _ 1 1 [.int .i64 (j : Int)] rfl rfl (one_cell _ _ _ _ rfl) (by simp [Value.oneCell']) (by simp [ints_length, nats_length]; unfold maxLen; omega) (by simp [ints_length, nats_length]; omega) ?_; intro v' w5 ho5 hg5 hb5)
            have hx5 : Ext w w5 := (hx2w.alloc _).onto hg5 (fun k hk => by have := (hoo3.lt k hk).1; omega)
            have hor5 := hor3.keep hg5 (by
              right
              intro e
              have := (hoo3.lt sb e.symm).1
              omega)
            have hs5 := hg5.size
            simp only [World.size_alloc] at hs5
            rw [show ints (nats o) ++ [Value.int .i64 (j : Int)] = ints (nats (o ++ [j])) by simp [ints, nats]] at ho5
            go_roundg (gk - 1)
            case measure => have := HQ.out.pos; omega
            case rel =>
              have hq := HQ.out
              obtain ⟨hn1, hn2⟩ := HN.out
              have hl := hq.left
              have hs1 := hn1.1
              have hs2 := hn1.2.1
              refine ⟨j, o ++ [j], rfl, hx5, hor5, by omega, ho5, Lib.hid ⟨hq.greedy.next HS.out h1 hj hn1.2.2 hn1.1 (fun i hi hh => hn2 i hi hh), ?_, ?_, ?_⟩⟩
              · omega
              · omega
              · simp only [List.length_append, List.length_singleton]; omega
          · go_wp2_with fail
            go_ret2
            have hq1 := HQ.out
            have : ith xs b = 1 := by have := hq1.left; have := hq1.pos; omega
            exact ⟨hx, .inl ⟨_, o, rfl, hoo.rebase (by omega), hq1.greedy.done HS.out this⟩⟩
end Go.Proofs.Ytmmjjfjbhogfgaa
