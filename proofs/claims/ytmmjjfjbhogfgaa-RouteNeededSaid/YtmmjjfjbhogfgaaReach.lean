/- reached: the legs that can be come to; arrival. -/
import Derived.Test.YtmmjjfjbhogfgaaShort
namespace Go.Proofs.Ytmmjjfjbhogfgaa
open Go.RowKit
attribute [local go_sem] Leg.val run_store_fn

def falses (xs : List Bool) : Nat := (xs.filter (fun b => !b)).length
theorem falses_set : ∀ (xs : List Bool) (k : Nat), k < xs.length → bth xs k = false → falses (xs.set k true) + 1 = falses xs
  | [], k, h, _ => by simp at h
  | a :: r, 0, _, h => by simp [bth] at h; subst h; simp [falses]
  | a :: r, k + 1, hk, h => by
    have := falses_set r k (by simpa using hk) (by simpa [bth] using h)
    cases a <;> simp [falses] at this ⊢ <;> omega
theorem falses_le (xs : List Bool) : falses xs ≤ xs.length := List.length_filter_le _ _

/-- The first loop of reached. -/
structure Fill (m : Nat) (F : Nat → Bool) (out : List Bool) (todo : List Nat) (k : Nat) : Prop where
  length : out.length = m
  at_ : ∀ j, j < m → (bth out j = true ↔ j < k ∧ F j = true)
  mem : ∀ j, j ∈ todo ↔ j < k ∧ F j = true
  sum : falses out + todo.length = m
theorem Fill.start (m : Nat) (F : Nat → Bool) : Fill m F (List.replicate m false) [] 0 := by
  refine ⟨by simp, fun j hj => by simp [bth, hj], fun j => by simp, by simp [falses]⟩
theorem Fill.skip {m : Nat} {F : Nat → Bool} {out : List Bool} {todo : List Nat} {k : Nat} (h : Fill m F out todo k) (hF : F k = false) : Fill m F out todo (k + 1) := by
  have key : ∀ j, (j < k + 1 ∧ F j = true) ↔ (j < k ∧ F j = true) := by
    intro j
    constructor
    · rintro ⟨h1, h2⟩
      rcases Nat.lt_or_ge j k with h' | h'
      · exact ⟨h', h2⟩
      · obtain rfl : j = k := by omega
        rw [hF] at h2; simp at h2
    · rintro ⟨h1, h2⟩; exact ⟨by omega, h2⟩
  exact ⟨h.length, fun j hj => by rw [h.at_ j hj, key], fun j => by rw [h.mem j, key], h.sum⟩
theorem Fill.add {m : Nat} {F : Nat → Bool} {out : List Bool} {todo : List Nat} {k : Nat} (h : Fill m F out todo k) (hk : k < m) (hF : F k = true) : Fill m F (out.set k true) (todo ++ [k]) (k + 1) := by
  have hl := h.length
  have h0 : bth out k = false := by
    cases e : bth out k with
    | false => rfl
    | true => have := (h.at_ k hk).1 e; omega
  refine ⟨by simpa using hl, fun j hj => ?_, fun j => ?_, ?_⟩
  · rw [bth_set _ _ _ _ (by omega)]
    split
    · rename_i e; subst e; simp [hF]
    · rename_i e
      rw [h.at_ j hj]
      constructor
      · rintro ⟨h1, h2⟩; exact ⟨by omega, h2⟩
      · rintro ⟨h1, h2⟩; exact ⟨by omega, h2⟩
  · rw [List.mem_append, h.mem j, List.mem_singleton]
    constructor
    · rintro (⟨h1, h2⟩ | rfl)
      · exact ⟨by omega, h2⟩
      · exact ⟨by omega, hF⟩
    · rintro ⟨h1, h2⟩
      by_cases e : j = k
      · exact .inr e
      · exact .inl ⟨by omega, h2⟩
  · have := falses_set out k (by omega) h0
    have := h.sum
    simp only [List.length_append, List.length_singleton]
    omega
/-- The head of the second loop. -/
structure QueueAt (m : Nat) (fol : Nat → Nat → Bool) (first : Nat → Bool) (out : List Bool) (todo : List Nat) (q : Nat) : Prop where
  inn : ReachIn m fol first out todo
  sum : falses out + todo.length = q
  top : q ≤ m
theorem Fill.queue {m : Nat} {fol : Nat → Nat → Bool} {F : Nat → Bool} {out : List Bool} {todo : List Nat} (h : Fill m F out todo m) : QueueAt m fol F out todo m := by
  refine ⟨⟨h.length, fun i hi hb => ⟨[i], .one ((h.at_ i hi).1 hb).2 hi⟩, fun i hi hf => (h.at_ i hi).2 ⟨hi, hf⟩, fun i hi => ?_, fun i j hi hj hb hn => ?_⟩, h.sum, Nat.le_refl _⟩
  · have := (h.mem i).1 hi
    exact ⟨this.1, (h.at_ i this.1).2 this⟩
  · exact (hn ((h.mem i).2 ((h.at_ i hi).1 hb))).elim
/-- One leg is taken off the queue. -/
structure Pop (m : Nat) (fol : Nat → Nat → Bool) (first : Nat → Bool) (out : List Bool) (a : Nat) (todo : List Nat) (k q : Nat) : Prop where
  inn : ReachIn m fol first out (a :: todo)
  done : ∀ j, j < k → j < m → fol a j = true → bth out j = true
  sum : falses out + (todo.length + 1) = q
  top : q ≤ m
theorem QueueAt.pop {m : Nat} {fol : Nat → Nat → Bool} {first : Nat → Bool} {out : List Bool} {a : Nat} {todo : List Nat} {q : Nat} (h : QueueAt m fol first out (a :: todo) q) : Pop m fol first out a todo 0 q :=
  ⟨h.inn, fun j hj => by omega, by have := h.sum; simpa using this, h.top⟩
theorem Pop.skip {m : Nat} {fol : Nat → Nat → Bool} {first : Nat → Bool} {out : List Bool} {a : Nat} {todo : List Nat} {k q : Nat} (h : Pop m fol first out a todo k q) (hn : fol a k = true → bth out k = true) : Pop m fol first out a todo (k + 1) q := by
  refine ⟨h.inn, fun j hj hm hf => ?_, h.sum, h.top⟩
  rcases Nat.lt_or_ge j k with h' | h'
  · exact h.done j h' hm hf
  · obtain rfl : j = k := by omega
    exact hn hf
theorem Pop.add {m : Nat} {fol : Nat → Nat → Bool} {first : Nat → Bool} {out : List Bool} {a : Nat} {todo : List Nat} {k q : Nat} (h : Pop m fol first out a todo k q) (hk : k < m) (h0 : bth out k = false) (hf : fol a k = true) :
    Pop m fol first (out.set k true) a (todo ++ [k]) (k + 1) q := by
  have hl := h.inn.length
  have ha := h.inn.queued a (by simp)
  refine ⟨⟨by simpa using hl, fun i hi hb => ?_, fun i hi hf' => ?_, fun i hi => ?_, fun i j hi hj hb hn hfij => ?_⟩, fun j hj hm hfj => ?_, ?_, h.top⟩
  · rw [bth_set _ _ _ _ (by omega)] at hb
    split at hb
    · rename_i e; subst e
      obtain ⟨y, hy⟩ := h.inn.sound a ha.1 ha.2
      exact ⟨y ++ [i], hy.snoc hk hf⟩
    · exact h.inn.sound i hi hb
  · rw [bth_set _ _ _ _ (by omega)]
    split
    · rfl
    · exact h.inn.first i hi hf'
  · rw [bth_set _ _ _ _ (by omega)]
    rw [← List.cons_append, List.mem_append] at hi
    rcases hi with hi | hi
    · have := h.inn.queued i hi
      exact ⟨this.1, by split <;> simp [this.2]⟩
    · simp at hi; subst hi; exact ⟨hk, by simp⟩
  · rw [bth_set _ _ _ _ (by omega)] at hb ⊢
    rw [← List.cons_append, List.mem_append] at hn
    have hik : i ≠ k := fun e => hn (.inr (by simp [e]))
    rw [if_neg hik] at hb
    split
    · rfl
    · exact h.inn.closed i j hi hj hb (fun e => hn (.inl e)) hfij
  · rw [bth_set _ _ _ _ (by omega)]
    split
    · rfl
    · rename_i e
      exact h.done j (by omega) hm hfj
  · have := falses_set out k (by omega) h0
    have := h.sum
    simp only [List.length_append, List.length_singleton]
    omega
theorem Pop.end_ {m : Nat} {fol : Nat → Nat → Bool} {first : Nat → Bool} {out : List Bool} {a : Nat} {todo : List Nat} {q : Nat} (h : Pop m fol first out a todo m q) : QueueAt m fol first out todo (q - 1) ∧ q - 1 < q := by
  have hs := h.sum
  refine ⟨⟨⟨h.inn.length, h.inn.sound, h.inn.first, fun i hi => h.inn.queued i (List.mem_cons_of_mem _ hi), fun i j hi hj hb hn hf => ?_⟩, by omega, by have := h.top; omega⟩, by omega⟩
  by_cases e : i = a
  · subst e; exact h.done j hj hj hf
  · exact h.inn.closed i j hi hj hb (by simp [e, hn]) hf
theorem QueueAt.done {m : Nat} {fol : Nat → Nat → Bool} {first : Nat → Bool} {out : List Bool} {q : Nat} (h : QueueAt m fol first out [] q) : Reach m fol first out :=
  Reach.of h.inn.length h.inn.sound h.inn.first (fun i j hi hj hb hf => h.inn.closed i j hi hj hb (by simp) hf)

theorem BoolsIn.after {w : World} {b off : Nat} {xs : List Bool} (h : BoolsIn w (some ⟨b, off, none⟩) xs) {k : Nat} (hk : k < xs.length) : ∀ s : After w, s.at_.cell? ⟨b, off + k, none⟩ = some (.bool (bth xs k)) := by
  intro s
  obtain ⟨b', off', e, _, h0⟩ := h.ext s.ext k hk
  simp only [Option.some.injEq, Addr.mk.injEq, and_true] at e
  obtain ⟨rfl, rfl⟩ := e
  exact h0
theorem ith_nats (xs : List Nat) (k : Nat) : ith (nats xs) k = ((xs.getD k 0 : Nat) : Int) := by
  unfold ith nats
  by_cases h : k < xs.length
  · simp [h]
  · simp [Nat.not_lt.1 h]
/-- The slice behind the first element. -/
theorem Own.tail {w : World} {base g off n cap : Nat} {x : Value} {xs : List Value} (h : Own w base 1 (.slice (some ⟨g, off, none⟩) n cap) (x :: xs)) : Own w base 1 (.slice (some ⟨g, off + 1, none⟩) (n - 1) (cap - 1)) xs := by
  obtain ⟨n', hl, ⟨h, _⟩ | ⟨g', off', cap', h, hb, hlt, hnc, hcm, hc, hx⟩⟩ := h
  · simp at h
  · simp only [Value.slice.injEq, Option.some.injEq, Addr.mk.injEq, and_true] at h
    obtain ⟨⟨rfl, rfl⟩, rfl, rfl⟩ := h
    simp only [List.length_cons, Nat.mul_one] at hl
    refine ⟨n - 1, by omega, .inr ⟨g, off + 1, cap - 1, rfl, hb, hlt, by omega, by omega, fun j hj => ?_, fun j hj => ?_⟩⟩
    · have := hc (j + 1) (by omega)
      rw [show off + 1 + j = off + (j + 1) by omega]
      exact this
    · have := hx (j + 1) (by omega)
      rw [show off + 1 + j = off + (j + 1) by omega, this]
      simp

theorem Own.tail0 {w : World} {base g off n cap : Nat} {x : Value} {xs : List Value} (h : Own w base 1 (.slice (some ⟨g, off, none⟩) (n + 1) cap) (x :: xs)) (h1 : cap ≤ 1) : Own w base 1 (.slice (some ⟨g, off, none⟩) n 0) xs := by
  obtain ⟨n', hl, ⟨h, _⟩ | ⟨g', off', cap', h, hb, hlt, hnc, hcm, hc, hx⟩⟩ := h
  · simp at h
  · simp only [Value.slice.injEq, Option.some.injEq, Addr.mk.injEq, and_true] at h
    obtain ⟨⟨rfl, rfl⟩, rfl, rfl⟩ := h
    simp only [List.length_cons, Nat.mul_one] at hl
    exact ⟨n, by omega, .inr ⟨g, off, 0, rfl, hb, hlt, by omega, by unfold maxLen; omega, fun j hj => by omega, fun j hj => by omega⟩⟩

def ReachRes (w : World) (m : Nat) (fol : Nat → Nat → Bool) (first : Nat → Bool) (e : Ending) (w' : World) : Prop :=
  ∃ v xs, e = .returned v ∧ Own w' w.heap.size 1 v (bools xs) ∧ Reach m fol first xs ∧ Ext w w'

set_option maxRecDepth 100000 in
set_option maxHeartbeats 2000000 in
theorem reached_calls (w : World) (tb : Nat) (n : Int) (ao : Option Addr) (cap : Nat) (L : List Leg) (c : Int) (f : FuncId) (caps : Array Value) (G : Leg → Prop) (F : Leg → Bool)
    (hT : TableIn w tb n ao L.length cap c) (hL : LegsIn w ao L) (hlen : L.length ≤ 100) (hp : Pred w f caps G F) (hG : ∀ k, k < L.length → G (leg L k)) (hc : 0 ≤ c ∧ c ≤ 101) (hfine : ∀ k, k < L.length → Fine n (leg L k)) :
    Calls Try.prog 84 #[.pointer (some ⟨tb, 0, none⟩), .func (.func f) #[] caps] w (ReachRes w L.length (folL c L) (fun i => F (leg L i))) := by
  have HG := Lib.hid hG
  have HF := Lib.hid hfine
  clear hG hfine
  have hent := hp.enter
  have hTn := hT.legs
  have htb := hT.lt
  obtain ⟨i0, hi, hz0, hz1, hz2⟩ := info_parts info_bool
  obtain ⟨j0, hj, hy0, hy1, hy2⟩ := info_parts info_int
  go_enter Try.func84, Try.ntmps84
  go_wp2_with (at_make; refine wpList_make_Own _ rfl _ _ 65 rfl 4 i0 (.bool false) Try.underlying65 hi hz0 hz1 rfl _ _ L.length rfl rfl rfl rfl (by rw [hz2]; omega) (by unfold maxLen; omega) ?_; intro g off cap1 w1 ho1 hx1; have hTn1 := (hT.ext hx1).legs)
  have htb1 := hx1.size
  have hg1 := (ho1.lt g rfl)
  obtain ⟨W, hW⟩ : ∃ W, W = w1.heap.size := ⟨_, rfl⟩
  go_loopw [22, 6] (fun i todo wr => ∃ (k : Nat) (xs : List Bool) (o : List Nat), k ≤ L.length ∧ i = .int .i64 k ∧ Ext w wr ∧ W ≤ wr.heap.size ∧ Own wr w.heap.size 1 (.slice (some ⟨g, off, none⟩) L.length cap1) (bools xs) ∧ Own wr W 1 todo (ints (nats o)) ∧ Hid (Fill L.length (fun i => F (leg L i)) xs o k)) (fun i _ _ => L.length - (intOf i).toNat)
  case atStart => exact ⟨0, List.replicate L.length false, [], by omega, rfl, hx1, by omega, by simpa [bools] using ho1, Own.nil _ _ _, Lib.hid (Fill.start _ _)⟩
  case round =>
    obtain ⟨k, xs, o, hk, rfl, hx, hWr, ho, hoo, HX⟩ := hrel
    by_cases hlt : k < L.length
    · obtain ⟨b, lo, hao, hb, h0, h1, h2, h3, h4⟩ := hL.ext hx k hlt
      subst hao
      go_wp2_with fail
      refine (hp.call _ (leg L k) (hx.alloc _) (HG.out k hlt)).mono ?_
      rintro e w2 ⟨rfl, hx2⟩
      have hx3 := (hx.alloc _).trans hx2
      have hxr := ((Ext.refl wr).alloc _).trans hx2
      have ho3 := ho.ext hxr
      have hoo3 := hoo.ext hxr
      have hxl := HX.out.length
      have hsum := HX.out.sum
      obtain ⟨hc31, hc32⟩ := ho3.boolAt k (by omega)
      have hg3 := ho3.lt g rfl
      have hWs := hxr.size
      cases hFk : F (leg L k) with
      | true =>
        have HFk := Lib.hid hFk
        clear hFk
        have hg4 := grownBy_setCell w2 ⟨g, off + k, none⟩ (.bool true)
        have hoo4 := hoo3.keep hg4 (by right; intro e; have := (hoo3.lt g e).1; omega)
        have ho4 := ho3.setBool k (by omega) true
        have hx4 := hx3.setOwn ⟨g, off + k, none⟩ (.bool true) hg3.1
        have hs4 := hg4.size
        go_wp2_with (at_builtin; refine wpList_append_Own _ rfl _ _ 25 rfl 3 j0 (.int .i64 0) 1 8 Try.underlying25 hj hy0 hy1 hy2 rfl (by omega) W _ _ rfl (Own.ext hoo4 ((Ext.refl _).alloc _)) (by simp; omega) _ 1 1 [.int .i64 (k : Int)] rfl rfl (one_cell _ _ _ _ (by simp [World.setCell])) (by simp [Value.oneCell']) (by simp [ints_length, nats_length]; unfold maxLen; omega) (by simp [ints_length, nats_length]; omega) ?_; intro v' w5 ho5 hg5 hb5)
        have hx5 : Ext w w5 := (hx4.alloc _).onto hg5 (fun k hk => by have := (hoo4.lt k hk).1; omega)
        have hor5 := (Own.ext ho4 ((Ext.refl _).alloc _)).keep hg5 (by
          right
          intro e
          have := (hoo4.lt g e.symm).1
          omega)
        have hs5 := hg5.size
        simp only [World.size_alloc] at hs5
        rw [show ints (nats o) ++ [Value.int .i64 (k : Int)] = ints (nats (o ++ [k])) by simp [ints, nats]] at ho5
        exact ⟨⟨k + 1, _, o ++ [k], by omega, rfl, hx5, by omega, hor5, ho5, Lib.hid (HX.out.add hlt HFk.out)⟩, by simp only [intOf]; omega⟩
      | false =>
        have HFk := Lib.hid hFk
        clear hFk
        go_wp2_with fail
        exact ⟨⟨k + 1, xs, o, by omega, rfl, hx3, by omega, ho3, hoo3, Lib.hid (HX.out.skip HFk.out)⟩, by simp only [intOf]; omega⟩
    · obtain rfl : k = L.length := by omega
      have hq : QueueAt L.length (folL c L) (fun i => F (leg L i)) xs o L.length := HX.out.queue
      have HQ := Lib.hid hq
      clear hq HX
      go_wp2_with fail
      go_loopg [6] L.length (fun q todo ws => ∃ (xs : List Bool) (o : List Nat), Ext w ws ∧ W ≤ ws.heap.size ∧ Own ws w.heap.size 1 (.slice (some ⟨g, off, none⟩) L.length cap1) (bools xs) ∧ Own ws W 1 todo (ints (nats o)) ∧ Hid (QueueAt L.length (folL c L) (fun i => F (leg L i)) xs o q))
      case atStart => exact ⟨xs, o, hx, hWr, ho, hoo, HQ⟩
      case round =>
        clear HQ hx hWr ho hoo
        obtain ⟨xs, o, hx, hWr, ho, hoo, HQ⟩ := hrel
        obtain ⟨to_, tcap, rfl, htin, htb2⟩ := hoo.intsShape
        cases o with
        | nil =>
          go_wp2_with fail
          go_ret
          exact ⟨_, xs, rfl, ho, HQ.out.done, hx⟩
        | cons a o =>
          obtain ⟨tg, toff, rfl, htg, -⟩ := htin 0 (by simp [nats])
          have hTnr := (hT.ext hx).legs
          have htbr : tb < wr.heap.size := Nat.lt_of_lt_of_le htb hx.size
          simp only [nats_length, List.length_cons] at hoo ⊢
          go_wp2_with fail
          go_loopw [48, 6] (fun i todo ws => ∃ (j : Nat) (xs : List Bool) (o : List Nat), j ≤ L.length ∧ i = .int .i64 j ∧ Ext w ws ∧ W ≤ ws.heap.size ∧ Own ws w.heap.size 1 (.slice (some ⟨g, off, none⟩) L.length cap1) (bools xs) ∧ Own ws W 1 todo (ints (nats (a :: o))) ∧ Hid (Pop L.length (folL c L) (fun i => F (leg L i)) xs a o j gk)) (fun i _ _ => L.length - (intOf i).toNat)
          case atStart => exact ⟨0, xs, o, by omega, rfl, hx, hWr, ho, by simpa [nats_length] using hoo, Lib.hid HQ.out.pop⟩
          case round =>
            clear HQ hx hWr ho hoo hTnr htbr htg htin htb2
            obtain ⟨j, xs, o, hj2, rfl, hx, hWr, ho, hoo, HP⟩ := hrel
            have haq := HP.out.inn.queued a (by simp)
            have ham := haq.1
            clear haq
            have hFk := HF.out a ham
            have hxl := HP.out.inn.length
            have hsum := HP.out.sum
            have htop := HP.out.top
            obtain ⟨to_, tcap, rfl, htin, htb2⟩ := hoo.intsShape
            obtain ⟨tg, toff, rfl, htg, -⟩ := htin 0 (by simp [nats])
            simp only [nats_length, List.length_cons] at hoo ⊢
            by_cases hlt : j < L.length
            · obtain ⟨b2, lo2, hao2, hbr, h0r, h1r, h2r, h3r, h4r⟩ := hL.ext hx j hlt
              subst hao2
              go_wp2_with fail
              refine wp_region_boxed (b := leg L j) (by kernel_rfl) (by kernel_rfl) ?_
              intro w0 hne hx0 hB
              have hxw := hx.trans hx0
              have hBs := hB.after
              have ho0 := ho.ext hx0
              have hoo0 := hoo.ext hx0
              have hcj := ho0.boolsIn.after (k := j) (by omega)
              have hca : ∀ s : After w0, s.at_.cell? ⟨tg, toff, none⟩ = some (.int .i64 (a : Int)) := (htin.ext hx0).after (k := 0) (by simp [nats])
              have hAs := (hL.ext hxw).after ham
              have hTc := hT.ext hxw
              have hTs := After.cell hTc.legs hTc.lt
              have hs0 := hx0.size
              clear h0r h1r h2r h3r h4r hTn hTn1 htin
              cases hd : bth xs j with
              | true =>
                repeat (go_big_quiet_step (fail))
                refine wpQuiet_nil ?_
                intro w3 hx3
                have HD := Lib.hid hd
                clear hd
                have hs3 := hx3.size
                go_wp2_with fail
                exact ⟨⟨j + 1, xs, o, by omega, rfl, hxw.trans hx3, by omega, ho0.ext hx3, by simpa [nats_length] using hoo0.ext hx3, Lib.hid (HP.out.skip (fun _ => HD.out))⟩, by simp only [intOf]; omega⟩
              | false =>
                repeat (go_big_quiet_step ((go_at_call 55; exact Calls.after (follows_calls _ tb 0 (leg L a) (leg L j) c (Nat.lt_of_lt_of_le hTc.lt (After.ext _).size) (hTc.ext (After.ext _)).change (by unfold Fine at hFk; omega) hc))))
                refine wpQuiet_nil ?_
                intro w3 hx3
                have HD := Lib.hid hd
                clear hd
                have hs3 := hx3.size
                have ho3 := ho0.ext hx3
                have hoo3 := hoo0.ext hx3
                have hxw3 := hxw.trans hx3
                obtain ⟨hc31, hc32⟩ := ho3.boolAt j (by omega)
                have hg3 := ho3.lt g rfl
                cases hf : folB c (leg L a) (leg L j) with
                | false =>
                  have Hf := Lib.hid hf
                  clear hf
                  go_wp2_with fail
                  refine ⟨⟨j + 1, xs, o, by omega, rfl, hxw3, by omega, ho3, by simpa [nats_length] using hoo3, Lib.hid (HP.out.skip (fun h => ?_))⟩, by simp only [intOf]; omega⟩
                  unfold folL at h
                  rw [Hf.out] at h
                  simp at h
                | true =>
                  have Hf := Lib.hid hf
                  clear hf
                  have hg4 := grownBy_setCell w3 ⟨g, off + j, none⟩ (.bool true)
                  have hoo4 := hoo3.keep hg4 (by right; intro e; have := (hoo3.lt g e).1; omega)
                  have ho4 := ho3.setBool j (by omega) true
                  have hx4 := hxw3.setOwn ⟨g, off + j, none⟩ (.bool true) hg3.1
                  have hs4 := hg4.size
                  go_wp2_with (at_builtin; refine wpList_append_Own _ rfl _ _ 25 rfl 3 j0 (.int .i64 0) 1 8 Try.underlying25 hj hy0 hy1 hy2 rfl (by omega) W _ _ rfl (Own.ext hoo4 ((Ext.refl _).alloc _)) (by simp; omega) _ 1 1 [.int .i64 (j : Int)] rfl rfl (one_cell _ _ _ _ (by simp [World.setCell])) (by simp [Value.oneCell']) (by simp [ints_length, nats_length]; unfold maxLen; omega) (by simp [ints_length, nats_length]; omega) ?_; intro v' w5 ho5 hg5 hb5)
                  have hx5 : Ext w w5 := (hx4.alloc _).onto hg5 (fun k hk => by have := (hoo4.lt k hk).1; omega)
                  have hor5 := (Own.ext ho4 ((Ext.refl _).alloc _)).keep hg5 (by
                    right
                    intro e
                    have := (hoo4.lt g e.symm).1
                    omega)
                  have hs5 := hg5.size
                  simp only [World.size_alloc] at hs5
                  rw [show ints (nats (a :: o)) ++ [Value.int .i64 (j : Int)] = ints (nats (a :: (o ++ [j]))) by simp [ints, nats]] at ho5
                  exact ⟨⟨j + 1, _, o ++ [j], by omega, rfl, hx5, by omega, hor5, ho5, Lib.hid (HP.out.add hlt HD.out Hf.out)⟩, by simp only [intOf]; omega⟩
            · obtain rfl : j = L.length := by omega
              have hh := HP.out.end_
              simp only [ints, nats, List.map_cons] at hoo
              go_wp2_with fail
              · go_roundg (gk - 1)
                case measure => exact hh.2
                case rel => exact ⟨xs, o, hx, hWr, ho, hoo.tail0 (by omega), Lib.hid hh.1⟩
              · go_roundg (gk - 1)
                case measure => exact hh.2
                case rel => exact ⟨xs, o, hx, hWr, ho, hoo.tail, Lib.hid hh.1⟩
end Go.Proofs.Ytmmjjfjbhogfgaa
