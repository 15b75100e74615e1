/- arrival: when a journey comes at the earliest. -/
import Derived.Test.YtmmjjfjbhogfgaaReach
namespace Go.Proofs.Ytmmjjfjbhogfgaa
open Go.RowKit
attribute [local go_sem] Leg.val run_store_fn

/-- The earliest coming by one of the legs that are marked, among the first k ones. -/
def ArrAt (L : List Leg) (dst : Int) (P : Nat → Prop) (k : Nat) (a : Int) : Prop :=
  (a = -1 ∧ ∀ i, i < k → ¬ (P i ∧ (leg L i).To = dst)) ∨
  (0 ≤ a ∧ (∃ i, i < k ∧ P i ∧ (leg L i).To = dst ∧ a = (leg L i).Arr) ∧ ∀ i, i < k → P i → (leg L i).To = dst → a ≤ (leg L i).Arr)
theorem ArrAt.skip {L : List Leg} {dst : Int} {P : Nat → Prop} {k : Nat} {a : Int} (h : ArrAt L dst P k a) (hn : ¬ (P k ∧ (leg L k).To = dst)) : ArrAt L dst P (k + 1) a := by
  rcases h with ⟨rfl, h⟩ | ⟨h0, ⟨i, hi, h1⟩, h2⟩
  · refine .inl ⟨rfl, fun i hi => ?_⟩
    rcases Nat.lt_or_ge i k with h' | h'
    · exact h i h'
    · obtain rfl : i = k := by omega
      exact hn
  · refine .inr ⟨h0, ⟨i, by omega, h1⟩, fun j hj hp ht => ?_⟩
    rcases Nat.lt_or_ge j k with h' | h'
    · exact h2 j h' hp ht
    · obtain rfl : j = k := by omega
      exact (hn ⟨hp, ht⟩).elim
theorem ArrAt.keep {L : List Leg} {dst : Int} {P : Nat → Prop} {k : Nat} {a : Int} (h : ArrAt L dst P k a) (h0 : 0 ≤ a) (hle : a ≤ (leg L k).Arr) : ArrAt L dst P (k + 1) a := by
  rcases h with ⟨rfl, h⟩ | ⟨h0, ⟨i, hi, h1⟩, h2⟩
  · omega
  · refine .inr ⟨h0, ⟨i, by omega, h1⟩, fun j hj hp ht => ?_⟩
    rcases Nat.lt_or_ge j k with h' | h'
    · exact h2 j h' hp ht
    · obtain rfl : j = k := by omega
      exact hle
theorem ArrAt.take {L : List Leg} {dst : Int} {P : Nat → Prop} {k : Nat} {a : Int} (h : ArrAt L dst P k a) (hp : P k) (ht : (leg L k).To = dst) (h0 : 0 ≤ (leg L k).Arr) (hlt : a < 0 ∨ (leg L k).Arr < a) : ArrAt L dst P (k + 1) (leg L k).Arr := by
  refine .inr ⟨h0, ⟨k, by omega, hp, ht, rfl⟩, fun j hj hpj htj => ?_⟩
  rcases Nat.lt_or_ge j k with h' | h'
  · rcases h with ⟨rfl, h⟩ | ⟨_, _, h2⟩
    · exact (h j h' ⟨hpj, htj⟩).elim
    · have := h2 j h' hpj htj
      omega
  · obtain rfl : j = k := by omega
    omega
theorem ArrAt.bound {L : List Leg} {dst : Int} {P : Nat → Prop} {k : Nat} {a : Int} (h : ArrAt L dst P k a) : a = -1 ∨ 0 ≤ a := by
  rcases h with ⟨rfl, _⟩ | ⟨h, _⟩
  · exact .inl rfl
  · exact .inr h
theorem ArrAt.congr {L : List Leg} {dst : Int} {P P' : Nat → Prop} {k : Nat} {a : Int} (h : ArrAt L dst P k a) (hp : ∀ i, i < k → (P i ↔ P' i)) : ArrAt L dst P' k a := by
  rcases h with ⟨rfl, h⟩ | ⟨h0, ⟨i, hi, h1, h3⟩, h2⟩
  · exact .inl ⟨rfl, fun i hi hh => h i hi ⟨(hp i hi).2 hh.1, hh.2⟩⟩
  · exact .inr ⟨h0, ⟨i, hi, (hp i hi).1 h1, h3⟩, fun j hj hpj => h2 j hj ((hp j hj).2 hpj)⟩
theorem ArrAt.uniq {L : List Leg} {dst : Int} {P : Nat → Prop} {k : Nat} {a b : Int} (h : ArrAt L dst P k a) (h' : ArrAt L dst P k b) : a = b := by
  rcases h with ⟨rfl, h⟩ | ⟨h0, ⟨i, hi, h1, h3, h4⟩, h2⟩
  · rcases h' with ⟨rfl, _⟩ | ⟨h0, ⟨i, hi, h1, h3, h4⟩, h2⟩
    · rfl
    · exact (h i hi ⟨h1, h3⟩).elim
  · rcases h' with ⟨rfl, h⟩ | ⟨h0', ⟨i', hi', h1', h3', h4'⟩, h2'⟩
    · exact (h i hi ⟨h1, h3⟩).elim
    · have := h2 i' hi' h1' h3'
      have := h2' i hi h1 h3
      omega

/-- Leg i can be come to. -/
def ComeTo (c : Int) (L : List Leg) (first : Nat → Bool) (i : Nat) : Prop := ∃ y, Jn L.length (folL c L) first (fun k => k == i) y
def ArrRes (w : World) (c : Int) (L : List Leg) (first : Nat → Bool) (dst : Int) (e : Ending) (w' : World) : Prop :=
  ∃ a, e = .returned (.int .i64 a) ∧ ArrAt L dst (ComeTo c L first) L.length a ∧ Ext w w'

set_option maxRecDepth 100000 in
set_option maxHeartbeats 2000000 in
theorem arrival_calls (w : World) (tb : Nat) (n : Int) (ao : Option Addr) (cap : Nat) (L : List Leg) (c : Int) (f : FuncId) (caps : Array Value) (G : Leg → Prop) (F : Leg → Bool) (dst : Int)
    (hT : TableIn w tb n ao L.length cap c) (hL : LegsIn w ao L) (hlen : L.length ≤ 100) (hp : Pred w f caps G F) (hG : ∀ k, k < L.length → G (leg L k)) (hc : 0 ≤ c ∧ c ≤ 101) (hfine : ∀ k, k < L.length → Fine n (leg L k)) :
    Calls Try.prog 49 #[.pointer (some ⟨tb, 0, none⟩), .func (.func f) #[] caps, .int .i64 dst] w (ArrRes w c L (fun i => F (leg L i)) dst) := by
  have HF := Lib.hid hfine
  have htb := hT.lt
  go_enter Try.func49, Try.ntmps49
  go_wp2_with fail
  refine (reached_calls w tb n ao cap L c f caps G F hT hL hlen hp hG hc hfine).mono ?_
  rintro e w1 ⟨v, xs, rfl, ho, hR, hx1⟩
  have HR := Lib.hid hR
  have hxl := hR.1
  clear hR hfine hG
  obtain ⟨so, scap, rfl, hSin, hsb⟩ := ho.boolsShape
  rw [hxl] at ho ⊢
  go_wp2_with fail
  go_loopw [15, 7] (fun i best wr => ∃ (k : Nat) (a : Int), k ≤ L.length ∧ i = .int .i64 k ∧ best = .int .i64 a ∧ Ext w1 wr ∧ Hid (ArrAt L dst (fun i => bth xs i = true) k a)) (fun i _ _ => L.length - (intOf i).toNat)
  case atStart => exact ⟨0, -1, by omega, rfl, rfl, Ext.refl _, Lib.hid (.inl ⟨rfl, fun i hi => by omega⟩)⟩
  case round =>
    obtain ⟨k, a, hk, rfl, rfl, hx, HA⟩ := hrel
    by_cases hlt : k < L.length
    · obtain ⟨b2, lo2, hao2, hbr, h0r, h1r, h2r, h3r, h4r⟩ := hL.ext (hx1.trans hx) k hlt
      subst hao2
      obtain ⟨sb, so', hso, hsb', hck⟩ := (hSin.ext hx) k (by omega)
      subst hso
      have hTn := (hT.ext (hx1.trans hx)).legs
      have htbr := (hT.ext (hx1.trans hx)).lt
      have hfk := HF.out k hlt
      unfold Fine at hfk
      obtain ⟨-, -, -, -, -, -, -, -, -, -⟩ := id hfk
      have harr : 0 ≤ (leg L k).Arr := by omega
      clear hfk
      cases hd : bth xs k with
      | false =>
        have HQ := Lib.hid (HA.out.skip (by simp [hd]))
        try clear hto
        go_wp2_with fail
        exact ⟨⟨k + 1, a, by omega, rfl, rfl, hx.alloc _, Lib.hid HQ.out⟩, by simp only [intOf]; omega⟩
      | true =>
        by_cases hto : (leg L k).To = dst
        · have hto' : ((leg L k).To == dst) = true := by simp [hto]
          by_cases ha : a = -1
          · subst ha
            have HQ := Lib.hid (HA.out.take hd hto harr (.inl (by omega)))
            try clear hto
            go_wp2_with fail
            exact ⟨⟨k + 1, (leg L k).Arr, by omega, rfl, rfl, hx.alloc _, Lib.hid HQ.out⟩, by simp only [intOf]; omega⟩
          · have h0 : 0 ≤ a := by
              rcases HA.out.bound with h | h
              · exact (ha h).elim
              · exact h
            have hd3 : decide (a < 0) = false := by simp; omega
            cases hd2 : decide ((leg L k).Arr < a) with
            | true =>
              have HQ := Lib.hid (HA.out.take hd hto harr (.inr (by simpa using hd2)))
              try clear hto
              go_wp2_with fail
              exact ⟨⟨k + 1, (leg L k).Arr, by omega, rfl, rfl, hx.alloc _, Lib.hid HQ.out⟩, by simp only [intOf]; omega⟩
            | false =>
              have HQ := Lib.hid (HA.out.keep h0 (by simp at hd2; omega))
              try clear hto
              go_wp2_with fail
              exact ⟨⟨k + 1, a, by omega, rfl, rfl, hx.alloc _, Lib.hid HQ.out⟩, by simp only [intOf]; omega⟩
        · have hto' : ((leg L k).To == dst) = false := by simp [hto]
          have HQ := Lib.hid (HA.out.skip (by simp [hto]))
          try clear hto
          go_wp2_with fail
          exact ⟨⟨k + 1, a, by omega, rfl, rfl, hx.alloc _, Lib.hid HQ.out⟩, by simp only [intOf]; omega⟩
    · obtain rfl : k = L.length := by omega
      have hAA : ArrAt L dst (ComeTo c L (fun i => F (leg L i))) L.length a := HA.out.congr (fun i hi => HR.out.2 i hi)
      have HAA := Lib.hid hAA
      clear hAA
      go_wp2_with fail
      go_ret
      exact ⟨a, rfl, HAA.out, hx1.trans hx⟩
end Go.Proofs.Ytmmjjfjbhogfgaa
