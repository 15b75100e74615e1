/- Leaves of quota: sum, gcd, the closure of problem, ContainsFunc with it, problem. -/
import Derived.Test.YtcngecibljgndaaKit
import Derived.Shelf.Abstract
namespace Go.Proofs.Ytcngecibljgndaa
open Go.RowKit Go.Shelf

/-- The sum of numbers. -/
def isum (xs : List Int) : Int := xs.foldr (· + ·) 0
theorem isum_nil : isum [] = 0 := rfl
theorem isum_cons (x : Int) (l : List Int) : isum (x :: l) = x + isum l := rfl
theorem isum_append (l m : List Int) : isum (l ++ m) = isum l + isum m := by
  induction l with
  | nil => simp [isum_nil]
  | cons x l ih => simp only [List.cons_append, isum_cons, ih]; omega
theorem take_snoc (xs : List Int) (k : Nat) (h : k < xs.length) : xs.take (k + 1) = xs.take k ++ [ith xs k] := by
  rw [List.take_succ_eq_append_getElem h]
  simp [ith, h]
theorem isum_take (xs : List Int) (k : Nat) (h : k < xs.length) : isum (xs.take (k + 1)) = isum (xs.take k) + ith xs k := by
  rw [take_snoc xs k h, isum_append]; simp [isum]
/-- All numbers are from 0 to a bound. -/
def Upto (m : Int) (xs : List Int) : Prop := ∀ x ∈ xs, 0 ≤ x ∧ x ≤ m
theorem Upto.at_ {m : Int} {xs : List Int} (h : Upto m xs) (k : Nat) (hk : k < xs.length) : 0 ≤ ith xs k ∧ ith xs k ≤ m := by
  have : ith xs k = xs[k] := by simp [ith, hk]
  rw [this]; exact h _ (List.getElem_mem _)
theorem Upto.take {m : Int} {xs : List Int} (h : Upto m xs) (k : Nat) : Upto m (xs.take k) := fun x hx => h x (List.mem_of_mem_take hx)
theorem Upto.isum {m : Int} {xs : List Int} (h : Upto m xs) : 0 ≤ isum xs ∧ isum xs ≤ m * xs.length := by
  induction xs with
  | nil => simp [isum_nil]
  | cons x l ih =>
    have h1 := h x (by simp)
    have h2 := ih (fun y hy => h y (by simp [hy]))
    simp only [isum_cons, List.length_cons]
    have : m * ((l.length + 1 : Nat) : Int) = m * l.length + m := by rw [Int.natCast_add, Int.mul_add]; simp
    omega
/-- The sums of the first numbers are no greater than an int. -/
def Sums (xs : List Int) : Prop := ∀ k, k ≤ xs.length → -9223372036854775808 ≤ isum (xs.take k) ∧ isum (xs.take k) ≤ 9223372036854775807
theorem Upto.sums {m : Int} {xs : List Int} (h : Upto m xs) (hb : m * xs.length ≤ 9223372036854775807) : Sums xs := by
  intro k hk
  have h1 := (h.take k).isum
  rw [List.length_take, Nat.min_eq_left hk] at h1
  have h0 : 0 ≤ m ∨ xs = [] := by
    cases xs with
    | nil => exact .inr rfl
    | cons x l => have := h x (by simp); exact .inl (by omega)
  rcases h0 with h0 | rfl
  · have : m * (k : Int) ≤ m * xs.length := Int.mul_le_mul_of_nonneg_left (by omega) h0
    omega
  · simp [isum_nil]

theorem sum_calls (w : World) (ao : Option Addr) (cap : Nat) (xs : List Int) (hI : IntsIn w ao xs) (hs : Sums xs) (hl : xs.length ≤ 1000000) :
    Calls Try.prog 54 #[.slice ao xs.length cap] w fun e w' => e = .returned (.int .i64 (isum xs)) ∧ Ext w w' := by
  have HS := Lib.hid hs
  clear hs
  go_enter Try.func54, Try.ntmps54
  go_wp2_with fail
  go_loopw [3, 8] (fun s i wr => ∃ k : Nat, k ≤ xs.length ∧ i = .int .i64 k ∧ s = .int .i64 (isum (xs.take k)) ∧ Ext w wr) (fun _ i _ => xs.length - (intOf i).toNat)
  case atStart => exact ⟨0, by omega, rfl, rfl, Ext.refl _⟩
  case round =>
    obtain ⟨k, hk, rfl, rfl, hx⟩ := hrel
    by_cases hlt : k < xs.length
    · obtain ⟨b, off, rfl, hb, hc⟩ := hI.ext hx k hlt
      have h1 := HS.out (k + 1) (by omega)
      rw [isum_take xs k hlt] at h1
      go_wp2_with fail
      refine ⟨⟨k + 1, by omega, rfl, ?_, hx⟩, by simp only [intOf]; omega⟩
      rw [isum_take xs k hlt]
    · obtain rfl : k = xs.length := by omega
      go_wp2_with fail
      go_ret
      exact ⟨by rw [List.take_length]; rfl, hx⟩

/-- What the gcd of the program is. -/
theorem gcd_calls (w : World) (a b : Int) (ha : -4611686018427387904 ≤ a ∧ a ≤ 4611686018427387904) (hb : -4611686018427387904 ≤ b ∧ b ≤ 4611686018427387904) :
    Calls Try.prog 79 #[.int .i64 a, .int .i64 b] w fun e w' => e = .returned (.int .i64 (Int.gcd a b)) ∧ Ext w w' := by
  go_enter Try.func79, Try.ntmps79
  go_wp2_with fail
  go_loopw [0, 1] (fun x y wr => ∃ p q : Int, x = .int .i64 p ∧ y = .int .i64 q ∧ Hid (Int.gcd p q = Int.gcd a b) ∧ (-4611686018427387904 ≤ p ∧ p ≤ 4611686018427387904) ∧ (-4611686018427387904 ≤ q ∧ q ≤ 4611686018427387904) ∧ Ext w wr) (fun _ y _ => (intOf y).natAbs)
  case atStart => exact ⟨a, b, rfl, rfl, Lib.hid rfl, ha, hb, Ext.refl _⟩
  case round =>
    obtain ⟨p, q, rfl, rfl, HG, hp, hq, hx⟩ := hrel
    by_cases h0 : q = 0
    · subst h0
      have hg := HG.out
      by_cases hn : p < 0
      · go_wp2_with fail
        go_ret
        refine ⟨ret_int ?_, hx⟩
        rw [← hg, Int.gcd_zero]
        omega
      · go_wp2_with fail
        go_ret
        refine ⟨ret_int ?_, hx⟩
        rw [← hg, Int.gcd_zero]
        omega
    · have hm := Int.tmod_lt_of_pos
      have h1 : (p.tmod q).natAbs < q.natAbs := by
        rw [Int.natAbs_tmod]; exact Nat.mod_lt _ (by omega)
      go_wp2_with fail
      go_region
      go_wp2_with fail
      refine ⟨⟨q, p.tmod q, rfl, rfl, Lib.hid ?_, hq, by omega, (by repeat (first | exact Ext.refl _ | assumption | refine Ext.alloc ?_ _ | refine Ext.drewN ?_ _ | refine Ext.drew ?_))⟩, by simp only [intOf]; omega⟩
      rw [← HG.out, Int.gcd, Int.gcd, Int.natAbs_tmod, Nat.gcd_comm, ← Nat.gcd_rec, Nat.gcd_comm]

/-- The place of the first number at which p holds, or -1. -/
def firstI (p : Int → Bool) (L : List Int) : Int := match L.findIdx? p with | some k => (k : Int) | none => -1
theorem firstI_hit {p : Int → Bool} {L : List Int} {k : Nat} (hk : k < L.length) (h : p (ith L k) = true) (hn : ∀ j, j < k → p (ith L j) = false) : firstI p L = k := by
  have : L.findIdx? p = some k := by
    rw [List.findIdx?_eq_some_iff_getElem]
    refine ⟨hk, ?_, fun j hj => ?_⟩
    · have e : ith L k = L[k] := by simp [ith, hk]
      rw [← e]; exact h
    · have e : ith L j = L[j] := by simp [ith, show j < L.length by omega]
      rw [← e, hn j hj]; simp
  simp [firstI, this]
theorem firstI_none {p : Int → Bool} {L : List Int} (hn : ∀ j, j < L.length → p (ith L j) = false) : firstI p L = -1 := by
  have : L.findIdx? p = none := by
    rw [List.findIdx?_eq_none_iff]
    intro x hx
    obtain ⟨j, hj, rfl⟩ := List.getElem_of_mem hx
    have e : ith L j = L[j] := by simp [ith, hj]
    rw [← e]; exact hn j hj
  simp [firstI, this]
theorem firstI_any (p : Int → Bool) (L : List Int) : decide (0 ≤ firstI p L) = L.any p := by
  unfold firstI
  cases h : L.findIdx? p with
  | none =>
    rw [List.findIdx?_eq_none_iff] at h
    have : L.any p = false := by simp; exact h
    rw [this]; simp
  | some k =>
    rw [List.findIdx?_eq_some_iff_getElem] at h
    obtain ⟨hk, h, _⟩ := h
    have : L.any p = true := by simp; exact ⟨L[k], List.getElem_mem _, h⟩
    rw [this]; simp

structure PredI (w : World) (f : FuncId) (caps : Array Value) (F : Int → Bool) : Prop where
  enter : ∀ args w', Sem.run Try.prog (callFunc f args) w' = .ok (.enter f args) w'
  call : ∀ w' x, Ext w w' → Calls Try.prog f (#[.int .i64 x] ++ caps) w' fun e w'' => e = .returned (.bool (F x)) ∧ Ext w' w''

set_option maxRecDepth 100000 in
theorem indexFunc_calls (w : World) (ao : Option Addr) (cap : Nat) (L : List Int) (f : FuncId) (caps : Array Value) (F : Int → Bool)
    (hL : IntsIn w ao L) (hlen : L.length ≤ 10000000) (hp : PredI w f caps F) :
    Calls Try.prog 103 #[.slice ao L.length cap, .func (.func f) #[] caps] w fun e w' => e = .returned (.int .i64 (firstI F L)) ∧ Ext w w' := by
  have hent := hp.enter
  go_enter Try.func103, Try.ntmps103
  go_wp2_with fail
  go_loopw [8] (fun i wr => ∃ k : Nat, k ≤ L.length ∧ i = .int .i64 k ∧ Ext w wr ∧ Hid (∀ j, j < k → F (ith L j) = false)) (fun i _ => L.length - (intOf i).toNat)
  case atStart => exact ⟨0, by omega, rfl, Ext.refl _, Lib.hid (fun j hj => by omega)⟩
  case round =>
    obtain ⟨k, hk, rfl, hx, HN⟩ := hrel
    by_cases hlt : k < L.length
    · obtain ⟨b, off, hao, hb, h0⟩ := hL.ext hx k hlt
      subst hao
      go_wp2_with fail
      refine (hp.call _ (ith L k) hx).mono ?_
      rintro e w1 ⟨rfl, hx1⟩
      cases hF : F (ith L k) with
      | true =>
        have HF := Lib.hid hF
        clear hF
        go_wp2_with fail
        go_ret
        exact ⟨ret_int (firstI_hit hlt HF.out HN.out).symm, hx.trans hx1⟩
      | false =>
        have HF := Lib.hid hF
        clear hF
        go_wp2_with fail
        refine ⟨⟨k + 1, by omega, rfl, hx.trans hx1, Lib.hid (fun j hj => ?_)⟩, by simp only [intOf]; omega⟩
        rcases Nat.lt_or_ge j k with h | h
        · exact HN.out j h
        · rw [show j = k by omega]; exact HF.out
    · go_wp2_with fail
      go_ret
      exact ⟨ret_int (firstI_none (fun j hj => HN.out j (by omega))).symm, hx⟩

theorem containsFunc_calls (w : World) (ao : Option Addr) (cap : Nat) (L : List Int) (f : FuncId) (caps : Array Value) (F : Int → Bool)
    (hL : IntsIn w ao L) (hlen : L.length ≤ 10000000) (hp : PredI w f caps F) :
    Calls Try.prog 77 #[.slice ao L.length cap, .func (.func f) #[] caps] w fun e w' => e = .returned (.bool (L.any F)) ∧ Ext w w' := by
  go_enter Try.func77, Try.ntmps77
  go_wp2_with (go_at_call 103; refine (indexFunc_calls _ ao cap L f caps F hL hlen hp).mono ?_; rintro e w' ⟨rfl, hx⟩)
  go_ret
  exact ⟨ret_bool (firstI_any F L), hx⟩

/-- Is a number no amount? -/
def outB (n : Int) : Bool := decide (n < 0 ∨ 100000 < n)
theorem out_calls (w : World) (n : Int) : Calls Try.prog 96 #[.int .i64 n] w fun e w' => e = .returned (.bool (outB n)) ∧ Ext w w' := by
  by_cases h0 : n < 0
  · go_enter Try.func96, Try.ntmps96
    go_wp2_with fail
    go_ret
    exact ⟨ret_bool (by simp [outB, h0]), (by repeat (first | exact Ext.refl _ | assumption | refine Ext.alloc ?_ _ | refine Ext.drewN ?_ _ | refine Ext.drew ?_))⟩
  · by_cases h1 : 100000 < n
    · go_enter Try.func96, Try.ntmps96
      go_wp2_with fail
      go_ret
      exact ⟨ret_bool (by simp [outB, h1]), (by repeat (first | exact Ext.refl _ | assumption | refine Ext.alloc ?_ _ | refine Ext.drewN ?_ _ | refine Ext.drew ?_))⟩
    · go_enter Try.func96, Try.ntmps96
      go_wp2_with fail
      go_ret
      exact ⟨ret_bool (by simp [outB, h0, h1]), (by repeat (first | exact Ext.refl _ | assumption | refine Ext.alloc ?_ _ | refine Ext.drewN ?_ _ | refine Ext.drew ?_))⟩
theorem enters_out : ∀ args w, (callFunc 96 args).run Try.prog w = .ok (.enter 96 args) w := enters_of Try.func96 (by kernel_rfl) rfl
theorem pred_out (w : World) : PredI w 96 #[] outB := ⟨fun args w' => enters_out args w', fun w' x _ => out_calls w' x⟩

/-- Is an estate with claims a problem? -/
structure IsProb (E : Int) (xs : List Int) : Prop where
  estate : 0 ≤ E ∧ E ≤ 100000
  one : 1 ≤ xs.length
  seven : xs.length ≤ 7
  claims : Upto 100000 xs
  enough : E ≤ isum xs
def probB (E : Int) (xs : List Int) : Bool := !outB E && decide (1 ≤ xs.length) && decide (xs.length ≤ 7) && !xs.any outB && decide (E ≤ isum xs)
theorem any_out (xs : List Int) : xs.any outB = false ↔ Upto 100000 xs := by
  simp only [List.any_eq_false, outB, decide_eq_true_eq, Upto]
  constructor
  · intro h x hx; have := h x hx; omega
  · intro h x hx; have := h x hx; omega
theorem probB_true (E : Int) (xs : List Int) : probB E xs = true ↔ IsProb E xs := by
  simp only [probB, Bool.and_eq_true, Bool.not_eq_true', decide_eq_true_eq, any_out]
  constructor
  · rintro ⟨⟨⟨⟨h0, h1⟩, h2⟩, h3⟩, h4⟩
    exact ⟨by simp [outB] at h0; omega, h1, h2, h3, h4⟩
  · rintro ⟨h0, h1, h2, h3, h4⟩
    exact ⟨⟨⟨⟨by simp [outB]; omega, h1⟩, h2⟩, h3⟩, h4⟩

/-- The error's number. -/
def errI (ok : Bool) : Int := if ok then 0 else 2
set_option maxHeartbeats 4000000 in
theorem problem_calls (w : World) (E : Int) (ao : Option Addr) (cap : Nat) (xs : List Int) (hI : IntsIn w ao xs) (hl : xs.length ≤ 1000000) :
    Calls Try.prog 52 #[.int .i64 E, .slice ao xs.length cap] w fun e w' => e = .returned (.int .i64 (errI (probB E xs))) ∧ Ext w w' := by
  have hent := enters_out
  go_enter Try.func52, Try.ntmps52
  go_wp2_with fail
  refine (out_calls _ E).mono ?_
  rintro e w1 ⟨rfl, hx1⟩
  cases h0 : outB E with
  | true =>
    have H0 := Lib.hid h0
    clear h0
    go_wp2_with fail
    go_ret
    exact ⟨ret_int (by simp [errI, probB, H0.out]), hx1⟩
  | false =>
    have H0 := Lib.hid h0
    clear h0
    by_cases h1 : 1 ≤ xs.length
    · by_cases h2 : xs.length ≤ 7
      · go_wp2_with fail
        refine (containsFunc_calls _ ao cap xs _ #[] outB (hI.ext hx1) (by omega) (pred_out _)).mono ?_
        rintro e w2 ⟨rfl, hx2⟩
        have hx12 := hx1.trans hx2
        cases h3 : xs.any outB with
        | true =>
          have H3 := Lib.hid h3
          clear h3
          go_wp2_with fail
          go_ret
          exact ⟨ret_int (by simp only [errI, probB, H3.out]; simp), hx12⟩
        | false =>
          have hu := (any_out xs).1 h3
          have H3 := Lib.hid h3
          clear h3
          go_wp2_with fail
          have hb := hu.isum
          refine (sum_calls _ ao cap xs (hI.ext hx12) (hu.sums (by omega)) (by omega)).mono ?_
          rintro e w3 ⟨rfl, hx3⟩
          replace hx12 := hx12.trans hx3
          have HU := Lib.hid hu
          clear hu
          by_cases h4 : E ≤ isum xs
          · go_wp2_with fail
            go_ret
            refine ⟨?_, hx12⟩
            have : probB E xs = true := by simp only [probB, H0.out, H3.out]; simp; omega
            rw [this]; rfl
          · go_wp2_with fail
            go_ret
            refine ⟨?_, hx12⟩
            have : probB E xs = false := by simp only [probB, H0.out, H3.out]; simp; omega
            rw [this]; rfl
      · go_wp2_with fail
        go_ret
        refine ⟨?_, hx1⟩
        have : probB E xs = false := by simp only [probB, H0.out]; simp; omega
        rw [this]; rfl
    · go_wp2_with fail
      go_ret
      refine ⟨?_, hx1⟩
      have : probB E xs = false := by simp only [probB, H0.out]; simp; omega
      rw [this]; rfl
end Go.Proofs.Ytcngecibljgndaa
