/- Leaves of quota: sum, gcd, the closure of problem, ContainsFunc with it, problem. -/
import Derived.Test.YtcngecibljgndaaMLA
import Derived.Shelf.Abstract
namespace Go.Proofs.Ytcngecibljgndaa
open Go.RowKit Go.Shelf

/-- The sum of numbers. -/
def isum (xs : List Int) : Int := xs.foldr (· + ·) 0
theorem isum_nil : isum [] = 0 := rfl
theorem isum_cons (x : Int) (l : List Int) : isum (x :: l) = x + isum l := rfl
theorem isum_append (l m : List Int) : isum (l ++ m) = isum l + isum m := by
  induction l with
  | nil => simp [isum_nil]
  | cons x l ih => simp only [List.cons_append, isum_cons, ih]; omega
theorem take_snoc (xs : List Int) (k : Nat) (h : k < xs.length) : xs.take (k + 1) = xs.take k ++ [ith xs k] := by
  rw [List.take_succ_eq_append_getElem h]
  simp [ith, h]
theorem isum_take (xs : List Int) (k : Nat) (h : k < xs.length) : isum (xs.take (k + 1)) = isum (xs.take k) + ith xs k := by
  rw [take_snoc xs k h, isum_append]; simp [isum]
/-- All numbers are from 0 to a bound. -/
def Upto (m : Int) (xs : List Int) : Prop := ∀ x ∈ xs, 0 ≤ x ∧ x ≤ m
theorem Upto.at_ {m : Int} {xs : List Int} (h : Upto m xs) (k : Nat) (hk : k < xs.length) : 0 ≤ ith xs k ∧ ith xs k ≤ m := by
  have : ith xs k = xs[k] := by simp [ith, hk]
  rw [this]; exact h _ (List.getElem_mem _)
theorem Upto.take {m : Int} {xs : List Int} (h : Upto m xs) (k : Nat) : Upto m (xs.take k) := fun x hx => h x (List.mem_of_mem_take hx)
theorem Upto.isum {m : Int} {xs : List Int} (h : Upto m xs) : 0 ≤ isum xs ∧ isum xs ≤ m * xs.length := by
  induction xs with
  | nil => simp [isum_nil]
  | cons x l ih =>
    have h1 := h x (by simp)
    have h2 := ih (fun y hy => h y (by simp [hy]))
    simp only [isum_cons, List.length_cons]
    have : m * ((l.length + 1 : Nat) : Int) = m * l.length + m := by rw [Int.natCast_add, Int.mul_add]; simp
    omega
/-- The sums of the first numbers are no greater than an int. -/
def Sums (xs : List Int) : Prop := ∀ k, k ≤ xs.length → -9223372036854775808 ≤ isum (xs.take k) ∧ isum (xs.take k) ≤ 9223372036854775807
theorem Upto.sums {m : Int} {xs : List Int} (h : Upto m xs) (hb : m * xs.length ≤ 9223372036854775807) : Sums xs := by
  intro k hk
  have h1 := (h.take k).isum
  rw [List.length_take, Nat.min_eq_left hk] at h1
  have h0 : 0 ≤ m ∨ xs = [] := by
    cases xs with
    | nil => exact .inr rfl
    | cons x l => have := h x (by simp); exact .inl (by omega)
  rcases h0 with h0 | rfl
  · have : m * (k : Int) ≤ m * xs.length := Int.mul_le_mul_of_nonneg_left (by omega) h0
    omega
  · simp [isum_nil]

theorem sum_calls (w : World) (ao : Option Addr) (cap : Nat) (xs : List Int) (hI : IntsIn w ao xs) (hs : Sums xs) (hl : xs.length ≤ 1000000) :
    Calls Try.prog 54 #[.slice ao xs.length cap] w fun e w' => e = .returned (.int .i64 (isum xs)) ∧ Ext w w' := by
  have HS := Lib.hid hs
  clear hs
  go_enter Try.func54, Try.ntmps54
  go_wp2_with fail
  go_loopw [3, 8] (fun s i wr => ∃ k : Nat, k ≤ xs.length ∧ i = .int .i64 k ∧ s = .int .i64 (isum (xs.take k)) ∧ Ext w wr) (fun _ i _ => xs.length - (intOf i).toNat)
  case atStart => exact ⟨0, by omega, rfl, rfl, Ext.refl _⟩
  case round =>
    obtain ⟨k, hk, rfl, rfl, hx⟩ := hrel
    by_cases hlt : k < xs.length
    · obtain ⟨b, off, rfl, hb, hc⟩ := hI.ext hx k hlt
      have h1 := HS.out (k + 1) (by omega)
      rw [isum_take xs k hlt] at h1
      go_wp2_with fail
      refine ⟨⟨k + 1, by omega, rfl, ?_, hx⟩, by simp only [intOf]; omega⟩
      rw [isum_take xs k hlt]
    · obtain rfl : k = xs.length := by omega
      go_wp2_with fail
      go_ret
      exact ⟨by rw [List.take_length]; rfl, hx⟩

/-- What the gcd of the program is. -/
theorem gcd_calls (w : World) (a b : Int) (ha : -4611686018427387904 ≤ a ∧ a ≤ 4611686018427387904) (hb : -4611686018427387904 ≤ b ∧ b ≤ 4611686018427387904) :
    Calls Try.prog 79 #[.int .i64 a, .int .i64 b] w fun e w' => e = .returned (.int .i64 (Int.gcd a b)) ∧ Ext w w' := by
  go_enter Try.func79, Try.ntmps79
  go_wp2_with fail
  go_loopw [0, 1] (fun x y wr => ∃ p q : Int, x = .int .i64 p ∧ y = .int .i64 q ∧ Hid (Int.gcd p q = Int.gcd a b) ∧ (-4611686018427387904 ≤ p ∧ p ≤ 4611686018427387904) ∧ (-4611686018427387904 ≤ q ∧ q ≤ 4611686018427387904) ∧ Ext w wr) (fun _ y _ => (intOf y).natAbs)
  case atStart => exact ⟨a, b, rfl, rfl, Lib.hid rfl, ha, hb, Ext.refl _⟩
  case round =>
    obtain ⟨p, q, rfl, rfl, HG, hp, hq, hx⟩ := hrel
    by_cases h0 : q = 0
    · subst h0
      have hg := HG.out
      by_cases hn : p < 0
      · go_wp2_with fail
        go_ret
        refine ⟨ret_int ?_, hx⟩
        rw [← hg, Int.gcd_zero]
        omega
      · go_wp2_with fail
        go_ret
        refine ⟨ret_int ?_, hx⟩
        rw [← hg, Int.gcd_zero]
        omega
    · have hm := Int.tmod_lt_of_pos
      have h1 : (p.tmod q).natAbs < q.natAbs := by
        rw [Int.natAbs_tmod]; exact Nat.mod_lt _ (by omega)
      go_wp2_with fail
      go_region
      go_wp2_with fail
      refine ⟨⟨q, p.tmod q, rfl, rfl, Lib.hid ?_, hq, by omega, (by repeat (first | exact Ext.refl _ | assumption | refine Ext.alloc ?_ _ | refine Ext.drewN ?_ _ | refine Ext.drew ?_))⟩, by simp only [intOf]; omega⟩
      rw [← HG.out, Int.gcd, Int.gcd, Int.natAbs_tmod, Nat.gcd_comm, ← Nat.gcd_rec, Nat.gcd_comm]

/-- The place of the first number at which p holds, or -1. -/
def firstI (p : Int → Bool) (L : List Int) : Int := match L.findIdx? p with | some k => (k : Int) | none => -1
theorem firstI_hit {p : Int → Bool} {L : List Int} {k : Nat} (hk : k < L.length) (h : p (ith L k) = true) (hn : ∀ j, j < k → p (ith L j) = false) : firstI p L = k := by
  have : L.findIdx? p = some k := by
    rw [List.findIdx?_eq_some_iff_getElem]
    refine ⟨hk, ?_, fun j hj => ?_⟩
    · have e : ith L k = L[k] := by simp [ith, hk]
      rw [← e]; exact h
    · have e : ith L j = L[j] := by simp [ith, show j < L.length by omega]
      rw [← e, hn j hj]; simp
  simp [firstI, this]
theorem firstI_none {p : Int → Bool} {L : List Int} (hn : ∀ j, j < L.length → p (ith L j) = false) : firstI p L = -1 := by
  have : L.findIdx? p = none := by
    rw [List.findIdx?_eq_none_iff]
    intro x hx
    obtain ⟨j, hj, rfl⟩ := List.getElem_of_mem hx
    have e : ith L j = L[j] := by simp [ith, hj]
    rw [← e]; exact hn j hj
  simp [firstI, this]
theorem firstI_any (p : Int → Bool) (L : List Int) : decide (0 ≤ firstI p L) = L.any p := by
  unfold firstI
  cases h : L.findIdx? p with
  | none =>
    rw [List.findIdx?_eq_none_iff] at h
    have : L.any p = false := by simp; exact h
    rw [this]; simp
  | some k =>
    rw [List.findIdx?_eq_some_iff_getElem] at h
    obtain ⟨hk, h, _⟩ := h
    have : L.any p = true := by simp; exact ⟨L[k], List.getElem_mem _, h⟩
    rw [this]; simp

structure PredI (w : World) (f : FuncId) (caps : Array Value) (F : Int → Bool) : Prop where
  enter : ∀ args w', Sem.run Try.prog (callFunc f args) w' = .ok (.enter f args) w'
  call : ∀ w' x, Ext w w' → Calls Try.prog f (#[.int .i64 x] ++ caps) w' fun e w'' => e = .returned (.bool (F x)) ∧ Ext w' w''

set_option maxRecDepth 100000 in
theorem indexFunc_calls (w : World) (ao : Option Addr) (cap : Nat) (L : List Int) (f : FuncId) (caps : Array Value) (F : Int → Bool)
    (hL : IntsIn w ao L) (hlen : L.length ≤ 10000000) (hp : PredI w f caps F) :
    Calls Try.prog 103 #[.slice ao L.length cap, .func (.func f) #[] caps] w fun e w' => e = .returned (.int .i64 (firstI F L)) ∧ Ext w w' := by
  have hent := hp.enter
  go_enter Try.func103, Try.ntmps103
  go_wp2_with fail
  go_loopw [8] (fun i wr => ∃ k : Nat, k ≤ L.length ∧ i = .int .i64 k ∧ Ext w wr ∧ Hid (∀ j, j < k → F (ith L j) = false)) (fun i _ => L.length - (intOf i).toNat)
  case atStart => exact ⟨0, by omega, rfl, Ext.refl _, Lib.hid (fun j hj => by omega)⟩
  case round =>
    obtain ⟨k, hk, rfl, hx, HN⟩ := hrel
    by_cases hlt : k < L.length
    · obtain ⟨b, off, hao, hb, h0⟩ := hL.ext hx k hlt
      subst hao
      go_wp2_with fail
      refine (hp.call _ (ith L k) hx).mono ?_
      rintro e w1 ⟨rfl, hx1⟩
      cases hF : F (ith L k) with
      | true =>
        have HF := Lib.hid hF
        clear hF
        go_wp2_with fail
        go_ret
        exact ⟨ret_int (firstI_hit hlt HF.out HN.out).symm, hx.trans hx1⟩
      | false =>
        have HF := Lib.hid hF
        clear hF
        go_wp2_with fail
        refine ⟨⟨k + 1, by omega, rfl, hx.trans hx1, Lib.hid (fun j hj => ?_)⟩, by simp only [intOf]; omega⟩
        rcases Nat.lt_or_ge j k with h | h
        · exact HN.out j h
        · rw [show j = k by omega]; exact HF.out
    · go_wp2_with fail
      go_ret
      exact ⟨ret_int (firstI_none (fun j hj => HN.out j (by omega))).symm, hx⟩

theorem containsFunc_calls (w : World) (ao : Option Addr) (cap : Nat) (L : List Int) (f : FuncId) (caps : Array Value) (F : Int → Bool)
    (hL : IntsIn w ao L) (hlen : L.length ≤ 10000000) (hp : PredI w f caps F) :
    Calls Try.prog 77 #[.slice ao L.length cap, .func (.func f) #[] caps] w fun e w' => e = .returned (.bool (L.any F)) ∧ Ext w w' := by
  go_enter Try.func77, Try.ntmps77
  go_wp2_with (go_at_call 103; refine (indexFunc_calls _ ao cap L f caps F hL hlen hp).mono ?_; rintro e w' ⟨rfl, hx⟩)
  go_ret
  exact ⟨ret_bool (firstI_any F L), hx⟩

/-- Is a number no amount? -/
def outB (n : Int) : Bool := decide (n < 0 ∨ 100000 < n)
theorem out_calls (w : World) (n : Int) : Calls Try.prog 96 #[.int .i64 n] w fun e w' => e = .returned (.bool (outB n)) ∧ Ext w w' := by
  by_cases h0 : n < 0
  · go_enter Try.func96, Try.ntmps96
    go_wp2_with fail
    go_ret
    exact ⟨ret_bool (by simp [outB, h0]), (by repeat (first | exact Ext.refl _ | assumption | refine Ext.alloc ?_ _ | refine Ext.drewN ?_ _ | refine Ext.drew ?_))⟩
  · by_cases h1 : 100000 < n
    · go_enter Try.func96, Try.ntmps96
      go_wp2_with fail
      go_ret
      exact ⟨ret_bool (by simp [outB, h1]), (by repeat (first | exact Ext.refl _ | assumption | refine Ext.alloc ?_ _ | refine Ext.drewN ?_ _ | refine Ext.drew ?_))⟩
    · go_enter Try.func96, Try.ntmps96
      go_wp2_with fail
      go_ret
      exact ⟨ret_bool (by simp [outB, h0, h1]), (by repeat (first | exact Ext.refl _ | assumption | refine Ext.alloc ?_ _ | refine Ext.drewN ?_ _ | refine Ext.drew ?_))⟩
theorem enters_out : ∀ args w, (callFunc 96 args).run Try.prog w = .ok (.enter 96 args) w := enters_of Try.func96 (by kernel_rfl) rfl
theorem pred_out (w : World) : PredI w 96 #[] outB := ⟨fun args w' => enters_out args w', fun w' x _ => out_calls w' x⟩

/-- Is an estate with claims a problem? -/
structure IsProb (E : Int) (xs : List Int) : Prop where
  estate : 0 ≤ E ∧ E ≤ 100000
  one : 1 ≤ xs.length
  seven : xs.length ≤ 7
  claims : Upto 100000 xs
  enough : E ≤ isum xs
def probB (E : Int) (xs : List Int) : Bool := !outB E && decide (1 ≤ xs.length) && decide (xs.length ≤ 7) && !xs.any outB && decide (E ≤ isum xs)
theorem any_out (xs : List Int) : xs.any outB = false ↔ Upto 100000 xs := by
  simp only [List.any_eq_false, outB, decide_eq_true_eq, Upto]
  constructor
  · intro h x hx; have := h x hx; omega
  · intro h x hx; have := h x hx; omega
theorem probB_true (E : Int) (xs : List Int) : probB E xs = true ↔ IsProb E xs := by
  simp only [probB, Bool.and_eq_true, Bool.not_eq_true', decide_eq_true_eq, any_out]
  constructor
  · rintro ⟨⟨⟨⟨h0, h1⟩, h2⟩, h3⟩, h4⟩
    exact ⟨by simp [outB] at h0; omega, h1, h2, h3, h4⟩
  · rintro ⟨h0, h1, h2, h3, h4⟩
    exact ⟨⟨⟨⟨by simp [outB]; omega, h1⟩, h2⟩, h3⟩, h4⟩

/-- The error's number. -/
def errI (ok : Bool) : Int := if ok then 0 else 2
set_option maxHeartbeats 4000000 in
theorem problem_calls (w : World) (E : Int) (ao : Option Addr) (cap : Nat) (xs : List Int) (hI : IntsIn w ao xs) (hl : xs.length ≤ 1000000) :
    Calls Try.prog 52 #[.int .i64 E, .slice ao xs.length cap] w fun e w' => e = .returned (.int .i64 (errI (probB E xs))) ∧ Ext w w' := by
  have hent := enters_out
  go_enter Try.func52, Try.ntmps52
  go_wp2_with fail
  refine (out_calls _ E).mono ?_
  rintro e w1 ⟨rfl, hx1⟩
  cases h0 : outB E with
  | true =>
    have H0 := Lib.hid h0
    clear h0
    go_wp2_with fail
    go_ret
    exact ⟨ret_int (by simp [errI, probB, H0.out]), hx1⟩
  | false =>
    have H0 := Lib.hid h0
    clear h0
    by_cases h1 : 1 ≤ xs.length
    · by_cases h2 : xs.length ≤ 7
      · go_wp2_with fail
        refine (containsFunc_calls _ ao cap xs _ #[] outB (hI.ext hx1) (by omega) (pred_out _)).mono ?_
        rintro e w2 ⟨rfl, hx2⟩
        have hx12 := hx1.trans hx2
        cases h3 : xs.any outB with
        | true =>
          have H3 := Lib.hid h3
          clear h3
          go_wp2_with fail
          go_ret
          exact ⟨ret_int (by simp only [errI, probB, H3.out]; simp), hx12⟩
        | false =>
          have hu := (any_out xs).1 h3
          have H3 := Lib.hid h3
          clear h3
          go_wp2_with fail
          have hb := hu.isum
          refine (sum_calls _ ao cap xs (hI.ext hx12) (hu.sums (by omega)) (by omega)).mono ?_
          rintro e w3 ⟨rfl, hx3⟩
          replace hx12 := hx12.trans hx3
          have HU := Lib.hid hu
          clear hu
          by_cases h4 : E ≤ isum xs
          · go_wp2_with fail
            go_ret
            refine ⟨?_, hx12⟩
            have : probB E xs = true := by simp only [probB, H0.out, H3.out]; simp; omega
            rw [this]; rfl
          · go_wp2_with fail
            go_ret
            refine ⟨?_, hx12⟩
            have : probB E xs = false := by simp only [probB, H0.out, H3.out]; simp; omega
            rw [this]; rfl
      · go_wp2_with fail
        go_ret
        refine ⟨?_, hx1⟩
        have : probB E xs = false := by simp only [probB, H0.out]; simp; omega
        rw [this]; rfl
    · go_wp2_with fail
      go_ret
      refine ⟨?_, hx1⟩
      have : probB E xs = false := by simp only [probB, H0.out]; simp; omega
      rw [this]; rfl
end Go.Proofs.Ytcngecibljgndaa

/- scaled, less, lowest, Clone: lists that are made anew. -/
namespace Go.Proofs.Ytcngecibljgndaa
open Go.RowKit Go.Shelf

/-- A call hands back a list of its own. -/
def Made (w : World) (xs : List Int) (e : Ending) (w' : World) : Prop := ∃ v, e = .returned v ∧ Own w' w.heap.size 1 v (ints xs) ∧ Ext w w'

theorem map_snoc {α : Type} (f : Int → α) (xs : List Int) (k : Nat) (h : k < xs.length) : (xs.take (k + 1)).map f = (xs.take k).map f ++ [f (ith xs k)] := by
  rw [take_snoc xs k h]; simp

set_option maxRecDepth 100000 in
theorem scaled_calls (w : World) (ao : Option Addr) (cap : Nat) (xs : List Int) (c : Int) (hI : IntsIn w ao xs) (hl : xs.length ≤ 1000000)
    (hb : ∀ k, k < xs.length → -9223372036854775808 ≤ ith xs k * c ∧ ith xs k * c ≤ 9223372036854775807) :
    Calls Try.prog 56 #[.slice ao xs.length cap, .int .i64 c] w (Made w (xs.map (· * c))) := by
  have HB := Lib.hid hb
  clear hb
  obtain ⟨i0, hi, hz0, hz1, hz2⟩ := info_parts info_int
  obtain ⟨W, hW⟩ : ∃ W, W = w.heap.size := ⟨_, rfl⟩
  go_enter Try.func56, Try.ntmps56
  go_wp2_with fail
  go_loopw [5, 10] (fun ov i wr => ∃ k : Nat, k ≤ xs.length ∧ i = .int .i64 k ∧ Ext w wr ∧ Own wr W 1 ov (ints ((xs.take k).map (· * c)))) (fun _ i _ => xs.length - (intOf i).toNat)
  case atStart => exact ⟨0, by omega, rfl, Ext.refl _, Own.nil _ _ _⟩
  case round =>
    obtain ⟨k, hk, rfl, hx, ho⟩ := hrel
    have hWr : W ≤ wr.heap.size := by rw [hW]; exact hx.size
    by_cases hlt : k < xs.length
    · obtain ⟨b, off, rfl, hb, hc⟩ := hI.ext hx k hlt
      have h1 := HB.out k hlt
      have hkl : ((xs.take k).map (· * c)).length = k := by simp; omega
      have hlow := ho.lt
      go_wp2_with (at_builtin; refine wpList_append_Own _ rfl _ _ 22 rfl 3 i0 (.int .i64 0) 1 8 Try.underlying22 hi hz0 hz1 hz2 rfl (by omega) W _ _ rfl (Own.ext ho ((Ext.refl _).alloc _)) (by simp; omega) _ 1 1 [.int .i64 ((ith xs k * c) : Int)] rfl rfl (one_cell _ _ _ _ (by simp)) (by simp [Value.oneCell']) (by simp [ints_length]; unfold maxLen; omega) (by simp [ints_length]; omega) ?_; intro v' w5 ho5 hg5 hb5)
      rw [ints_snoc, ← map_snoc (· * c) xs k hlt] at ho5
      refine ⟨⟨k + 1, by omega, rfl, ((hx.alloc _).onto hg5 (fun q hq => by have := (hlow q hq).1; omega)), ho5⟩, by simp only [intOf]; omega⟩
    · obtain rfl : k = xs.length := by omega
      rw [List.take_length] at ho
      go_wp2_with fail
      go_ret
      exact ⟨_, rfl, by rw [← hW]; exact ho, hx⟩

/-- What is left of claims, times a number, by numbers. -/
def lessOf (xs : List Int) (c : Int) (l : List Int) : List Int := (List.range xs.length).map fun k => ith xs k * c - ith l k
theorem range_snoc {α : Type} (f : Nat → α) (k : Nat) : (List.range (k + 1)).map f = (List.range k).map f ++ [f k] := by simp [List.range_succ]

set_option maxRecDepth 100000 in
theorem less_calls (w : World) (ao bo : Option Addr) (cap cap2 : Nat) (xs l : List Int) (c : Int) (hI : IntsIn w ao xs) (hJ : IntsIn w bo l) (hl : xs.length ≤ 1000000) (hll : l.length = xs.length)
    (hb : ∀ k, k < xs.length → (-4611686018427387904 ≤ ith xs k * c ∧ ith xs k * c ≤ 4611686018427387904) ∧ (-4611686018427387903 ≤ ith l k ∧ ith l k ≤ 4611686018427387903)) :
    Calls Try.prog 55 #[.slice ao xs.length cap, .int .i64 c, .slice bo xs.length cap2] w (Made w (lessOf xs c l)) := by
  have HB := Lib.hid hb
  clear hb
  obtain ⟨i0, hi, hz0, hz1, hz2⟩ := info_parts info_int
  obtain ⟨W, hW⟩ : ∃ W, W = w.heap.size := ⟨_, rfl⟩
  go_enter Try.func55, Try.ntmps55
  go_wp2_with fail
  go_loopw [7, 12] (fun ov i wr => ∃ k : Nat, k ≤ xs.length ∧ i = .int .i64 k ∧ Ext w wr ∧ Own wr W 1 ov (ints ((List.range k).map fun k => ith xs k * c - ith l k))) (fun _ i _ => xs.length - (intOf i).toNat)
  case atStart => exact ⟨0, by omega, rfl, Ext.refl _, Own.nil _ _ _⟩
  case round =>
    obtain ⟨k, hk, rfl, hx, ho⟩ := hrel
    have hWr : W ≤ wr.heap.size := by rw [hW]; exact hx.size
    by_cases hlt : k < xs.length
    · obtain ⟨b, off, rfl, hb, hc⟩ := hI.ext hx k hlt
      obtain ⟨b2, off2, rfl, hb2, hc2⟩ := hJ.ext hx k (by omega)
      have h1 := HB.out k hlt
      have hlow := ho.lt
      go_wp2_with (at_builtin; refine wpList_append_Own _ rfl _ _ 22 rfl 3 i0 (.int .i64 0) 1 8 Try.underlying22 hi hz0 hz1 hz2 rfl (by omega) W _ _ rfl (Own.ext ho ((Ext.refl _).alloc _)) (by simp; omega) _ 1 1 [.int .i64 ((ith xs k * c - ith l k) : Int)] rfl rfl (one_cell _ _ _ _ (by simp)) (by simp [Value.oneCell']) (by simp [ints_length]; unfold maxLen; omega) (by simp [ints_length]; omega) ?_; intro v' w5 ho5 hg5 hb5)
      rw [ints_snoc, ← range_snoc (fun k => ith xs k * c - ith l k)] at ho5
      refine ⟨⟨k + 1, by omega, rfl, ((hx.alloc _).onto hg5 (fun q hq => by have := (hlow q hq).1; omega)), ho5⟩, by simp only [intOf]; omega⟩
    · obtain rfl : k = xs.length := by omega
      go_wp2_with fail
      go_ret
      exact ⟨_, rfl, by rw [← hW]; exact ho, hx⟩

/-- The greatest common divisor of a divisor and numbers. -/
def gcdL (den : Int) (xs : List Int) : Nat := xs.foldl (fun g n => Int.gcd g n) den.natAbs
theorem gcdL_nil (den : Int) : gcdL den [] = den.natAbs := rfl
theorem gcdL_snoc (den : Int) (xs : List Int) (x : Int) : gcdL den (xs ++ [x]) = Int.gcd (gcdL den xs) x := by simp [gcdL, List.foldl_append]
theorem gcdL_take (den : Int) (xs : List Int) (k : Nat) (h : k < xs.length) : gcdL den (xs.take (k + 1)) = Int.gcd (gcdL den (xs.take k)) (ith xs k) := by rw [take_snoc xs k h, gcdL_snoc]
theorem gcdL_dvd (den : Int) (xs : List Int) : (gcdL den xs : Int) ∣ den ∧ ∀ x ∈ xs, (gcdL den xs : Int) ∣ x := by
  have key : ∀ (xs : List Int) (g : Nat), ((xs.foldl (fun g n => Int.gcd g n) g : Nat) : Int) ∣ (g : Int) ∧ ∀ x ∈ xs, ((xs.foldl (fun g n => Int.gcd g n) g : Nat) : Int) ∣ x := by
    intro xs
    induction xs with
    | nil => intro g; exact ⟨Int.dvd_refl _, fun x hx => by simp at hx⟩
    | cons y l ih =>
      intro g
      obtain ⟨h1, h2⟩ := ih (Int.gcd g y)
      refine ⟨Int.dvd_trans h1 (Int.gcd_dvd_left _ _), fun x hx => ?_⟩
      rcases List.mem_cons.1 hx with rfl | hx
      · exact Int.dvd_trans h1 (Int.gcd_dvd_right _ _)
      · exact h2 x hx
  obtain ⟨h1, h2⟩ := key xs den.natAbs
  exact ⟨Int.dvd_trans h1 (by exact Int.natAbs_dvd_self), h2⟩
theorem gcdL_bounds {den : Int} (xs : List Int) (h : 0 < den) : 0 < gcdL den xs ∧ (gcdL den xs : Int) ≤ den := by
  have h1 := (gcdL_dvd den xs).1
  have h2 := Int.le_of_dvd h h1
  refine ⟨?_, h2⟩
  rcases Nat.eq_zero_or_pos (gcdL den xs) with h0 | h0
  · rw [h0] at h1
    simp at h1; omega
  · exact h0

/-- Parts that a call has made. -/
def MadeParts (w : World) (xs : List Int) (d : Int) (e : Ending) (w' : World) : Prop := ∃ v, e = .returned (.agg #[v, .int .i64 d]) ∧ Own w' w.heap.size 1 v (ints xs) ∧ Ext w w'

set_option maxRecDepth 100000 in
set_option maxHeartbeats 4000000 in
theorem lowest_calls (w : World) (ao : Option Addr) (cap : Nat) (xs : List Int) (den : Int) (hI : IntsIn w ao xs) (hl : xs.length ≤ 1000000) (hd : 0 < den ∧ den ≤ 4611686018427387904)
    (hb : ∀ k, k < xs.length → 0 ≤ ith xs k ∧ ith xs k ≤ 4611686018427387904) :
    Calls Try.prog 59 #[.slice ao xs.length cap, .int .i64 den] w (MadeParts w (xs.map (· / (gcdL den xs : Int))) (den / gcdL den xs)) := by
  have HB := Lib.hid hb
  clear hb
  obtain ⟨i0, hi, hz0, hz1, hz2⟩ := info_parts info_int
  go_enter Try.func59, Try.ntmps59
  go_wp2_with fail
  obtain ⟨W, hW⟩ : ∃ W, W = w.heap.size := ⟨_, rfl⟩
  have hxa : Ext w (w.alloc (Obj.cells #[Value.slice none 0 0, Value.int IntKind.i64 0] 26)) := (by repeat (first | exact Ext.refl _ | assumption | refine Ext.alloc ?_ _ | refine Ext.drewN ?_ _ | refine Ext.drew ?_))
  have hra : (w.alloc (Obj.cells #[Value.slice none 0 0, Value.int IntKind.i64 0] 26)).cell? ⟨W, 0, none⟩ = some (.slice none 0 0) ∧ (w.alloc (Obj.cells #[Value.slice none 0 0, Value.int IntKind.i64 0] 26)).cell? ⟨W, 1, none⟩ = some (.int .i64 0) ∧
      (w.alloc (Obj.cells #[Value.slice none 0 0, Value.int IntKind.i64 0] 26)).frozen? ⟨W, 0, none⟩ = false ∧ (w.alloc (Obj.cells #[Value.slice none 0 0, Value.int IntKind.i64 0] 26)).frozen? ⟨W, 1, none⟩ = false := by
    subst hW
    exact ⟨by simp [go_sem], by simp [go_sem], by simp [go_sem], by simp [go_sem]⟩
  have hs1 : (w.alloc (Obj.cells #[Value.slice none 0 0, Value.int IntKind.i64 0] 26)).heap.size = W + 1 := by simp [hW]
  have HWe : w.heap.size ≤ W := by omega
  generalize (w.alloc (Obj.cells #[Value.slice none 0 0, Value.int IntKind.i64 0] 26)) = w1 at *
  rw [← hW]
  clear hW
  go_loopw [5, 14] (fun g i wr => ∃ k : Nat, k ≤ xs.length ∧ i = .int .i64 k ∧ g = .int .i64 (gcdL den (xs.take k)) ∧ Ext w1 wr) (fun _ i _ => xs.length - (intOf i).toNat)
  case atStart => exact ⟨0, by omega, rfl, by rw [List.take_zero, gcdL_nil]; exact congrArg _ (by omega), Ext.refl _⟩
  case round =>
    obtain ⟨k, hk, rfl, rfl, hx⟩ := hrel
    by_cases hlt : k < xs.length
    · obtain ⟨b, off, rfl, hb, hc⟩ := (hI.ext hxa).ext hx k hlt
      have h1 := HB.out k hlt
      have h2 := gcdL_bounds (xs.take k) hd.1
      go_wp2_with fail
      refine (gcd_calls _ _ _ (by omega) (by omega)).mono ?_
      rintro e w2 ⟨rfl, hx2⟩
      go_wp2_with fail
      refine ⟨⟨k + 1, by omega, rfl, ?_, hx.trans hx2⟩, by simp only [intOf]; omega⟩
      rw [gcdL_take den xs k hlt]
    · obtain rfl : k = xs.length := by omega
      rw [List.take_length]
      have h2 := gcdL_bounds xs hd.1
      have htd : den.tdiv (gcdL den xs : Int) = den / (gcdL den xs : Int) := Int.tdiv_eq_ediv_of_nonneg (by omega)
      have hq1 : 0 ≤ den / (gcdL den xs : Int) := Int.ediv_nonneg (by omega) (by omega)
      have hq2 : den / (gcdL den xs : Int) ≤ den := Int.ediv_le_self _ (by omega)
      go_wp2_with fail
      generalize hdd : den / (gcdL den xs : Int) = d at *
      generalize hg : (gcdL den xs : Int) = g at *
      obtain ⟨B, hB⟩ : ∃ B, B = wr.heap.size := ⟨_, rfl⟩
      have hx2 : Ext w1 (wr.alloc (Obj.cells #[Value.slice none 0 0, Value.int IntKind.i64 d] 26)) := (by repeat (first | exact Ext.refl _ | assumption | refine Ext.alloc ?_ _ | refine Ext.drewN ?_ _ | refine Ext.drew ?_))
      have hc2 : (wr.alloc (Obj.cells #[Value.slice none 0 0, Value.int IntKind.i64 d] 26)).cell? ⟨B, 0, none⟩ = some (.slice none 0 0) ∧ (wr.alloc (Obj.cells #[Value.slice none 0 0, Value.int IntKind.i64 d] 26)).frozen? ⟨B, 0, none⟩ = false := by
        subst hB
        exact ⟨by simp [go_sem], by simp [go_sem]⟩
      have hd2 : (wr.alloc (Obj.cells #[Value.slice none 0 0, Value.int IntKind.i64 d] 26)).cell? ⟨B, 1, none⟩ = some (.int .i64 d) := by
        subst hB
        simp [go_sem]
      have hs2 : (wr.alloc (Obj.cells #[Value.slice none 0 0, Value.int IntKind.i64 d] 26)).heap.size = B + 1 := by simp [hB]
      have HW0 : w.heap.size ≤ W := HWe
      have hWB : W < B := by have := hx.size; omega
      generalize (wr.alloc (Obj.cells #[Value.slice none 0 0, Value.int IntKind.i64 d] 26)) = w2 at *
      rw [← hB]
      clear hB hx
      go_loopw [28] (fun i ws => ∃ (k : Nat) (ov : Value), k ≤ xs.length ∧ i = .int .i64 k ∧ Ext w1 ws ∧ B + 1 ≤ ws.heap.size ∧ (ws.cell? ⟨B, 0, none⟩ = some ov ∧ ws.frozen? ⟨B, 0, none⟩ = false) ∧ ws.cell? ⟨B, 1, none⟩ = some (.int .i64 d) ∧ Own ws (B + 1) 1 ov (ints ((xs.take k).map (· / g)))) (fun i _ => xs.length - (intOf i).toNat)
      case atStart => exact ⟨0, _, by omega, rfl, hx2, by omega, hc2, hd2, Own.nil _ _ _⟩
      case round =>
        obtain ⟨k, ov, hk, rfl, hx, hBs, ⟨hc, hf⟩, hd1, ho⟩ := hrel
        by_cases hlt : k < xs.length
        · obtain ⟨b, off, rfl, hb, hcx⟩ := (hI.ext hxa).ext hx k hlt
          have h1 := HB.out k hlt
          have hq3 : (ith xs k).tdiv g = ith xs k / g := Int.tdiv_eq_ediv_of_nonneg (by omega)
          have hq4 : 0 ≤ ith xs k / g := Int.ediv_nonneg (by omega) (by omega)
          have hq5 : ith xs k / g ≤ ith xs k := Int.ediv_le_self _ (by omega)
          have hg0 : ¬ g = 0 := by omega
          have hw1 : IntKind.i64.wrap (ith xs k / g) = ith xs k / g := by rw [IntKind.wrap_i64]; omega
          have hkl : ((xs.take k).map (· / g)).length = k := by simp; omega
          have hlow := ho.lt
          go_wp2_with fail
          have hBl : B < wr.heap.size := by omega
          have hcA : ∀ W2, Ext wr W2 → W2.cell? ⟨B, 0, none⟩ = some ov ∧ W2.frozen? ⟨B, 0, none⟩ = false ∧ W2.cell? ⟨B, 1, none⟩ = some (.int .i64 d) ∧ B < W2.heap.size := fun W2 h => ⟨(h.cell hBl).trans hc, (h.frozen hBl).trans hf, (h.cell hBl).trans hd1, Nat.lt_of_lt_of_le hBl h.size⟩
          have hneA : some (⟨B, 0, none⟩ : Addr).block ≠ ov.ownBlock := fun e => by have := (ho.lt B e.symm).1; omega
          go_region_law (refine step_append_Own _ (by rfl) _ _ 22 (by rfl) 3 i0 (.int .i64 0) 1 8 Try.underlying22 hi hz0 hz1 hz2 rfl (by omega) (B + 1) _ (ints ((xs.take k).map (· / g))) (by rfl) (Own.ext ho (by repeat (first | exact Ext.refl _ | assumption | refine Ext.alloc ?_ _ | refine Ext.drewN ?_ _ | refine Ext.drew ?_))) (by simp <;> omega) ⟨wr.heap.size, 0, none⟩ 1 1 [.int .i64 (ith xs k / g)] (by rfl) (by rfl) (one_cell _ _ _ _ (by simp)) (by simp [Value.oneCell']) (by simp [ints_length]; unfold maxLen; omega) (by simp [ints_length]; omega) ?_; intro v' w5 ho5 hg5 hb5; have hc5 := (grownBy_cell hg5 (p := ⟨B, 0, none⟩) (hcA _ (by repeat (first | exact Ext.refl _ | assumption | refine Ext.alloc ?_ _ | refine Ext.drewN ?_ _ | refine Ext.drew ?_))).2.2.2 (hneA)).trans (hcA _ (by repeat (first | exact Ext.refl _ | assumption | refine Ext.alloc ?_ _ | refine Ext.drewN ?_ _ | refine Ext.drew ?_))).1; have hf5 := (grownBy_frozen hg5 (p := ⟨B, 0, none⟩) (hcA _ (by repeat (first | exact Ext.refl _ | assumption | refine Ext.alloc ?_ _ | refine Ext.drewN ?_ _ | refine Ext.drew ?_))).2.2.2 (hneA)).trans (hcA _ (by repeat (first | exact Ext.refl _ | assumption | refine Ext.alloc ?_ _ | refine Ext.drewN ?_ _ | refine Ext.drew ?_))).2.1; have he5 := (grownBy_cell hg5 (p := ⟨B, 1, none⟩) (hcA _ (by repeat (first | exact Ext.refl _ | assumption | refine Ext.alloc ?_ _ | refine Ext.drewN ?_ _ | refine Ext.drew ?_))).2.2.2 (hneA)).trans (hcA _ (by repeat (first | exact Ext.refl _ | assumption | refine Ext.alloc ?_ _ | refine Ext.drewN ?_ _ | refine Ext.drew ?_))).2.2.1; obtain ⟨no, nn, nc, rfl, -⟩ := ho5.shapeCap)
          all_goals go_wp2_with fail
          all_goals
            rw [ints_snoc, ← map_snoc (· / g) xs k hlt] at ho5
            have hs5 := hg5.size
            simp only [World.size_drew, World.size_alloc] at hs5
            have hx5 : Ext w1 w5 := (show Ext w1 _ from (by repeat (first | exact Ext.refl _ | assumption | refine Ext.alloc ?_ _ | refine Ext.drewN ?_ _ | refine Ext.drew ?_))).onto hg5 (fun q hq => by have := (hlow q hq).1; omega)
            refine ⟨⟨k + 1, .slice no nn nc, by omega, rfl, hx5.setOwn _ _ (by simp; omega), by simp [World.setCell]; omega, ⟨World.cell?_setCell_same _ _ _ hc5, by rw [World.frozen?_setCell]; exact hf5⟩, by rw [World.cell?_setCell_other _ _ _ _ (by simp)]; exact he5, ho5.keep (grownBy_setCell w5 ⟨B, 0, none⟩ (.slice no nn nc)) (by
              right
              intro e
              have := (ho5.lt B e).1
              omega)⟩, by simp only [intOf]; omega⟩
        · obtain rfl : k = xs.length := by omega
          rw [List.take_length] at ho
          have hWl : W < w1.heap.size := by omega
          have e0 := (hx.cell (p := ⟨W, 0, none⟩) hWl).trans hra.1
          have e1 := (hx.cell (p := ⟨W, 1, none⟩) hWl).trans hra.2.1
          have f0 := (hx.frozen (p := ⟨W, 0, none⟩) hWl).trans hra.2.2.1
          have f1 := (hx.frozen (p := ⟨W, 1, none⟩) hWl).trans hra.2.2.2
          obtain ⟨no, nn, nc, rfl, -⟩ := ho.shapeCap
          go_wp2_with fail
          have q0 : ((wr.setCell ⟨W, 0, none⟩ (.slice no nn nc)).setCell ⟨W, 1, none⟩ (.int .i64 d)).cell? ⟨W, 0, none⟩ = some (.slice no nn nc) := by
            rw [World.cell?_setCell_other _ _ _ _ (by simp)]; exact World.cell?_setCell_same _ _ _ e0
          have q1 : ((wr.setCell ⟨W, 0, none⟩ (.slice no nn nc)).setCell ⟨W, 1, none⟩ (.int .i64 d)).cell? ⟨W, 1, none⟩ = some (.int .i64 d) :=
            World.cell?_setCell_same _ _ _ (by rw [World.cell?_setCell_other _ _ _ _ (by simp)]; exact e1)
          have ho2 := (ho.keep (grownBy_setCell wr ⟨W, 0, none⟩ (.slice no nn nc)) (by right; intro e; have := (ho.lt W e).1; omega)).keep (grownBy_setCell _ ⟨W, 1, none⟩ (.int .i64 d)) (by right; intro e; have := (ho.lt W e).1; omega)
          refine bodyPost_ret (v := .agg #[.slice no nn nc, .int .i64 d]) (by simp [results, Try.results59, go_sem, q0, q1]) rfl ?_
          rw [hg, hdd]
          have hxw := ((hxa.trans hx).setOwn ⟨W, 0, none⟩ (.slice no nn nc) (by simp; omega)).setOwn ⟨W, 1, none⟩ (.int .i64 d) (by simp; omega)
          exact ⟨_, rfl, ho2.rebase (by omega), hxw⟩
end Go.Proofs.Ytcngecibljgndaa
