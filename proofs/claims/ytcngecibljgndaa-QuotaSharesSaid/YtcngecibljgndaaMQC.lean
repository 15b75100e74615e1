/- equal and talmud, where the library sorts. -/
import Derived.Test.YtcngecibljgndaaMQA
import Derived.Lib.SliceRun
namespace Go.Proofs.Ytcngecibljgndaa
open Go.RowKit Go.Shelf

theorem IntsIn.news {w : World} {b off : Nat} {xs : List Int} (h : IntsIn w (some ⟨b, off, none⟩) xs) : ∀ (j : Nat) (u : Value), (ints xs)[j]? = some u → w.cell? (Addr.add ⟨b, off, none⟩ j) = some u := by
  intro j u hu
  have hj := (List.getElem?_eq_some_iff.1 hu).1
  rw [ints_length] at hj
  obtain ⟨b', off', e, _, h0⟩ := h j hj
  simp only [Option.some.injEq, Addr.mk.injEq, and_true] at e
  obtain ⟨rfl, rfl⟩ := e
  rw [addr_add, h0, ← ints_at xs j hj]; exact hu
theorem ints_one (xs : List Int) : ∀ u ∈ ints xs, u.oneCell' = true := by
  intro u hu
  simp only [ints, List.mem_map] at hu
  obtain ⟨x, _, rfl⟩ := hu
  rfl

set_option maxRecDepth 100000 in
theorem clone_calls (w : World) (b off : Nat) (cap : Nat) (xs : List Int) (hI : IntsIn w (some ⟨b, off, none⟩) xs) (hl : xs.length ≤ 1000000) :
    Calls Try.prog 97 #[.slice (some ⟨b, off, none⟩) xs.length cap] w (Made w xs) := by
  have hrun := fun (w : World) (a : Option Addr) (n c : Nat) => Lib.run_eql_slice_nil (P := Try.prog) w 22 3 a n c 0 0 Try.underlying22
  obtain ⟨i0, hi, hz0, hz1, hz2⟩ := info_parts info_int
  go_enter Try.func97, Try.ntmps97
  go_wp2_with (at_builtin; refine wpList_append_Own _ rfl _ _ 22 rfl 3 i0 (.int .i64 0) 1 8 Try.underlying22 hi hz0 hz1 hz2 rfl (by omega) w.heap.size _ [] rfl (Own.hollow _ w.heap.size w.heap.size 1 (Nat.le_refl _) (by simp)) (by simp) ⟨b, off, none⟩ xs.length cap (ints xs) rfl (by rw [ints_length]; omega) (IntsIn.news (hI.ext (by repeat (first | exact Ext.refl _ | assumption | refine Ext.alloc ?_ _ | refine Ext.drewN ?_ _ | refine Ext.drew ?_)))) (ints_one xs) (by simp [ints_length]; unfold maxLen; omega) (by simp [ints_length]; omega) ?_; intro v' w5 ho5 hg5 hb5)
  go_ret
  exact ⟨_, rfl, ho5, Ext.onto (by repeat (first | exact Ext.refl _ | assumption | refine Ext.alloc ?_ _ | refine Ext.drewN ?_ _ | refine Ext.drew ?_)) hg5 (fun q (hq : (Value.slice (some ⟨w.heap.size, 0, none⟩) 0 0).ownBlock = some q) => Nat.le_of_eq (by simpa [Value.ownBlock] using hq))⟩

/-- What the program's equal division does with sorted claims. -/
def eqLoop : List Int → Int → Int → Int × Int
  | [], left, many => (left, many)
  | c :: l, left, many => if c * many > left then (left, many) else eqLoop l (left - c) (many - 1)
def sortI (xs : List Int) : List Int := xs.mergeSort (fun x y => decide (x ≤ y))
theorem sortI_length (xs : List Int) : (sortI xs).length = xs.length := List.length_mergeSort _
theorem sortI_mem (xs : List Int) (x : Int) : x ∈ sortI xs ↔ x ∈ xs := List.mem_mergeSort
/-- The equal division: numbers, and what they are divided by. -/
def equalP (E : Int) (xs : List Int) : List Int × Int :=
  if (eqLoop (sortI xs) E xs.length).2 = 0 then (xs, 1) else (xs.map (fun c => min (c * (eqLoop (sortI xs) E xs.length).2) (eqLoop (sortI xs) E xs.length).1), (eqLoop (sortI xs) E xs.length).2)

/-- The library sorts what a slice's values give. -/
def Sorts : Prop := ∀ (w : World) (ao : Option Addr) (cap bx : Nat) (xs : List Int), IntsIn w ao xs → xs.length ≤ 1000000 → bx < w.heap.size → w.cell? ⟨bx, 0, none⟩ = some (.slice ao xs.length cap) →
  Calls Try.prog 63 #[.func (.func 101) #[] #[.pointer (some ⟨bx, 0, none⟩)]] w (Made w (sortI xs))
theorem values_calls (w : World) (ao : Option Addr) (n c : Nat) : Calls Try.prog 64 #[.slice ao n c] w fun e w' => e = .returned (.func (.func 101) #[] #[.pointer (some ⟨w.heap.size, 0, none⟩)]) ∧ w' = w.alloc (.cells #[.slice ao n c] 22) := by
  go_enter Try.func64, Try.ntmps64
  go_wp2_with fail
  go_ret
  exact ⟨rfl, rfl⟩

/-- A call hands back a list of its own, and a number. -/
def MadeTwo (w : World) (p : List Int × Int) (e : Ending) (w' : World) : Prop := ∃ v, e = .returned (.tuple #[v, .int .i64 p.2]) ∧ Own w' w.heap.size 1 v (ints p.1) ∧ Ext w w'

theorem drop_cons' (xs : List Int) (k : Nat) (h : k < xs.length) : xs.drop k = ith xs k :: xs.drop (k + 1) := by
  rw [List.drop_eq_getElem_cons h]
  simp [ith, h]
theorem eqLoop_stop {c left many : Int} (l : List Int) (h : c * many > left) : eqLoop (c :: l) left many = (left, many) := by rw [eqLoop, if_pos h]
theorem eqLoop_go {c left many : Int} (l : List Int) (h : ¬ c * many > left) : eqLoop (c :: l) left many = eqLoop l (left - c) (many - 1) := by rw [eqLoop, if_neg h]

set_option maxRecDepth 100000 in
set_option maxHeartbeats 4000000 in
theorem equal_calls (hS : Sorts) (w : World) (E : Int) (ao : Option Addr) (cap : Nat) (xs : List Int) (hI : IntsIn w ao xs) (hl : xs.length ≤ 7) (hl1 : 1 ≤ xs.length) (hu : Upto 100000 xs) (hE : 0 ≤ E ∧ E ≤ 100000000) :
    Calls Try.prog 53 #[.int .i64 E, .slice ao xs.length cap] w (MadeTwo w (equalP E xs)) := by
  have HU := Lib.hid hu
  clear hu
  obtain ⟨i0, hi, hz0, hz1, hz2⟩ := info_parts info_int
  go_enter Try.func53, Try.ntmps53
  go_wp2_with fail
  refine (values_calls _ _ _ _).mono ?_
  rintro e w1 ⟨rfl, hw1⟩
  have hx1 : Ext w w1 := by rw [hw1]; exact (by repeat (first | exact Ext.refl _ | assumption | refine Ext.alloc ?_ _ | refine Ext.drewN ?_ _ | refine Ext.drew ?_))
  have hb1 : w.heap.size < w1.heap.size := by rw [hw1]; simp
  have hc1 : w1.cell? ⟨w.heap.size, 0, none⟩ = some (.slice ao xs.length cap) := by rw [hw1]; simp [go_sem]
  clear hw1
  go_wp2_with fail
  refine (hS w1 ao cap w.heap.size xs (hI.ext hx1) (by omega) hb1 hc1).mono ?_
  rintro e wS ⟨v, rfl, hoS, hxS1⟩
  have hxS := hx1.trans hxS1
  obtain ⟨so, sc, rfl, hSI, -⟩ := hoS.intsShape
  have hsl := sortI_length xs
  clear hb1 hc1 hx1 hxS1 hoS
  obtain ⟨ss, hss⟩ : ∃ ss, ss = sortI xs := ⟨_, rfl⟩
  have HS := Lib.hid (fun x => sortI_mem xs x)
  rw [← hss] at hsl hSI HS ⊢
  rw [hsl]
  have HSS := Lib.hid hss
  clear hss
  go_wp2_with fail
  go_loopw [7, 8, 22] (fun lf mn i wr => ∃ (k : Nat) (left many : Int), k ≤ xs.length ∧ i = .int .i64 k ∧ lf = .int .i64 left ∧ mn = .int .i64 many ∧ (k : Int) + many = xs.length ∧ (0 ≤ left ∧ left ≤ E) ∧ Ext wS wr ∧ Hid (eqLoop (ss.drop k) left many = eqLoop ss E xs.length)) (fun _ _ i _ => xs.length - (intOf i).toNat)
  case atStart => exact ⟨0, E, xs.length, by omega, rfl, rfl, rfl, by omega, by omega, Ext.refl _, Lib.hid rfl⟩
  case round =>
    obtain ⟨k, left, many, hk, rfl, rfl, rfl, hmany, hleft, hx, HE⟩ := hrel
    by_cases hlt : k < xs.length
    · obtain ⟨b, off, rfl, hb, hc⟩ := hSI.ext hx k (by omega)
      have hu : 0 ≤ ith ss k ∧ ith ss k ≤ 100000 := by
        have hm : ith ss k ∈ ss := by simp [ith, show k < ss.length by omega]
        exact HU.out _ ((HS.out _).1 hm)
      have hp1 : ith ss k * many ≤ 100000 * 7 := Int.mul_le_mul hu.2 (by omega) (by omega) (by omega)
      have hp0 : 0 ≤ ith ss k * many := Int.mul_nonneg hu.1 (by omega)
      have hE := HE.out
      rw [drop_cons' ss k (by omega)] at hE
      by_cases hgt : ith ss k * many > left
      · rw [eqLoop_stop _ hgt] at hE
        have HEQ := hE.symm
        rw [HSS.out] at HEQ
        clear hE HE
        have hm0 : ¬ many = 0 := by omega
        have hmp : 0 < many := by omega
        have hmb : (many == 0) = false := by simp [hm0]
        go_wp2_with fail
        obtain ⟨W, hW⟩ : ∃ W, W = wr.heap.size := ⟨_, rfl⟩
        have hxW := hxS.trans hx
        generalize hLL : left = lf at *
        generalize hMM : many = mn at *
        rename World => wT
        go_loopw [11, 43] (fun ov i wr => ∃ k : Nat, k ≤ xs.length ∧ i = .int .i64 k ∧ Ext wT wr ∧ Own wr W 1 ov (ints ((xs.take k).map (fun c => min (c * mn) lf)))) (fun _ i _ => xs.length - (intOf i).toNat)
        case atStart => exact ⟨0, by omega, rfl, Ext.refl _, Own.nil _ _ _⟩
        case round =>
          obtain ⟨k2, hk2, rfl, hx2, ho2⟩ := hrel
          have hWr : W ≤ wr.heap.size := by rw [hW]; exact hx2.size
          by_cases hlt2 : k2 < xs.length
          · obtain ⟨b2, off2, rfl, hb2, hc2⟩ := (hI.ext hxW).ext hx2 k2 hlt2
            have hu := HU.out.at_ k2 hlt2
            have hp1 : ith xs k2 * mn ≤ 100000 * 7 := Int.mul_le_mul hu.2 (by omega) (by omega) (by omega)
            have hp0 : 0 ≤ ith xs k2 * mn := Int.mul_nonneg hu.1 (by omega)
            have hkl : ((xs.take k2).map (fun c => min (c * mn) lf)).length = k2 := by simp; omega
            have hlow := ho2.lt
            by_cases hmin : ith xs k2 * mn ≤ lf
            · have e1 : min (ith xs k2 * mn) lf = (ith xs k2 * mn) := by omega
              go_wp2_with (at_builtin; refine wpList_append_Own _ rfl _ _ 22 rfl 3 i0 (.int .i64 0) 1 8 Try.underlying22 hi hz0 hz1 hz2 rfl (by omega) W _ _ rfl (Own.ext ho2 ((Ext.refl _).alloc _)) (by simp; omega) _ 1 1 [.int .i64 ((ith xs k2 * mn) : Int)] rfl rfl (one_cell _ _ _ _ (by simp)) (by simp [Value.oneCell']) (by simp [ints_length]; unfold maxLen; omega) (by simp [ints_length]; omega) ?_; intro v' w5 ho5 hg5 hb5)
              have e2 : (xs.take k2).map (fun c => min (c * mn) lf) ++ [(ith xs k2 * mn)] = (xs.take (k2 + 1)).map (fun c => min (c * mn) lf) := by rw [map_snoc _ xs k2 hlt2, e1]
              rw [ints_snoc, e2] at ho5
              refine ⟨⟨k2 + 1, by omega, rfl, ((hx2.alloc _).onto hg5 (fun q hq => by have := (hlow q hq).1; omega)), ho5⟩, by simp only [intOf]; omega⟩
            · have e1 : min (ith xs k2 * mn) lf = lf := by omega
              go_wp2_with (at_builtin; refine wpList_append_Own _ rfl _ _ 22 rfl 3 i0 (.int .i64 0) 1 8 Try.underlying22 hi hz0 hz1 hz2 rfl (by omega) W _ _ rfl (Own.ext ho2 ((Ext.refl _).alloc _)) (by simp; omega) _ 1 1 [.int .i64 (lf : Int)] rfl rfl (one_cell _ _ _ _ (by simp)) (by simp [Value.oneCell']) (by simp [ints_length]; unfold maxLen; omega) (by simp [ints_length]; omega) ?_; intro v' w5 ho5 hg5 hb5)
              have e2 : (xs.take k2).map (fun c => min (c * mn) lf) ++ [lf] = (xs.take (k2 + 1)).map (fun c => min (c * mn) lf) := by rw [map_snoc _ xs k2 hlt2, e1]
              rw [ints_snoc, e2] at ho5
              refine ⟨⟨k2 + 1, by omega, rfl, ((hx2.alloc _).onto hg5 (fun q hq => by have := (hlow q hq).1; omega)), ho5⟩, by simp only [intOf]; omega⟩
          · obtain rfl : k2 = xs.length := by omega
            rw [List.take_length] at ho2
            go_wp2_with fail
            go_ret2
            have e1 : equalP E xs = (xs.map (fun c => min (c * mn) lf), mn) := by unfold equalP; rw [HEQ]; simp [hm0]
            rw [e1]
            exact ⟨_, rfl, ho2.rebase (by rw [hW]; exact hxW.size), hxW.trans hx2⟩
      · have hcl : ith ss k ≤ left := by
          have : ith ss k * 1 ≤ ith ss k * many := Int.mul_le_mul_of_nonneg_left (by omega) hu.1
          omega
        rw [eqLoop_go _ hgt] at hE
        have HE2 := Lib.hid hE
        clear hE HE
        go_wp2_with fail
        exact ⟨⟨k + 1, _, _, by omega, rfl, rfl, rfl, by omega, by omega, hx, HE2⟩, by simp only [intOf]; omega⟩
    · obtain rfl : k = xs.length := by omega
      have hE := HE.out
      rw [List.drop_eq_nil_of_le (by omega)] at hE
      have HEQ : eqLoop ss E xs.length = (left, many) := hE.symm
      rw [HSS.out] at HEQ
      clear hE HE
      have hmb : (many == 0) = true := by simp; omega
      have hm0 : many = 0 := by omega
      rw [hm0] at HEQ
      obtain ⟨b0, off0, hao, hb0, hc0⟩ := (hI.ext (hxS.trans hx)) 0 (by omega)
      subst hao
      go_wp2_with fail
      refine (clone_calls _ b0 off0 cap xs (hI.ext (hxS.trans hx)) (by omega)).mono ?_
      rintro e w5 ⟨v5, rfl, ho5, hx5⟩
      go_wp2_with fail
      go_ret2
      have e1 : equalP E xs = (xs, 1) := by unfold equalP; rw [HEQ]; simp
      rw [e1]
      exact ⟨v5, rfl, ho5.rebase (hxS.trans hx).size, (hxS.trans hx).trans hx5⟩

/-- The Talmud's division: numbers, and what they are divided by. -/
def talmudP (E : Int) (xs : List Int) : List Int × Int :=
  if 2 * E ≤ isum xs then ((equalP (2 * E) xs).1, 2 * (equalP (2 * E) xs).2)
  else (lessOf xs (2 * (equalP (2 * (isum xs - E)) xs).2) (equalP (2 * (isum xs - E)) xs).1, 2 * (equalP (2 * (isum xs - E)) xs).2)
theorem eqLoop_many : ∀ (l : List Int) (left many : Int), (∀ x ∈ l, 0 ≤ x) → 0 ≤ left → (l.length : Int) ≤ many → (0 ≤ (eqLoop l left many).2 ∧ (eqLoop l left many).2 ≤ many) ∧ 0 ≤ (eqLoop l left many).1
  | [], left, many, _, h0, h => ⟨⟨h, Int.le_refl _⟩, h0⟩
  | c :: l, left, many, hx, h0, h => by
    rw [List.length_cons] at h
    rw [eqLoop]
    split
    · exact ⟨⟨show 0 ≤ many by omega, Int.le_refl _⟩, h0⟩
    · rename_i hc
      have h1 : c * 1 ≤ c * many := Int.mul_le_mul_of_nonneg_left (by omega) (hx c (by simp))
      have := eqLoop_many l (left - c) (many - 1) (fun x h => hx x (by simp [h])) (by omega) (by omega)
      omega
theorem equalP_bounds {E : Int} {xs : List Int} (hu : Upto 100000 xs) (hl : xs.length ≤ 7) (hl1 : 1 ≤ xs.length) (hE : 0 ≤ E) : (1 ≤ (equalP E xs).2 ∧ (equalP E xs).2 ≤ 7) ∧ (equalP E xs).1.length = xs.length ∧ ∀ k, k < xs.length → 0 ≤ ith (equalP E xs).1 k ∧ ith (equalP E xs).1 k ≤ ith xs k * (equalP E xs).2 := by
  have hm := eqLoop_many (sortI xs) E xs.length (fun x hx => (hu x ((sortI_mem xs x).1 hx)).1) hE (by rw [sortI_length]; omega)
  unfold equalP
  split
  · refine ⟨by simp, rfl, fun k hk => ?_⟩
    have := hu.at_ k hk
    simp; omega
  · refine ⟨by simp; omega, by simp, fun k hk => ?_⟩
    have := hu.at_ k hk
    have h1 : 0 ≤ ith xs k * (eqLoop (sortI xs) E xs.length).2 := Int.mul_nonneg this.1 (by omega)
    have e : ith (xs.map (fun c => min (c * (eqLoop (sortI xs) E xs.length).2) (eqLoop (sortI xs) E xs.length).1)) k = min (ith xs k * (eqLoop (sortI xs) E xs.length).2) (eqLoop (sortI xs) E xs.length).1 := by simp [ith, hk]
    simp only [e]
    omega

set_option maxRecDepth 100000 in
set_option maxHeartbeats 4000000 in
theorem talmud_calls (hS : Sorts) (w : World) (E : Int) (ao : Option Addr) (cap : Nat) (xs : List Int) (hI : IntsIn w ao xs) (hl : xs.length ≤ 7) (hl1 : 1 ≤ xs.length) (hu : Upto 100000 xs) (hE : 0 ≤ E ∧ E ≤ isum xs) :
    Calls Try.prog 57 #[.int .i64 E, .slice ao xs.length cap] w (MadeTwo w (talmudP E xs)) := by
  have hsum := hu.isum
  go_enter Try.func57, Try.ntmps57
  go_wp2_with fail
  refine (sum_calls _ ao cap xs hI (hu.sums (by omega)) (by omega)).mono ?_
  rintro e w1 ⟨rfl, hx1⟩
  by_cases h2 : 2 * E ≤ isum xs
  · have hb := (equalP_bounds hu hl hl1 (show 0 ≤ 2 * E by omega)).1
    go_wp2_with fail
    refine (equal_calls hS _ (2 * E) ao cap xs (hI.ext hx1) hl hl1 hu (by omega)).mono ?_
    rintro e w2 ⟨v, rfl, ho, hx2⟩
    go_wp2_with fail
    go_ret2
    have e1 : talmudP E xs = ((equalP (2 * E) xs).1, 2 * (equalP (2 * E) xs).2) := by unfold talmudP; rw [if_pos (by omega)]
    rw [e1]
    exact ⟨v, rfl, ho.rebase hx1.size, hx1.trans hx2⟩
  · obtain ⟨hb, hlen, hk⟩ := equalP_bounds hu hl hl1 (show 0 ≤ 2 * (isum xs - E) by omega)
    go_wp2_with fail
    refine (equal_calls hS _ (2 * (isum xs - E)) ao cap xs (hI.ext hx1) hl hl1 hu (by omega)).mono ?_
    rintro e w2 ⟨v, rfl, ho, hx2⟩
    have hx12 := hx1.trans hx2
    obtain ⟨so, sc, rfl, hSI, -⟩ := ho.intsShape
    obtain ⟨p, hp⟩ : ∃ p, p = equalP (2 * (isum xs - E)) xs := ⟨_, rfl⟩
    have e1 : talmudP E xs = (lessOf xs (2 * p.2) p.1, 2 * p.2) := by unfold talmudP; rw [if_neg (by omega), hp]
    have E1 := Lib.hid e1
    rw [← hp] at hSI hlen hk hb ⊢
    clear e1 hp ho
    rw [hlen]
    have HK := Lib.hid hk
    clear hk
    go_wp2_with fail
    refine (less_calls _ ao so cap sc xs p.1 (2 * p.2) (hI.ext hx12) hSI (by omega) hlen (fun k hk => ?_)).mono ?_
    · have h0 := hu.at_ k hk
      have h1 := HK.out k hk
      have h3 : ith xs k * p.2 ≤ 100000 * 7 := Int.mul_le_mul h0.2 hb.2 (by omega) (by omega)
      have h4 : ith xs k * (2 * p.2) = 2 * (ith xs k * p.2) := by grind
      rw [h4]
      omega
    rintro e w3 ⟨v3, rfl, ho3, hx3⟩
    go_wp2_with fail
    go_ret2
    rw [E1.out]
    exact ⟨v3, rfl, ho3.rebase hx12.size, hx12.trans hx3⟩
end Go.Proofs.Ytcngecibljgndaa
