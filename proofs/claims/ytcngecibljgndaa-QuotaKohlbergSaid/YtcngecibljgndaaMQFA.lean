/- contested, Contest, Fair: the walks. -/
import Derived.Test.YtcngecibljgndaaMQH
import Derived.Test.YtcngecibljgndaaMQRB
namespace Go.Proofs.Ytcngecibljgndaa
open Go.RowKit Go.Shelf

/-- Twice what the first of two gets. -/
def contP (E a b : Int) : Int := 2 * max (E - b) 0 + E - max (E - b) 0 - max (E - a) 0
theorem contested_calls (w : World) (E a b : Int) (hE : -1000000000000000 ≤ E ∧ E ≤ 1000000000000000) (ha : -1000000000000000 ≤ a ∧ a ≤ 1000000000000000) (hb : -1000000000000000 ≤ b ∧ b ≤ 1000000000000000) :
    Calls Try.prog 75 #[.int .i64 E, .int .i64 a, .int .i64 b] w fun e w' => e = .returned (.int .i64 (contP E a b)) ∧ Ext w w' := by
  go_enter Try.func75, Try.ntmps75
  go_wp2_with fail
  go_ret
  exact ⟨rfl, (by repeat (first | exact Ext.refl _ | assumption | refine Ext.alloc ?_ _ | refine Ext.drewN ?_ _ | refine Ext.drew ?_))⟩
theorem two_ints (w : World) (a b : Int) (t : TypeId) : Ext w (w.alloc (.cells #[.int .i64 a, .int .i64 b] t)) ∧ IntsIn (w.alloc (.cells #[.int .i64 a, .int .i64 b] t)) (some ⟨w.heap.size, 0, none⟩) [a, b] := by
  refine ⟨(by repeat (first | exact Ext.refl _ | assumption | refine Ext.alloc ?_ _ | refine Ext.drewN ?_ _ | refine Ext.drew ?_)), ?_⟩
  intro k hk
  refine ⟨w.heap.size, 0, rfl, by simp, ?_⟩
  match k, hk with
  | 0, _ => simp [go_sem, ith]
  | 1, _ => simp [go_sem, ith]
  | k + 2, hk => exact absurd hk (by simp)
theorem own_two (w : World) (x y : Int) (t : TypeId) : Own (w.alloc (.cells #[.int .i64 x, .int .i64 y] t)) w.heap.size 1 (.slice (some ⟨w.heap.size, 0, none⟩) 2 2) (ints [x, y]) := by
  refine ⟨2, rfl, .inr ⟨w.heap.size, 0, 2, rfl, Nat.le_refl _, by simp, Nat.le_refl _, by unfold maxLen; omega, fun j hj => ?_, fun j hj => ?_⟩⟩
  · match j, hj with
    | 0, _ => simp [go_sem]
    | 1, _ => simp [go_sem]
    | j + 2, hj => exact absurd hj (by omega)
  · match j, hj with
    | 0, _ => simp [go_sem, ints]
    | 1, _ => simp [go_sem, ints]
    | j + 2, hj => exact absurd hj (by omega)
def contestP (E a b : Int) : Option (List Int × Int) := if probB E [a, b] = true then some (lowP ([contP E a b, 2 * E - contP E a b], 2)) else none
theorem contP_in {E a b : Int} (hE : 0 ≤ E) (ha : 0 ≤ a) (hb : 0 ≤ b) (hs : E ≤ a + b) : 0 ≤ contP E a b ∧ contP E a b ≤ 2 * a ∧ 0 ≤ 2 * E - contP E a b ∧ 2 * E - contP E a b ≤ 2 * b := by
  unfold contP; omega
theorem prob_two {E a b : Int} (h : IsProb E [a, b]) : 0 ≤ E ∧ E ≤ 100000 ∧ 0 ≤ a ∧ a ≤ 100000 ∧ 0 ≤ b ∧ b ≤ 100000 ∧ E ≤ a + b := by
  have h1 := h.estate
  have h2 := h.claims a (by simp)
  have h3 := h.claims b (by simp)
  have h4 := h.enough
  rw [isum_cons, isum_cons, isum_nil] at h4
  omega
set_option maxRecDepth 100000 in
set_option maxHeartbeats 2000000 in
theorem contest_calls (w : World) (E a b : Int) : Calls Try.prog 36 #[.int .i64 E, .int .i64 a, .int .i64 b] w (Parted w (contestP E a b)) := by
  go_enter Try.func36, Try.ntmps36
  go_wp2_with fail
  obtain ⟨R, hR⟩ : ∃ R, R = w.heap.size := ⟨_, rfl⟩
  have hs1 := Spot.new w 26 (.slice none 0 0) (.int .i64 0)
  have hx1 : Ext w (w.alloc (.cells #[.slice none 0 0, .int .i64 0] 26)) := (by repeat (first | exact Ext.refl _ | assumption | refine Ext.alloc ?_ _ | refine Ext.drewN ?_ _ | refine Ext.drew ?_))
  have hw1 : (w.alloc (.cells #[.slice none 0 0, .int .i64 0] 26)).heap.size = w.heap.size + 1 := by simp
  generalize (w.alloc (.cells #[.slice none 0 0, .int .i64 0] 26)) = w1 at *
  rw [← hR] at hs1 hw1 ⊢
  have hRw : w.heap.size ≤ R := by omega
  clear hR
  obtain ⟨hx2, hI2⟩ := two_ints w1 a b 3
  rw [hw1] at hI2
  clear hw1
  generalize (w1.alloc (.cells #[.int .i64 a, .int .i64 b] 3)) = w2 at *
  refine (problem_calls w2 E _ 2 [a, b] hI2 (by simp)).mono ?_
  rintro e w3 ⟨rfl, hx3⟩
  have hx03 := (hx1.trans hx2).trans hx3
  have hs3 := (hs1.ext hx2).ext hx3
  cases hp : probB E [a, b] with
  | false =>
    have HN := Lib.hid (show contestP E a b = none by simp [contestP, hp])
    clear hp
    simp only [errI]
    have hsb := hs3
    obtain ⟨c0, hc0⟩ := Option.isSome_iff_exists.1 hsb.some0
    obtain ⟨c1, hc1⟩ := Option.isSome_iff_exists.1 hsb.some1
    have hf0 := hsb.free0
    have hf1 := hsb.free1
    go_wp2_with fail
    obtain ⟨q0, q1⟩ := hsb.put (.slice none 0 0) (.int .i64 0)
    refine bodyPost_ret (v := .tuple #[.agg #[.slice none 0 0, .int .i64 0], .int .i64 2]) (by simp [results, Try.results36, go_sem, q0, q1]) rfl ?_
    exact .inl ⟨HN.out, rfl, (hx03.setOwn _ _ hRw).setOwn _ _ hRw⟩
  | true =>
    obtain ⟨p1, p2, p3, p4, p5, p6, p7⟩ := prob_two ((probB_true E [a, b]).1 hp)
    have HS := Lib.hid (show contestP E a b = some (lowP ([contP E a b, 2 * E - contP E a b], 2)) by simp [contestP, hp])
    clear hp
    simp only [errI]
    go_wp2_with fail
    refine (contested_calls w3 E a b (by omega) (by omega) (by omega)).mono ?_
    rintro e w4 ⟨rfl, hx4⟩
    have hin := contP_in p1 p3 p5 p7
    generalize contP E a b = n at *
    go_wp2_with fail
    obtain ⟨hx5, hI5⟩ := two_ints w4 n (2 * E - n) 3
    generalize (w4.alloc (.cells #[.int .i64 n, .int .i64 (2 * E - n)] 3)) = w5 at *
    refine (lowest_calls w5 _ 2 [n, 2 * E - n] 2 hI5 (by simp) (by omega) (fun k hk => ?_)).mono ?_
    · match k, hk with
      | 0, _ => simp [ith]; omega
      | 1, _ => simp [ith]; omega
      | k + 2, hk => exact absurd hk (by simp)
    rintro e w9 ⟨v, rfl, ho, hx9⟩
    have hx05 := (hx03.trans hx4).trans hx5
    have hx09 := hx05.trans hx9
    have hsb := ((hs3.ext hx4).ext hx5).ext hx9
    obtain ⟨vo, vn, vc, rfl, -⟩ := ho.shapeCap
    obtain ⟨c0, hc0⟩ := Option.isSome_iff_exists.1 hsb.some0
    obtain ⟨c1, hc1⟩ := Option.isSome_iff_exists.1 hsb.some1
    have hf0 := hsb.free0
    have hf1 := hsb.free1
    have hR5 := ((hs3.ext hx4).ext hx5).lt
    obtain ⟨L, hL⟩ : ∃ L, L = ([n, 2 * E - n].map (· / (gcdL 2 [n, 2 * E - n] : Int))) := ⟨_, rfl⟩
    obtain ⟨D, hD⟩ : ∃ D : Int, D = 2 / gcdL 2 [n, 2 * E - n] := ⟨_, rfl⟩
    rw [← hL] at ho
    rw [← hD]
    have HLD : Hid (lowP ([n, 2 * E - n], 2) = (L, D)) := Lib.hid (by rw [hL, hD]; rfl)
    clear hL hD
    go_wp2_with fail
    obtain ⟨q0, q1⟩ := hsb.put (.slice vo vn vc) (.int .i64 D)
    refine bodyPost_ret (v := .tuple #[.agg #[.slice vo vn vc, .int .i64 D], .int .i64 0]) (by simp [results, Try.results36, go_sem, q0, q1]) rfl ?_
    have ho2 := (ho.keep (grownBy_setCell _ ⟨R, 0, none⟩ (.slice vo vn vc)) (by right; intro e; have := (ho.lt R e).1; omega)).keep (grownBy_setCell _ ⟨R, 1, none⟩ (.int .i64 D)) (by right; intro e; have := (ho.lt R e).1; omega)
    exact .inr ⟨(L, D), .slice vo vn vc, by rw [HS.out, HLD.out], rfl, ho2.rebase hx05.size, (hx09.setOwn _ _ hRw).setOwn _ _ hRw⟩
/-- A pair that would be divided otherwise. -/
def offP (xs l : List Int) (d : Int) (i j : Nat) : Bool := contP (ith l i + ith l j) (ith xs i * d) (ith xs j * d) != 2 * ith l i
/-- All pairs before one are fair. -/
def FairTo (xs l : List Int) (d : Int) (i j : Nat) : Prop := ∀ a b, a < b → b < xs.length → (a < i ∨ (a = i ∧ b < j)) → offP xs l d a b = false
def FairRes (w : World) (E : Int) (xs l : List Int) (d : Int) (e : Ending) (w' : World) : Prop :=
  (¬ (IsProb E xs ∧ IsSh E xs l d) ∧ e = .returned (.tuple #[.slice none 0 0, .int .i64 2]) ∧ Ext w w') ∨
  (IsProb E xs ∧ IsSh E xs l d ∧ FairTo xs l d xs.length 0 ∧ e = .returned (.tuple #[.slice none 0 0, .int .i64 0]) ∧ Ext w w') ∨
  (IsProb E xs ∧ IsSh E xs l d ∧ ∃ i j, i < j ∧ j < xs.length ∧ FairTo xs l d i j ∧ offP xs l d i j = true ∧ ∃ v, e = .returned (.tuple #[v, .int .i64 0]) ∧ Own w' w.heap.size 1 v (ints [(i : Int), (j : Int)]) ∧ Ext w w')
theorem p6 {w w' : World} {B a0 a1 c0 c1 o0 o1 q0 q1 : Nat} {u : Value} {v : Int} {x0 x1 y0 y1 : Value} (h : PBox w B u v) (h1 : w.cell? ⟨a0, o0, none⟩ = some x0) (h2 : w.cell? ⟨a1, o1, none⟩ = some x1) (h3 : w.cell? ⟨c0, q0, none⟩ = some y0) (h4 : w.cell? ⟨c1, q1, none⟩ = some y1)
    (l1 : a0 < w.heap.size) (l2 : a1 < w.heap.size) (l3 : c0 < w.heap.size) (l4 : c1 < w.heap.size) (hx : Ext w w') :
    (w'.cell? ⟨B, 0, none⟩ = some u) ∧ (w'.cell? ⟨B, 1, none⟩ = some (.int .i64 v)) ∧ (w'.cell? ⟨a0, o0, none⟩ = some x0) ∧ (w'.cell? ⟨a1, o1, none⟩ = some x1) ∧ (w'.cell? ⟨c0, q0, none⟩ = some y0) ∧ (w'.cell? ⟨c1, q1, none⟩ = some y1) :=
  ⟨(h.ext hx).c0, (h.ext hx).c1, (hx.cell (p := ⟨a0, o0, none⟩) l1).trans h1, (hx.cell (p := ⟨a1, o1, none⟩) l2).trans h2, (hx.cell (p := ⟨c0, q0, none⟩) l3).trans h3, (hx.cell (p := ⟨c1, q1, none⟩) l4).trans h4⟩
set_option maxRecDepth 100000 in
set_option maxHeartbeats 4000000 in
theorem fair_calls (w : World) (E : Int) (ao lo : Option Addr) (cap lcap : Nat) (xs l : List Int) (d : Int) (hI : IntsIn w ao xs) (hJ : IntsIn w lo l) (hl : xs.length ≤ 1000000) (hll : l.length ≤ 1000000) :
    Calls Try.prog 38 #[.int .i64 E, .slice ao xs.length cap, .agg #[.slice lo l.length lcap, .int .i64 d]] w (FairRes w E xs l d) := by
  go_enter Try.func38, Try.ntmps38
  go_wp2_with fail
  have hx1 : Ext w (w.alloc (Obj.cells #[.slice lo l.length lcap, .int .i64 d] 26)) := (by repeat (first | exact Ext.refl _ | assumption | refine Ext.alloc ?_ _ | refine Ext.drewN ?_ _ | refine Ext.drew ?_))
  have hbx := PBox.new w 26 (.slice lo l.length lcap) d
  obtain ⟨B, hB⟩ : ∃ B, B = w.heap.size := ⟨_, rfl⟩
  generalize (w.alloc (Obj.cells #[.slice lo l.length lcap, .int .i64 d] 26)) = w1 at *
  rw [← hB] at hbx ⊢
  clear hB
  refine (problem_calls _ E ao cap xs (hI.ext hx1) hl).mono ?_
  rintro e w2 ⟨rfl, hx2⟩
  have hx12 := hx1.trans hx2
  cases hp : probB E xs with
  | false =>
    have HP := Lib.hid (show ¬ (IsProb E xs ∧ IsSh E xs l d) from fun h => by rw [(probB_true E xs).2 h.1] at hp; simp at hp)
    clear hp
    simp only [errI]
    go_wp2_with fail
    go_ret2
    exact .inl ⟨HP.out, rfl, hx12⟩
  | true =>
    have hP := (probB_true E xs).1 hp
    have HP := Lib.hid hP
    clear hp
    obtain ⟨hcr0, hcr1, hBr⟩ := hbx.ext hx2
    have h7 := hP.seven
    have hu := hP.claims
    have hE := hP.estate
    clear hP
    simp only [errI]
    have hic := fun W h1 h2 => is_calls W E ao lo cap lcap xs l d h1 h2 h7 hu hE hll
    have HU := Lib.hid hu
    clear hu
    go_wp2_with fail
    refine (hic _ (hI.ext hx12) (hJ.ext hx12)).mono ?_
    rintro e w3 ⟨rfl, hx3⟩
    clear hic
    have hx13 := hx12.trans hx3
    cases hb : isB E xs l d with
    | false =>
      have HP2 := Lib.hid (show ¬ (IsProb E xs ∧ IsSh E xs l d) from fun h => by rw [isB_yes h.2] at hb; simp at hb)
      clear hb
      go_wp2_with fail
      go_ret2
      exact .inl ⟨HP2.out, rfl, hx13⟩
    | true =>
      have hS : IsSh E xs l d := by simpa [isB] using hb
      have HS := Lib.hid hS
      clear hb
      have hdn := hS.den
      have HLL := Lib.hid hS.len
      have HN := Lib.hid (show ∀ k, k < xs.length → 0 ≤ ith l k ∧ ith l k ≤ 100000000000 from fun k hk => by
        have h1 := hS.num k hk
        have h2 := HU.out.at_ k hk
        have : ith xs k * d ≤ 100000 * 1000000 := Int.mul_le_mul h2.2 hdn.2 (by omega) (by omega)
        omega)
      clear hS hcr0 hcr1 hBr
      have hb3 := (hbx.ext hx2).ext hx3
      go_wp2_with fail
      go_loopw [24] (fun i wr => ∃ k : Nat, k ≤ xs.length ∧ i = .int .i64 k ∧ Hid (FairTo xs l d k 0) ∧ Ext w3 wr) (fun i _ => xs.length - (intOf i).toNat)
      case atStart => exact ⟨0, by omega, rfl, Lib.hid (fun a b _ _ h => by omega), Ext.refl _⟩
      case round =>
        rename World => wr
        obtain ⟨i, hi, rfl, HF, hx⟩ := hrel
        by_cases hlt : i < xs.length
        · go_wp2_with fail
          go_loopw [10] (fun q ws => ∃ j : Nat, i + 1 ≤ j ∧ j ≤ xs.length ∧ q = .int .i64 j ∧ Hid (FairTo xs l d i j) ∧ Ext wr ws) (fun q _ => xs.length - (intOf q).toNat)
          case atStart => exact ⟨i + 1, by omega, by omega, by simp, Lib.hid (fun a b h1 h2 h3 => by
            rcases h3 with h3 | h3
            · exact HF.out a b h1 h2 (.inl h3)
            · omega), Ext.refl _⟩
          case round =>
            rename World => ws
            obtain ⟨j, hj0, hj, rfl, HG, hx4⟩ := hrel
            have hx3s := hx.trans hx4
            by_cases hlt2 : j < xs.length
            · have hi1 : i < l.length := by have := HLL.out; omega
              have hj1 : j < l.length := by have := HLL.out; omega
              obtain ⟨b1, o1, rfl, hb1, hc1⟩ := (hI.ext hx13).ext hx3s i hlt
              obtain ⟨b2, o2, he2, hb2, hc2⟩ := (hI.ext hx13).ext hx3s j hlt2
              simp only [Option.some.injEq, Addr.mk.injEq, and_true] at he2
              obtain ⟨rfl, rfl⟩ := he2
              obtain ⟨b3, o3, rfl, hb4, hc3⟩ := (hJ.ext hx13).ext hx3s i hi1
              obtain ⟨b4, o4, he2, hb5, hc4⟩ := (hJ.ext hx13).ext hx3s j hj1
              simp only [Option.some.injEq, Addr.mk.injEq, and_true] at he2
              obtain ⟨rfl, rfl⟩ := he2
              have hbs := hb3.ext hx3s
              obtain ⟨q0, q1, q2⟩ := id hbs
              have n1 := HN.out i hlt
              have n2 := HN.out j hlt2
              have u1 := HU.out.at_ i hlt
              have u2 := HU.out.at_ j hlt2
              obtain ⟨xi, hxi⟩ : ∃ x, ith l i = x := ⟨_, rfl⟩
              obtain ⟨xj, hxj⟩ : ∃ x, ith l j = x := ⟨_, rfl⟩
              obtain ⟨ci, hci⟩ : ∃ x, ith xs i = x := ⟨_, rfl⟩
              obtain ⟨cj, hcj⟩ : ∃ x, ith xs j = x := ⟨_, rfl⟩
              have HO : Hid (offP xs l d i j = (contP (xi + xj) (ci * d) (cj * d) != 2 * xi)) := Lib.hid (by unfold offP; rw [hxi, hxj, hci, hcj])
              rw [hxi] at hc3 n1
              rw [hxj] at hc4 n2
              rw [hci] at hc1 u1
              rw [hcj] at hc2 u2
              clear hxi hxj hci hcj
              have m1 : ci * d ≤ 100000 * 1000000 := Int.mul_le_mul u1.2 hdn.2 (by omega) (by omega)
              have m2 : cj * d ≤ 100000 * 1000000 := Int.mul_le_mul u2.2 hdn.2 (by omega) (by omega)
              have m3 : 0 ≤ ci * d := Int.mul_nonneg u1.1 (by omega)
              have m4 : 0 ≤ cj * d := Int.mul_nonneg u2.1 (by omega)
              have hw1 : IntKind.i64.wrap (ci * d) = ci * d := by rw [IntKind.wrap_i64]; omega
              have hw2 : IntKind.i64.wrap (cj * d) = cj * d := by rw [IntKind.wrap_i64]; omega
              have hw3 : IntKind.i64.wrap (xi + xj) = xi + xj := by rw [IntKind.wrap_i64]; omega
              have hw4 : IntKind.i64.wrap (2 * xi) = 2 * xi := by rw [IntKind.wrap_i64]; omega
              have hcc := fun W => contested_calls W (xi + xj) (ci * d) (cj * d) (by omega) (by omega) (by omega)
              obtain ⟨z, hz⟩ : ∃ z, contP (xi + xj) (ci * d) (cj * d) = z := ⟨_, rfl⟩
              rw [hz] at HO
              simp only [hz] at hcc
              clear hz m1 m2 m3 m4
              have hi0 : (0 : Int) ≤ (i : Int) := by omega
              have hil : (i : Int) < (l.length : Int) := by omega
              have hix : (i : Int) < (xs.length : Int) := by omega
              have hj0' : (0 : Int) ≤ (j : Int) := by omega
              have hjl : (j : Int) < (l.length : Int) := by omega
              have hjx : (j : Int) < (xs.length : Int) := by omega
              go_wp2_with fail
              go_region_held3 (fun w' => (w'.cell? ⟨B, 0, none⟩ = some (.slice (some ⟨b3, o3, none⟩) l.length lcap)) ∧ (w'.cell? ⟨B, 1, none⟩ = some (.int .i64 d)) ∧ (w'.cell? ⟨b1, o1 + i, none⟩ = some (.int .i64 ci)) ∧ (w'.cell? ⟨b1, o1 + j, none⟩ = some (.int .i64 cj)) ∧ (w'.cell? ⟨b3, o3 + i, none⟩ = some (.int .i64 xi)) ∧ (w'.cell? ⟨b3, o3 + j, none⟩ = some (.int .i64 xj)))
                (first | with_reducible exact p6 hbs hc1 hc2 hc3 hc4 hb1 hb1 hb4 hb4 hxk1 | with_reducible exact p6 hbs hc1 hc2 hc3 hc4 hb1 hb1 hb4 hb4 ((Ext.refl _).drew))
                ((first
                  | (go_at_call 75; refine (hcc _).mono ?_; rintro e v1 ⟨rfl, hx11⟩; have hxk1 := Ext.trans ((Ext.refl _).drew) hx11)))
              by_cases hzz : z = 2 * xi
              · have HOF : Hid (offP xs l d i j = false) := Lib.hid (by rw [HO.out, hzz]; simp)
                have hzb : (z != 2 * xi) = false := by simp [hzz]
                go_wp2_with fail
                exact ⟨⟨j + 1, by omega, by omega, by simp, Lib.hid (fun a b h1 h2 h3 => by
                  by_cases e : a = i ∧ b = j
                  · obtain ⟨rfl, rfl⟩ := e; exact HOF.out
                  · exact HG.out a b h1 h2 (by omega)), hx4.trans hxk1⟩, by simp only [intOf]; omega⟩
              · have HOF : Hid (offP xs l d i j = true) := Lib.hid (by rw [HO.out]; simp [hzz])
                have hzb : (z != 2 * xi) = true := by simp [hzz]
                go_wp2_with fail
                go_ret2
                refine .inr (.inr ⟨HP.out, HS.out, i, j, by omega, by omega, HG.out, HOF.out, _, rfl, ?_, ?_⟩)
                · exact (own_two _ _ _ _).rebase (by have := (((hx13.trans hx).trans hx4).trans hxk1).size; omega)
                · exact (((hx13.trans hx).trans hx4).trans hxk1).trans ((Ext.refl _).alloc _)
            · obtain rfl : j = xs.length := by omega
              go_wp2_with fail
              exact ⟨⟨i + 1, by omega, by simp, Lib.hid (fun a b h1 h2 h3 => by
                rcases Nat.lt_or_ge a i with h4 | h4
                · exact HF.out a b h1 h2 (.inl h4)
                · exact HG.out a b h1 h2 (.inr ⟨by omega, h2⟩)), hx3s⟩, by simp only [intOf]; omega⟩
        · obtain rfl : i = xs.length := by omega
          go_wp2_with fail
          go_ret2
          exact .inr (.inl ⟨HP.out, HS.out, HF.out, rfl, hx13.trans hx⟩)
end Go.Proofs.Ytcngecibljgndaa
