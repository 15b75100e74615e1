/- The specification's Fair. -/
import Derived.Test.YtcngecibljgndaaRE
namespace Go.Proofs.Ytcngecibljgndaa
open Go.RowKit Go.Shelf

theorem divInt_over {x d : Int} (hd : 1 ≤ d) : Rat.divInt x 1 = Rat.divInt (x * d) d := (Rat.divInt_eq_divInt_iff (by omega) (by omega)).2 (by rw [Int.mul_one])
theorem cmpQ_same2 {x y d : Int} (hd : 1 ≤ d) : cmpQ (Rat.divInt x (2 * d)) (Rat.divInt y d) = 0 ↔ x = 2 * y := by
  constructor
  · intro h
    unfold cmpQ at h
    split at h
    · omega
    · rename_i h1
      split at h
      · omega
      · rename_i h2
        have h3 := Rat.le_antisymm (Rat.not_lt.1 h2) (Rat.not_lt.1 h1)
        have h4 := (Rat.divInt_eq_divInt_iff (by omega) (by omega)).1 h3
        have h5 : x * d = 2 * y * d := by rw [h4]; ac_rfl
        exact Int.eq_of_mul_eq_mul_right (show d ≠ 0 by omega) h5
  · rintro rfl
    have : Rat.divInt (2 * y) (2 * d) = Rat.divInt y d := (Rat.divInt_eq_divInt_iff (by omega) (by omega)).2 (by ac_rfl)
    rw [this]
    unfold cmpQ
    rw [if_neg (Rat.lt_irrefl), if_neg (Rat.lt_irrefl)]
theorem p4l {w w' : World} {B lb oi oj : Nat} {u v x y : Value} (h0 : w.cell? ⟨B, 0, none⟩ = some u) (h1 : w.cell? ⟨B, 1, none⟩ = some v) (h2 : w.cell? ⟨lb, oi, none⟩ = some x) (h3 : w.cell? ⟨lb, oj, none⟩ = some y) (l0 : B < w.heap.size) (l1 : lb < w.heap.size) (hx : Ext w w') :
    (w'.cell? ⟨B, 0, none⟩ = some u) ∧ (w'.cell? ⟨B, 1, none⟩ = some v) ∧ (w'.cell? ⟨lb, oi, none⟩ = some x) ∧ (w'.cell? ⟨lb, oj, none⟩ = some y) :=
  ⟨(hx.cell (p := ⟨B, 0, none⟩) l0).trans h0, (hx.cell (p := ⟨B, 1, none⟩) l0).trans h1, (hx.cell (p := ⟨lb, oi, none⟩) l1).trans h2, (hx.cell (p := ⟨lb, oj, none⟩) l1).trans h3⟩
theorem q10 {w w' : World} {B C xb oi oj : Nat} {u v x y u' v' x' y' p q : Value} (h : QBox w B u v x y) (k : QBox w C u' v' x' y') (h2 : w.cell? ⟨xb, oi, none⟩ = some p) (h3 : w.cell? ⟨xb, oj, none⟩ = some q) (l1 : xb < w.heap.size) (hx : Ext w w') :
    (w'.cell? ⟨B, 0, none⟩ = some u) ∧ (w'.cell? ⟨B, 1, none⟩ = some v) ∧ (w'.cell? ⟨B, 2, none⟩ = some x) ∧ (w'.cell? ⟨B, 3, none⟩ = some y) ∧ (w'.cell? ⟨C, 0, none⟩ = some u') ∧ (w'.cell? ⟨C, 1, none⟩ = some v') ∧ (w'.cell? ⟨C, 2, none⟩ = some x') ∧ (w'.cell? ⟨C, 3, none⟩ = some y') ∧ (w'.cell? ⟨xb, oi, none⟩ = some p) ∧ (w'.cell? ⟨xb, oj, none⟩ = some q) :=
  ⟨(h.ext hx).c0, (h.ext hx).c1, (h.ext hx).c2, (h.ext hx).c3, (k.ext hx).c0, (k.ext hx).c1, (k.ext hx).c2, (k.ext hx).c3, (hx.cell (p := ⟨xb, oi, none⟩) l1).trans h2, (hx.cell (p := ⟨xb, oj, none⟩) l1).trans h3⟩
set_option maxRecDepth 100000 in
set_option maxHeartbeats 8000000 in
theorem refFair_calls (w : World) (E : Int) (ao lo : Option Addr) (cap lcap : Nat) (xs l : List Int) (d : Int) (hI : IntsIn w ao xs) (hJ : IntsIn w lo l) (hll : l.length ≤ 1000000) :
    Calls Try.prog 39 #[.int .i64 E, .slice ao xs.length cap, .agg #[.slice lo l.length lcap, .int .i64 d]] w (FairRes w E xs l d) := by
  go_enter Try.func39, Try.ntmps39
  go_wp2_with fail
  have hx1 : Ext w (w.alloc (Obj.cells #[.slice lo l.length lcap, .int .i64 d] 26)) := (by repeat (first | exact Ext.refl _ | assumption | refine Ext.alloc ?_ _ | refine Ext.drewN ?_ _ | refine Ext.drew ?_))
  have hbx := PBox.new w 26 (.slice lo l.length lcap) d
  obtain ⟨B, hB⟩ : ∃ B, B = w.heap.size := ⟨_, rfl⟩
  generalize (w.alloc (Obj.cells #[.slice lo l.length lcap, .int .i64 d] 26)) = w1 at *
  rw [← hB] at hbx ⊢
  clear hB
  refine (refProblem_calls _ E ao cap xs (hI.ext hx1)).mono ?_
  rintro e w2 ⟨rfl, hx2⟩
  have hx12 := hx1.trans hx2
  cases hp : probB E xs with
  | false =>
    have HP := Lib.hid (show ¬ (IsProb E xs ∧ IsSh E xs l d) from fun h => by rw [(probB_true E xs).2 h.1] at hp; simp at hp)
    clear hp
    go_wp2_with fail
    go_ret2
    exact .inl ⟨HP.out, rfl, hx12⟩
  | true =>
    have hP := (probB_true E xs).1 hp
    have HP := Lib.hid hP
    clear hp
    obtain ⟨hcr0, hcr1, hBr⟩ := hbx.ext hx2
    have h7 := hP.seven
    have hu := hP.claims
    have hE := hP.estate
    clear hP
    have hic := fun W h1 h2 => refIsShares_calls W E ao lo cap lcap xs l d h1 h2 h7 hu hE hll
    have HU := Lib.hid hu
    clear hu
    go_wp2_with fail
    refine (hic _ (hI.ext hx12) (hJ.ext hx12)).mono ?_
    rintro e w3 ⟨rfl, hx3⟩
    clear hic
    have hx13 := hx12.trans hx3
    cases hb : isB E xs l d with
    | false =>
      have HP2 := Lib.hid (show ¬ (IsProb E xs ∧ IsSh E xs l d) from fun h => by rw [isB_yes h.2] at hb; simp at hb)
      clear hb
      go_wp2_with fail
      go_ret2
      exact .inl ⟨HP2.out, rfl, hx13⟩
    | true =>
      have hS : IsSh E xs l d := by simpa [isB] using hb
      have HS := Lib.hid hS
      clear hb
      have hdn := hS.den
      have HLL := Lib.hid hS.len
      have HN := Lib.hid (show ∀ k, k < xs.length → 0 ≤ ith l k ∧ ith l k ≤ 100000000000 from fun k hk => by
        have h1 := hS.num k hk
        have h2 := HU.out.at_ k hk
        have : ith xs k * d ≤ 100000 * 1000000 := Int.mul_le_mul h2.2 hdn.2 (by omega) (by omega)
        omega)
      clear hS hcr0 hcr1 hBr
      have hb3 := (hbx.ext hx2).ext hx3
      go_wp2_with fail
      go_loopg [8] xs.length (fun q i wr => ∃ k : Nat, k ≤ xs.length ∧ i = .int .i64 k ∧ q + k = xs.length ∧ Hid (FairTo xs l d k 0) ∧ Ext w3 wr)
      case atStart => exact ⟨0, by omega, rfl, by omega, Lib.hid (fun a b _ _ h => by omega), Ext.refl _⟩
      case round =>
        rename World => wr
        obtain ⟨i, hi, rfl, hqi, HF, hx⟩ := hrel
        by_cases hlt : i < xs.length
        · go_wp2_with fail
          go_loopg [9] (xs.length - i) (fun q jv ws => ∃ j : Nat, i + 1 ≤ j ∧ j ≤ xs.length ∧ jv = .int .i64 j ∧ q + j = xs.length + 1 ∧ Hid (FairTo xs l d i j) ∧ Ext wr ws)
          case atStart => exact ⟨i + 1, by omega, by omega, by simp, by omega, Lib.hid (fun a b h1 h2 h3 => by
            rcases h3 with h3 | h3
            · exact HF.out a b h1 h2 (.inl h3)
            · omega), Ext.refl _⟩
          case round =>
            rename World => ws
            obtain ⟨j, hj0, hj, rfl, hqj, HG, hx4⟩ := hrel
            have hx3s := hx.trans hx4
            by_cases hlt2 : j < xs.length
            · have hi1 : i < l.length := by have := HLL.out; omega
              have hj1 : j < l.length := by have := HLL.out; omega
              obtain ⟨b1, o1, rfl, hb1, hc1⟩ := (hI.ext hx13).ext hx3s i hlt
              obtain ⟨b2, o2, he2, hb2, hc2⟩ := (hI.ext hx13).ext hx3s j hlt2
              simp only [Option.some.injEq, Addr.mk.injEq, and_true] at he2
              obtain ⟨rfl, rfl⟩ := he2
              obtain ⟨b3, o3, rfl, hb4, hc3⟩ := (hJ.ext hx13).ext hx3s i hi1
              obtain ⟨b4, o4, he2, hb5, hc4⟩ := (hJ.ext hx13).ext hx3s j hj1
              simp only [Option.some.injEq, Addr.mk.injEq, and_true] at he2
              obtain ⟨rfl, rfl⟩ := he2
              have hbs := hb3.ext hx3s
              obtain ⟨q0, q1, q2⟩ := id hbs
              have n1 := HN.out i hlt
              have n2 := HN.out j hlt2
              have u1 := HU.out.at_ i hlt
              have u2 := HU.out.at_ j hlt2
              obtain ⟨xi, hxi⟩ : ∃ x, ith l i = x := ⟨_, rfl⟩
              obtain ⟨xj, hxj⟩ : ∃ x, ith l j = x := ⟨_, rfl⟩
              obtain ⟨ci, hci⟩ : ∃ x, ith xs i = x := ⟨_, rfl⟩
              obtain ⟨cj, hcj⟩ : ∃ x, ith xs j = x := ⟨_, rfl⟩
              have HO : Hid (offP xs l d i j = (contP (xi + xj) (ci * d) (cj * d) != 2 * xi)) := Lib.hid (by unfold offP; rw [hxi, hxj, hci, hcj])
              rw [hxi] at hc3 n1
              rw [hxj] at hc4 n2
              rw [hci] at hc1 u1
              rw [hcj] at hc2 u2
              clear hxi hxj hci hcj
              have m1 : ci * d ≤ 100000 * 1000000 := Int.mul_le_mul u1.2 hdn.2 (by omega) (by omega)
              have m2 : cj * d ≤ 100000 * 1000000 := Int.mul_le_mul u2.2 hdn.2 (by omega) (by omega)
              have m3 : 0 ≤ ci * d := Int.mul_nonneg u1.1 (by omega)
              have m4 : 0 ≤ cj * d := Int.mul_nonneg u2.1 (by omega)
              obtain ⟨z, hz⟩ : ∃ z, contP (xi + xj) (ci * d) (cj * d) = z := ⟨_, rfl⟩
              have hzb : -10000000000000 ≤ z ∧ z ≤ 10000000000000 := by rw [← hz]; unfold contP; omega
              rw [hz] at HO
              have hi0 : (0 : Int) ≤ (i : Int) := by omega
              have hil : (i : Int) < (l.length : Int) := by omega
              have hix : (i : Int) < (xs.length : Int) := by omega
              have hj0' : (0 : Int) ≤ (j : Int) := by omega
              have hjl : (j : Int) < (l.length : Int) := by omega
              have hjx : (j : Int) < (xs.length : Int) := by omega
              go_wp2_with fail
              go_cut [10, 11] (fun s9 s10 wx => ∃ C F, s9 = .pointer (some ⟨C, 0, none⟩) ∧ s10 = .pointer (some ⟨F, 0, none⟩) ∧ TwoQ ws wx C F (Rat.divInt xi d) (Rat.divInt xj d))
              case first =>
                go_region_held3 (fun w' => (w'.cell? ⟨B, 0, none⟩ = some (.slice (some ⟨b3, o3, none⟩) l.length lcap)) ∧ (w'.cell? ⟨B, 1, none⟩ = some (.int .i64 d)) ∧ (w'.cell? ⟨b3, o3 + i, none⟩ = some (.int .i64 xi)) ∧ (w'.cell? ⟨b3, o3 + j, none⟩ = some (.int .i64 xj)))
                  (exact p4l q0 q1 hc3 hc4 q2 hb4 (by repeat (with_reducible first | exact Ext.refl _ | assumption | refine Ext.alloc ?_ _ | refine Ext.drew ?_ | (refine Ext.setOwn ?_ _ _ (by first | exact Nat.le_refl _ | exact hxk1.size | exact hxk2.size | exact hxk3.size | exact hxk4.size | exact Nat.le_succ _ | exact Nat.le_succ_of_le hxk1.size | exact Nat.le_succ_of_le hxk2.size | exact Nat.le_succ_of_le hxk3.size | exact Nat.le_succ_of_le hxk4.size)))))
                  ((first
              | (go_at_call 31; have hgone := hxk1; clear hgone; refine (frac_calls _ xj d (by omega) (by omega) (by omega)).mono ?_; rintro e v2 ⟨nb6, zo6, A6, zc6, mb6, yo6, B6, yc6, rfl, hR2, hbk2, hbm2, hx12⟩; have hxv2 : Ext v1 v2 := Ext.trans (by repeat (with_reducible first | exact Ext.refl _ | assumption | refine Ext.alloc ?_ _ | refine Ext.drew ?_ | (refine Ext.setOwn ?_ _ _ (by first | exact Nat.le_refl _ | exact hxk1.size | exact hxk2.size | exact hxk3.size | exact hxk4.size | exact Nat.le_succ _ | exact Nat.le_succ_of_le hxk1.size | exact Nat.le_succ_of_le hxk2.size | exact Nat.le_succ_of_le hxk3.size | exact Nat.le_succ_of_le hxk4.size)))) hx12; have hxk2 : Ext ws v2 := hxk1.trans hxv2; (first | (have spc := ((Spot4.old2 v1 41).ext ((Ext.refl _).drew)).ext hx12; have spd := ((Spot4.new2 v1 41).ext ((Ext.refl _).drew)).ext hx12; obtain ⟨c0spc, hc0spc⟩ := Option.isSome_iff_exists.1 spc.some0; obtain ⟨c1spc, hc1spc⟩ := Option.isSome_iff_exists.1 spc.some1; obtain ⟨c2spc, hc2spc⟩ := Option.isSome_iff_exists.1 spc.some2; obtain ⟨c3spc, hc3spc⟩ := Option.isSome_iff_exists.1 spc.some3; have hf0spc := spc.free0; have hf1spc := spc.free1; have hf2spc := spc.free2; have hf3spc := spc.free3; have hl0spc := spc.lt; obtain ⟨c0spd, hc0spd⟩ := Option.isSome_iff_exists.1 spd.some0; obtain ⟨c1spd, hc1spd⟩ := Option.isSome_iff_exists.1 spd.some1; obtain ⟨c2spd, hc2spd⟩ := Option.isSome_iff_exists.1 spd.some2; obtain ⟨c3spd, hc3spd⟩ := Option.isSome_iff_exists.1 spd.some3; have hf0spd := spd.free0; have hf1spd := spd.free1; have hf2spd := spd.free2; have hf3spd := spd.free3; have hl0spd := spd.lt) | (have spc := ((Spot4.new v1 41).ext ((Ext.refl _).drew)).ext hx12; obtain ⟨c0spc, hc0spc⟩ := Option.isSome_iff_exists.1 spc.some0; obtain ⟨c1spc, hc1spc⟩ := Option.isSome_iff_exists.1 spc.some1; obtain ⟨c2spc, hc2spc⟩ := Option.isSome_iff_exists.1 spc.some2; obtain ⟨c3spc, hc3spc⟩ := Option.isSome_iff_exists.1 spc.some3; have hf0spc := spc.free0; have hf1spc := spc.free1; have hf2spc := spc.free2; have hf3spc := spc.free3; have hl0spc := spc.lt) | (have spc := (Spot4.old2 v1 41).ext hx12; have spd := (Spot4.new2 v1 41).ext hx12; obtain ⟨c0spc, hc0spc⟩ := Option.isSome_iff_exists.1 spc.some0; obtain ⟨c1spc, hc1spc⟩ := Option.isSome_iff_exists.1 spc.some1; obtain ⟨c2spc, hc2spc⟩ := Option.isSome_iff_exists.1 spc.some2; obtain ⟨c3spc, hc3spc⟩ := Option.isSome_iff_exists.1 spc.some3; have hf0spc := spc.free0; have hf1spc := spc.free1; have hf2spc := spc.free2; have hf3spc := spc.free3; have hl0spc := spc.lt; obtain ⟨c0spd, hc0spd⟩ := Option.isSome_iff_exists.1 spd.some0; obtain ⟨c1spd, hc1spd⟩ := Option.isSome_iff_exists.1 spd.some1; obtain ⟨c2spd, hc2spd⟩ := Option.isSome_iff_exists.1 spd.some2; obtain ⟨c3spd, hc3spd⟩ := Option.isSome_iff_exists.1 spd.some3; have hf0spd := spd.free0; have hf1spd := spd.free1; have hf2spd := spd.free2; have hf3spd := spd.free3; have hl0spd := spd.lt) | (have spc := (Spot4.new v1 41).ext hx12; obtain ⟨c0spc, hc0spc⟩ := Option.isSome_iff_exists.1 spc.some0; obtain ⟨c1spc, hc1spc⟩ := Option.isSome_iff_exists.1 spc.some1; obtain ⟨c2spc, hc2spc⟩ := Option.isSome_iff_exists.1 spc.some2; obtain ⟨c3spc, hc3spc⟩ := Option.isSome_iff_exists.1 spc.some3; have hf0spc := spc.free0; have hf1spc := spc.free1; have hf2spc := spc.free2; have hf3spc := spc.free3; have hl0spc := spc.lt) | skip); (try (have spe := spa.ext hxv2; obtain ⟨c0spe, hc0spe⟩ := Option.isSome_iff_exists.1 spe.some0; obtain ⟨c1spe, hc1spe⟩ := Option.isSome_iff_exists.1 spe.some1; obtain ⟨c2spe, hc2spe⟩ := Option.isSome_iff_exists.1 spe.some2; obtain ⟨c3spe, hc3spe⟩ := Option.isSome_iff_exists.1 spe.some3; have hf0spe := spe.free0; have hf1spe := spe.free1; have hf2spe := spe.free2; have hf3spe := spe.free3; have hl0spe := spe.lt)); (try (have spf := spb.ext hxv2; obtain ⟨c0spf, hc0spf⟩ := Option.isSome_iff_exists.1 spf.some0; obtain ⟨c1spf, hc1spf⟩ := Option.isSome_iff_exists.1 spf.some1; obtain ⟨c2spf, hc2spf⟩ := Option.isSome_iff_exists.1 spf.some2; obtain ⟨c3spf, hc3spf⟩ := Option.isSome_iff_exists.1 spf.some3; have hf0spf := spf.free0; have hf1spf := spf.free1; have hf2spf := spf.free2; have hf3spf := spf.free3; have hl0spf := spf.lt)))
              | (go_at_call 31; refine (frac_calls _ xi d (by omega) (by omega) (by omega)).mono ?_; rintro e v1 ⟨nb5, zo5, A5, zc5, mb5, yo5, B5, yc5, rfl, hR1, hbk1, hbm1, hx11⟩; have hxk1 : Ext ws v1 := Ext.trans (by repeat (with_reducible first | exact Ext.refl _ | assumption | refine Ext.alloc ?_ _ | refine Ext.drew ?_ | (refine Ext.setOwn ?_ _ _ (by first | exact Nat.le_refl _ | exact hxk1.size | exact hxk2.size | exact hxk3.size | exact hxk4.size | exact Nat.le_succ _ | exact Nat.le_succ_of_le hxk1.size | exact Nat.le_succ_of_le hxk2.size | exact Nat.le_succ_of_le hxk3.size | exact Nat.le_succ_of_le hxk4.size)))) hx11; (first | (have spa := ((Spot4.old2 ws 41).ext ((Ext.refl _).drew)).ext hx11; have spb := ((Spot4.new2 ws 41).ext ((Ext.refl _).drew)).ext hx11; obtain ⟨c0spa, hc0spa⟩ := Option.isSome_iff_exists.1 spa.some0; obtain ⟨c1spa, hc1spa⟩ := Option.isSome_iff_exists.1 spa.some1; obtain ⟨c2spa, hc2spa⟩ := Option.isSome_iff_exists.1 spa.some2; obtain ⟨c3spa, hc3spa⟩ := Option.isSome_iff_exists.1 spa.some3; have hf0spa := spa.free0; have hf1spa := spa.free1; have hf2spa := spa.free2; have hf3spa := spa.free3; have hl0spa := spa.lt; obtain ⟨c0spb, hc0spb⟩ := Option.isSome_iff_exists.1 spb.some0; obtain ⟨c1spb, hc1spb⟩ := Option.isSome_iff_exists.1 spb.some1; obtain ⟨c2spb, hc2spb⟩ := Option.isSome_iff_exists.1 spb.some2; obtain ⟨c3spb, hc3spb⟩ := Option.isSome_iff_exists.1 spb.some3; have hf0spb := spb.free0; have hf1spb := spb.free1; have hf2spb := spb.free2; have hf3spb := spb.free3; have hl0spb := spb.lt) | (have spa := ((Spot4.new ws 41).ext ((Ext.refl _).drew)).ext hx11; obtain ⟨c0spa, hc0spa⟩ := Option.isSome_iff_exists.1 spa.some0; obtain ⟨c1spa, hc1spa⟩ := Option.isSome_iff_exists.1 spa.some1; obtain ⟨c2spa, hc2spa⟩ := Option.isSome_iff_exists.1 spa.some2; obtain ⟨c3spa, hc3spa⟩ := Option.isSome_iff_exists.1 spa.some3; have hf0spa := spa.free0; have hf1spa := spa.free1; have hf2spa := spa.free2; have hf3spa := spa.free3; have hl0spa := spa.lt) | (have spa := (Spot4.old2 ws 41).ext hx11; have spb := (Spot4.new2 ws 41).ext hx11; obtain ⟨c0spa, hc0spa⟩ := Option.isSome_iff_exists.1 spa.some0; obtain ⟨c1spa, hc1spa⟩ := Option.isSome_iff_exists.1 spa.some1; obtain ⟨c2spa, hc2spa⟩ := Option.isSome_iff_exists.1 spa.some2; obtain ⟨c3spa, hc3spa⟩ := Option.isSome_iff_exists.1 spa.some3; have hf0spa := spa.free0; have hf1spa := spa.free1; have hf2spa := spa.free2; have hf3spa := spa.free3; have hl0spa := spa.lt; obtain ⟨c0spb, hc0spb⟩ := Option.isSome_iff_exists.1 spb.some0; obtain ⟨c1spb, hc1spb⟩ := Option.isSome_iff_exists.1 spb.some1; obtain ⟨c2spb, hc2spb⟩ := Option.isSome_iff_exists.1 spb.some2; obtain ⟨c3spb, hc3spb⟩ := Option.isSome_iff_exists.1 spb.some3; have hf0spb := spb.free0; have hf1spb := spb.free1; have hf2spb := spb.free2; have hf3spb := spb.free3; have hl0spb := spb.lt) | (have spa := (Spot4.new ws 41).ext hx11; obtain ⟨c0spa, hc0spa⟩ := Option.isSome_iff_exists.1 spa.some0; obtain ⟨c1spa, hc1spa⟩ := Option.isSome_iff_exists.1 spa.some1; obtain ⟨c2spa, hc2spa⟩ := Option.isSome_iff_exists.1 spa.some2; obtain ⟨c3spa, hc3spa⟩ := Option.isSome_iff_exists.1 spa.some3; have hf0spa := spa.free0; have hf1spa := spa.free1; have hf2spa := spa.free2; have hf3spa := spa.free3; have hl0spa := spa.lt) | skip))))
                all_goals
                  have e1 := hx11.size
                  have e2 := hx12.size
                  have l1 := hR1.num.digs.lt
                  have l2 := hR1.den.digs.lt
                  have l3 := hR2.num.digs.lt
                  have l4 := hR2.den.digs.lt
                  have hpx := hR1.ext hxv2
                  try simp only [World.size_drew, World.size_alloc] at e1 e2 hbk1 hbm1 hbk2 hbm2
                  go_wp2_with fail
                  go_meet
                  refine ⟨_, _, rfl, rfl, ?_⟩
                  with_reducible first
                    | refine TwoQ.stored ?_ ?_ ?_ ?_ ?_ hpx hR2 ?_ ?_ hxk2
                    | refine TwoQ.half _ ?_ ?_ hpx hR2 ?_ ?_ hxk2
                    | refine TwoQ.swap (TwoQ.half _ ?_ ?_ hR2 hpx ?_ ?_ hxk2)
                    | refine TwoQ.both _ hpx hR2 ?_ ?_ hxk2
                    | refine TwoQ.swap (TwoQ.both _ hR2 hpx ?_ ?_ hxk2)
                  all_goals first
                    | assumption
                    | omega
                    | (refine ⟨?_, ?_, ?_, ?_⟩ <;> intro hA a ha <;> first
                        | (have g1 := hbk1 a ha; have g2 := l1 hA a ha; omega)
                        | (have g1 := hbm1 a ha; have g2 := l2 hA a ha; omega)
                        | (have g1 := hbk2 a ha; have g2 := l3 hA a ha; omega)
                        | (have g1 := hbm2 a ha; have g2 := l4 hA a ha; omega))
              case rest =>
              obtain ⟨C, F, rfl, rfl, hT⟩ := hcut
              obtain ⟨nb5, zo5, A5, zc5, mb5, yo5, B5, yc5, nb6, zo6, A6, zc6, mb6, yo6, B6, yc6, -, -, -, hbC, hbF, -, -, hxwc⟩ := hT
              have f1 : Fine (Rat.divInt xi d) := fine_small (by omega) (by omega) (by omega)
              have f2 : Fine (Rat.divInt xj d) := fine_small (by omega) (by omega) (by omega)
              have hc1' := (hxwc.cell (p := ⟨b1, o1 + i, none⟩) hb1).trans hc1
              have hc2' := (hxwc.cell (p := ⟨b1, o1 + j, none⟩) hb1).trans hc2
              have hb1' := Nat.lt_of_lt_of_le hb1 hxwc.size
              clear q0 q1 q2 hc1 hc2 hc3 hc4
              go_wp2_with fail
              go_cut [12, 13] (fun s9 s10 wx => ∃ P T, s9 = .pointer (some ⟨P, 0, none⟩) ∧ s10 = .pointer (some ⟨T, 0, none⟩) ∧ TwoQ wc wx P T (Rat.divInt z (2 * d)) (Rat.divInt (2 * (xi + xj) - z) (2 * d)))
              case first =>
                go_region_held3 (fun w' => (w'.cell? ⟨C, 0, none⟩ = some (.bool nb5)) ∧ (w'.cell? ⟨C, 1, none⟩ = some (.slice zo5 A5 zc5)) ∧ (w'.cell? ⟨C, 2, none⟩ = some (.bool mb5)) ∧ (w'.cell? ⟨C, 3, none⟩ = some (.slice yo5 B5 yc5)) ∧ (w'.cell? ⟨F, 0, none⟩ = some (.bool nb6)) ∧ (w'.cell? ⟨F, 1, none⟩ = some (.slice zo6 A6 zc6)) ∧ (w'.cell? ⟨F, 2, none⟩ = some (.bool mb6)) ∧ (w'.cell? ⟨F, 3, none⟩ = some (.slice yo6 B6 yc6)) ∧ (w'.cell? ⟨b1, o1 + i, none⟩ = some (.int .i64 ci)) ∧ (w'.cell? ⟨b1, o1 + j, none⟩ = some (.int .i64 cj)))
                  (exact q10 hbC.box hbF.box hc1' hc2' hb1' (by repeat (with_reducible first | exact Ext.refl _ | assumption | refine Ext.alloc ?_ _ | refine Ext.drew ?_ | (refine Ext.setOwn ?_ _ _ (by first | exact Nat.le_refl _ | exact hxk1.size | exact hxk2.size | exact hxk3.size | exact hxk4.size | exact Nat.le_succ _ | exact Nat.le_succ_of_le hxk1.size | exact Nat.le_succ_of_le hxk2.size | exact Nat.le_succ_of_le hxk3.size | exact Nat.le_succ_of_le hxk4.size)))))
                  ((first
              | (go_at_call 76; refine (garment_calls _ nb7 mb7 nb8 mb8 nb9 mb9 zo7 yo7 zo8 yo8 zo9 yo9 A7 zc7 B7 yc7 A8 zc8 B8 yc8 A9 zc9 B9 yc9 (xi + xj) (ci * d) (cj * d) d (hR7.ext ((hxv8.trans hxv9).trans (by repeat (with_reducible first | exact Ext.refl _ | assumption | refine Ext.alloc ?_ _ | refine Ext.drew ?_ | (refine Ext.setOwn ?_ _ _ (by first | exact Nat.le_refl _ | exact hxk1.size | exact hxk2.size | exact hxk3.size | exact hxk4.size | exact Nat.le_succ _ | exact Nat.le_succ_of_le hxk1.size | exact Nat.le_succ_of_le hxk2.size | exact Nat.le_succ_of_le hxk3.size | exact Nat.le_succ_of_le hxk4.size)))))) (hR8.ext (hxv9.trans (by repeat (with_reducible first | exact Ext.refl _ | assumption | refine Ext.alloc ?_ _ | refine Ext.drew ?_ | (refine Ext.setOwn ?_ _ _ (by first | exact Nat.le_refl _ | exact hxk1.size | exact hxk2.size | exact hxk3.size | exact hxk4.size | exact Nat.le_succ _ | exact Nat.le_succ_of_le hxk1.size | exact Nat.le_succ_of_le hxk2.size | exact Nat.le_succ_of_le hxk3.size | exact Nat.le_succ_of_le hxk4.size)))))) (hR9.ext (by repeat (with_reducible first | exact Ext.refl _ | assumption | refine Ext.alloc ?_ _ | refine Ext.drew ?_ | (refine Ext.setOwn ?_ _ _ (by first | exact Nat.le_refl _ | exact hxk1.size | exact hxk2.size | exact hxk3.size | exact hxk4.size | exact Nat.le_succ _ | exact Nat.le_succ_of_le hxk1.size | exact Nat.le_succ_of_le hxk2.size | exact Nat.le_succ_of_le hxk3.size | exact Nat.le_succ_of_le hxk4.size))))) (by omega) (by omega) (by omega) (by omega)).mono ?_; rintro e v10 ⟨nb5', zo5', A5', zc5', mb5', yo5', B5', yc5', nb6', zo6', A6', zc6', mb6', yo6', B6', yc6', rfl, hR1, hR2, hbk1, hbm1, hbk2, hbm2, hx20⟩; rw [hz] at hR1 hR2; have hxv10 : Ext v9 v10 := Ext.trans (by repeat (with_reducible first | exact Ext.refl _ | assumption | refine Ext.alloc ?_ _ | refine Ext.drew ?_ | (refine Ext.setOwn ?_ _ _ (by first | exact Nat.le_refl _ | exact hxk1.size | exact hxk2.size | exact hxk3.size | exact hxk4.size | exact Nat.le_succ _ | exact Nat.le_succ_of_le hxk1.size | exact Nat.le_succ_of_le hxk2.size | exact Nat.le_succ_of_le hxk3.size | exact Nat.le_succ_of_le hxk4.size)))) hx20; have hxk4 : Ext wc v10 := hxk3.trans hxv10; (first | (have sqg := ((Spot4.old2 v9 41).ext ((Ext.refl _).drew)).ext hx20; have sqh := ((Spot4.new2 v9 41).ext ((Ext.refl _).drew)).ext hx20; obtain ⟨c0sqg, hc0sqg⟩ := Option.isSome_iff_exists.1 sqg.some0; obtain ⟨c1sqg, hc1sqg⟩ := Option.isSome_iff_exists.1 sqg.some1; obtain ⟨c2sqg, hc2sqg⟩ := Option.isSome_iff_exists.1 sqg.some2; obtain ⟨c3sqg, hc3sqg⟩ := Option.isSome_iff_exists.1 sqg.some3; have hf0sqg := sqg.free0; have hf1sqg := sqg.free1; have hf2sqg := sqg.free2; have hf3sqg := sqg.free3; have hl0sqg := sqg.lt; obtain ⟨c0sqh, hc0sqh⟩ := Option.isSome_iff_exists.1 sqh.some0; obtain ⟨c1sqh, hc1sqh⟩ := Option.isSome_iff_exists.1 sqh.some1; obtain ⟨c2sqh, hc2sqh⟩ := Option.isSome_iff_exists.1 sqh.some2; obtain ⟨c3sqh, hc3sqh⟩ := Option.isSome_iff_exists.1 sqh.some3; have hf0sqh := sqh.free0; have hf1sqh := sqh.free1; have hf2sqh := sqh.free2; have hf3sqh := sqh.free3; have hl0sqh := sqh.lt) | (have sqg := ((Spot4.new v9 41).ext ((Ext.refl _).drew)).ext hx20; obtain ⟨c0sqg, hc0sqg⟩ := Option.isSome_iff_exists.1 sqg.some0; obtain ⟨c1sqg, hc1sqg⟩ := Option.isSome_iff_exists.1 sqg.some1; obtain ⟨c2sqg, hc2sqg⟩ := Option.isSome_iff_exists.1 sqg.some2; obtain ⟨c3sqg, hc3sqg⟩ := Option.isSome_iff_exists.1 sqg.some3; have hf0sqg := sqg.free0; have hf1sqg := sqg.free1; have hf2sqg := sqg.free2; have hf3sqg := sqg.free3; have hl0sqg := sqg.lt) | (have sqg := (Spot4.old2 v9 41).ext hx20; have sqh := (Spot4.new2 v9 41).ext hx20; obtain ⟨c0sqg, hc0sqg⟩ := Option.isSome_iff_exists.1 sqg.some0; obtain ⟨c1sqg, hc1sqg⟩ := Option.isSome_iff_exists.1 sqg.some1; obtain ⟨c2sqg, hc2sqg⟩ := Option.isSome_iff_exists.1 sqg.some2; obtain ⟨c3sqg, hc3sqg⟩ := Option.isSome_iff_exists.1 sqg.some3; have hf0sqg := sqg.free0; have hf1sqg := sqg.free1; have hf2sqg := sqg.free2; have hf3sqg := sqg.free3; have hl0sqg := sqg.lt; obtain ⟨c0sqh, hc0sqh⟩ := Option.isSome_iff_exists.1 sqh.some0; obtain ⟨c1sqh, hc1sqh⟩ := Option.isSome_iff_exists.1 sqh.some1; obtain ⟨c2sqh, hc2sqh⟩ := Option.isSome_iff_exists.1 sqh.some2; obtain ⟨c3sqh, hc3sqh⟩ := Option.isSome_iff_exists.1 sqh.some3; have hf0sqh := sqh.free0; have hf1sqh := sqh.free1; have hf2sqh := sqh.free2; have hf3sqh := sqh.free3; have hl0sqh := sqh.lt) | (have sqg := (Spot4.new v9 41).ext hx20; obtain ⟨c0sqg, hc0sqg⟩ := Option.isSome_iff_exists.1 sqg.some0; obtain ⟨c1sqg, hc1sqg⟩ := Option.isSome_iff_exists.1 sqg.some1; obtain ⟨c2sqg, hc2sqg⟩ := Option.isSome_iff_exists.1 sqg.some2; obtain ⟨c3sqg, hc3sqg⟩ := Option.isSome_iff_exists.1 sqg.some3; have hf0sqg := sqg.free0; have hf1sqg := sqg.free1; have hf2sqg := sqg.free2; have hf3sqg := sqg.free3; have hl0sqg := sqg.lt) | skip); (try (have sra := sqa.ext hxv10; obtain ⟨c0sra, hc0sra⟩ := Option.isSome_iff_exists.1 sra.some0; obtain ⟨c1sra, hc1sra⟩ := Option.isSome_iff_exists.1 sra.some1; obtain ⟨c2sra, hc2sra⟩ := Option.isSome_iff_exists.1 sra.some2; obtain ⟨c3sra, hc3sra⟩ := Option.isSome_iff_exists.1 sra.some3; have hf0sra := sra.free0; have hf1sra := sra.free1; have hf2sra := sra.free2; have hf3sra := sra.free3; have hl0sra := sra.lt)); (try (have srb := sqb.ext hxv10; obtain ⟨c0srb, hc0srb⟩ := Option.isSome_iff_exists.1 srb.some0; obtain ⟨c1srb, hc1srb⟩ := Option.isSome_iff_exists.1 srb.some1; obtain ⟨c2srb, hc2srb⟩ := Option.isSome_iff_exists.1 srb.some2; obtain ⟨c3srb, hc3srb⟩ := Option.isSome_iff_exists.1 srb.some3; have hf0srb := srb.free0; have hf1srb := srb.free1; have hf2srb := srb.free2; have hf3srb := srb.free3; have hl0srb := srb.lt)); (try (have src := sqc.ext hxv10; obtain ⟨c0src, hc0src⟩ := Option.isSome_iff_exists.1 src.some0; obtain ⟨c1src, hc1src⟩ := Option.isSome_iff_exists.1 src.some1; obtain ⟨c2src, hc2src⟩ := Option.isSome_iff_exists.1 src.some2; obtain ⟨c3src, hc3src⟩ := Option.isSome_iff_exists.1 src.some3; have hf0src := src.free0; have hf1src := src.free1; have hf2src := src.free2; have hf3src := src.free3; have hl0src := src.lt)); (try (have srd := sqd.ext hxv10; obtain ⟨c0srd, hc0srd⟩ := Option.isSome_iff_exists.1 srd.some0; obtain ⟨c1srd, hc1srd⟩ := Option.isSome_iff_exists.1 srd.some1; obtain ⟨c2srd, hc2srd⟩ := Option.isSome_iff_exists.1 srd.some2; obtain ⟨c3srd, hc3srd⟩ := Option.isSome_iff_exists.1 srd.some3; have hf0srd := srd.free0; have hf1srd := srd.free1; have hf2srd := srd.free2; have hf3srd := srd.free3; have hl0srd := srd.lt)); (try (have sre := sqe.ext hxv10; obtain ⟨c0sre, hc0sre⟩ := Option.isSome_iff_exists.1 sre.some0; obtain ⟨c1sre, hc1sre⟩ := Option.isSome_iff_exists.1 sre.some1; obtain ⟨c2sre, hc2sre⟩ := Option.isSome_iff_exists.1 sre.some2; obtain ⟨c3sre, hc3sre⟩ := Option.isSome_iff_exists.1 sre.some3; have hf0sre := sre.free0; have hf1sre := sre.free1; have hf2sre := sre.free2; have hf3sre := sre.free3; have hl0sre := sre.lt)); (try (have srf := sqf.ext hxv10; obtain ⟨c0srf, hc0srf⟩ := Option.isSome_iff_exists.1 srf.some0; obtain ⟨c1srf, hc1srf⟩ := Option.isSome_iff_exists.1 srf.some1; obtain ⟨c2srf, hc2srf⟩ := Option.isSome_iff_exists.1 srf.some2; obtain ⟨c3srf, hc3srf⟩ := Option.isSome_iff_exists.1 srf.some3; have hf0srf := srf.free0; have hf1srf := srf.free1; have hf2srf := srf.free2; have hf3srf := srf.free3; have hl0srf := srf.lt)); (try (have sra1 := sqa1.ext hxv10; obtain ⟨c0sra1, hc0sra1⟩ := Option.isSome_iff_exists.1 sra1.some0; obtain ⟨c1sra1, hc1sra1⟩ := Option.isSome_iff_exists.1 sra1.some1; obtain ⟨c2sra1, hc2sra1⟩ := Option.isSome_iff_exists.1 sra1.some2; obtain ⟨c3sra1, hc3sra1⟩ := Option.isSome_iff_exists.1 sra1.some3; have hf0sra1 := sra1.free0; have hf1sra1 := sra1.free1; have hf2sra1 := sra1.free2; have hf3sra1 := sra1.free3; have hl0sra1 := sra1.lt)); (try (have srb1 := sqb1.ext hxv10; obtain ⟨c0srb1, hc0srb1⟩ := Option.isSome_iff_exists.1 srb1.some0; obtain ⟨c1srb1, hc1srb1⟩ := Option.isSome_iff_exists.1 srb1.some1; obtain ⟨c2srb1, hc2srb1⟩ := Option.isSome_iff_exists.1 srb1.some2; obtain ⟨c3srb1, hc3srb1⟩ := Option.isSome_iff_exists.1 srb1.some3; have hf0srb1 := srb1.free0; have hf1srb1 := srb1.free1; have hf2srb1 := srb1.free2; have hf3srb1 := srb1.free3; have hl0srb1 := srb1.lt)); (try (have sra2 := sqa2.ext hxv10; obtain ⟨c0sra2, hc0sra2⟩ := Option.isSome_iff_exists.1 sra2.some0; obtain ⟨c1sra2, hc1sra2⟩ := Option.isSome_iff_exists.1 sra2.some1; obtain ⟨c2sra2, hc2sra2⟩ := Option.isSome_iff_exists.1 sra2.some2; obtain ⟨c3sra2, hc3sra2⟩ := Option.isSome_iff_exists.1 sra2.some3; have hf0sra2 := sra2.free0; have hf1sra2 := sra2.free1; have hf2sra2 := sra2.free2; have hf3sra2 := sra2.free3; have hl0sra2 := sra2.lt)); (try (have srb2 := sqb2.ext hxv10; obtain ⟨c0srb2, hc0srb2⟩ := Option.isSome_iff_exists.1 srb2.some0; obtain ⟨c1srb2, hc1srb2⟩ := Option.isSome_iff_exists.1 srb2.some1; obtain ⟨c2srb2, hc2srb2⟩ := Option.isSome_iff_exists.1 srb2.some2; obtain ⟨c3srb2, hc3srb2⟩ := Option.isSome_iff_exists.1 srb2.some3; have hf0srb2 := srb2.free0; have hf1srb2 := srb2.free1; have hf2srb2 := srb2.free2; have hf3srb2 := srb2.free3; have hl0srb2 := srb2.lt)); (try (have src2 := sqc2.ext hxv10; obtain ⟨c0src2, hc0src2⟩ := Option.isSome_iff_exists.1 src2.some0; obtain ⟨c1src2, hc1src2⟩ := Option.isSome_iff_exists.1 src2.some1; obtain ⟨c2src2, hc2src2⟩ := Option.isSome_iff_exists.1 src2.some2; obtain ⟨c3src2, hc3src2⟩ := Option.isSome_iff_exists.1 src2.some3; have hf0src2 := src2.free0; have hf1src2 := src2.free1; have hf2src2 := src2.free2; have hf3src2 := src2.free3; have hl0src2 := src2.lt)); (try (have srd2 := sqd2.ext hxv10; obtain ⟨c0srd2, hc0srd2⟩ := Option.isSome_iff_exists.1 srd2.some0; obtain ⟨c1srd2, hc1srd2⟩ := Option.isSome_iff_exists.1 srd2.some1; obtain ⟨c2srd2, hc2srd2⟩ := Option.isSome_iff_exists.1 srd2.some2; obtain ⟨c3srd2, hc3srd2⟩ := Option.isSome_iff_exists.1 srd2.some3; have hf0srd2 := srd2.free0; have hf1srd2 := srd2.free1; have hf2srd2 := srd2.free2; have hf3srd2 := srd2.free3; have hl0srd2 := srd2.lt)))
              | (go_at_call 31; have hgone := hxk2; clear hgone; refine (frac_calls _ cj 1 (by omega) (by omega) (by omega)).mono ?_; rintro e v9 ⟨nb9, zo9, A9, zc9, mb9, yo9, B9, yc9, rfl, hR9, hbk9, hbm9, hx19⟩; rw [divInt_over hdn.1] at hR9; have hxv9 : Ext v8 v9 := Ext.trans (by repeat (with_reducible first | exact Ext.refl _ | assumption | refine Ext.alloc ?_ _ | refine Ext.drew ?_ | (refine Ext.setOwn ?_ _ _ (by first | exact Nat.le_refl _ | exact hxk1.size | exact hxk2.size | exact hxk3.size | exact hxk4.size | exact Nat.le_succ _ | exact Nat.le_succ_of_le hxk1.size | exact Nat.le_succ_of_le hxk2.size | exact Nat.le_succ_of_le hxk3.size | exact Nat.le_succ_of_le hxk4.size)))) hx19; have hxk3 : Ext wc v9 := hxk2.trans hxv9; (first | (have sqe := ((Spot4.old2 v8 41).ext ((Ext.refl _).drew)).ext hx19; have sqf := ((Spot4.new2 v8 41).ext ((Ext.refl _).drew)).ext hx19; obtain ⟨c0sqe, hc0sqe⟩ := Option.isSome_iff_exists.1 sqe.some0; obtain ⟨c1sqe, hc1sqe⟩ := Option.isSome_iff_exists.1 sqe.some1; obtain ⟨c2sqe, hc2sqe⟩ := Option.isSome_iff_exists.1 sqe.some2; obtain ⟨c3sqe, hc3sqe⟩ := Option.isSome_iff_exists.1 sqe.some3; have hf0sqe := sqe.free0; have hf1sqe := sqe.free1; have hf2sqe := sqe.free2; have hf3sqe := sqe.free3; have hl0sqe := sqe.lt; obtain ⟨c0sqf, hc0sqf⟩ := Option.isSome_iff_exists.1 sqf.some0; obtain ⟨c1sqf, hc1sqf⟩ := Option.isSome_iff_exists.1 sqf.some1; obtain ⟨c2sqf, hc2sqf⟩ := Option.isSome_iff_exists.1 sqf.some2; obtain ⟨c3sqf, hc3sqf⟩ := Option.isSome_iff_exists.1 sqf.some3; have hf0sqf := sqf.free0; have hf1sqf := sqf.free1; have hf2sqf := sqf.free2; have hf3sqf := sqf.free3; have hl0sqf := sqf.lt) | (have sqe := ((Spot4.new v8 41).ext ((Ext.refl _).drew)).ext hx19; obtain ⟨c0sqe, hc0sqe⟩ := Option.isSome_iff_exists.1 sqe.some0; obtain ⟨c1sqe, hc1sqe⟩ := Option.isSome_iff_exists.1 sqe.some1; obtain ⟨c2sqe, hc2sqe⟩ := Option.isSome_iff_exists.1 sqe.some2; obtain ⟨c3sqe, hc3sqe⟩ := Option.isSome_iff_exists.1 sqe.some3; have hf0sqe := sqe.free0; have hf1sqe := sqe.free1; have hf2sqe := sqe.free2; have hf3sqe := sqe.free3; have hl0sqe := sqe.lt) | (have sqe := (Spot4.old2 v8 41).ext hx19; have sqf := (Spot4.new2 v8 41).ext hx19; obtain ⟨c0sqe, hc0sqe⟩ := Option.isSome_iff_exists.1 sqe.some0; obtain ⟨c1sqe, hc1sqe⟩ := Option.isSome_iff_exists.1 sqe.some1; obtain ⟨c2sqe, hc2sqe⟩ := Option.isSome_iff_exists.1 sqe.some2; obtain ⟨c3sqe, hc3sqe⟩ := Option.isSome_iff_exists.1 sqe.some3; have hf0sqe := sqe.free0; have hf1sqe := sqe.free1; have hf2sqe := sqe.free2; have hf3sqe := sqe.free3; have hl0sqe := sqe.lt; obtain ⟨c0sqf, hc0sqf⟩ := Option.isSome_iff_exists.1 sqf.some0; obtain ⟨c1sqf, hc1sqf⟩ := Option.isSome_iff_exists.1 sqf.some1; obtain ⟨c2sqf, hc2sqf⟩ := Option.isSome_iff_exists.1 sqf.some2; obtain ⟨c3sqf, hc3sqf⟩ := Option.isSome_iff_exists.1 sqf.some3; have hf0sqf := sqf.free0; have hf1sqf := sqf.free1; have hf2sqf := sqf.free2; have hf3sqf := sqf.free3; have hl0sqf := sqf.lt) | (have sqe := (Spot4.new v8 41).ext hx19; obtain ⟨c0sqe, hc0sqe⟩ := Option.isSome_iff_exists.1 sqe.some0; obtain ⟨c1sqe, hc1sqe⟩ := Option.isSome_iff_exists.1 sqe.some1; obtain ⟨c2sqe, hc2sqe⟩ := Option.isSome_iff_exists.1 sqe.some2; obtain ⟨c3sqe, hc3sqe⟩ := Option.isSome_iff_exists.1 sqe.some3; have hf0sqe := sqe.free0; have hf1sqe := sqe.free1; have hf2sqe := sqe.free2; have hf3sqe := sqe.free3; have hl0sqe := sqe.lt) | skip); (try (have sqa2 := sqa1.ext hxv9; obtain ⟨c0sqa2, hc0sqa2⟩ := Option.isSome_iff_exists.1 sqa2.some0; obtain ⟨c1sqa2, hc1sqa2⟩ := Option.isSome_iff_exists.1 sqa2.some1; obtain ⟨c2sqa2, hc2sqa2⟩ := Option.isSome_iff_exists.1 sqa2.some2; obtain ⟨c3sqa2, hc3sqa2⟩ := Option.isSome_iff_exists.1 sqa2.some3; have hf0sqa2 := sqa2.free0; have hf1sqa2 := sqa2.free1; have hf2sqa2 := sqa2.free2; have hf3sqa2 := sqa2.free3; have hl0sqa2 := sqa2.lt)); (try (have sqb2 := sqb1.ext hxv9; obtain ⟨c0sqb2, hc0sqb2⟩ := Option.isSome_iff_exists.1 sqb2.some0; obtain ⟨c1sqb2, hc1sqb2⟩ := Option.isSome_iff_exists.1 sqb2.some1; obtain ⟨c2sqb2, hc2sqb2⟩ := Option.isSome_iff_exists.1 sqb2.some2; obtain ⟨c3sqb2, hc3sqb2⟩ := Option.isSome_iff_exists.1 sqb2.some3; have hf0sqb2 := sqb2.free0; have hf1sqb2 := sqb2.free1; have hf2sqb2 := sqb2.free2; have hf3sqb2 := sqb2.free3; have hl0sqb2 := sqb2.lt)); (try (have sqc2 := sqc.ext hxv9; obtain ⟨c0sqc2, hc0sqc2⟩ := Option.isSome_iff_exists.1 sqc2.some0; obtain ⟨c1sqc2, hc1sqc2⟩ := Option.isSome_iff_exists.1 sqc2.some1; obtain ⟨c2sqc2, hc2sqc2⟩ := Option.isSome_iff_exists.1 sqc2.some2; obtain ⟨c3sqc2, hc3sqc2⟩ := Option.isSome_iff_exists.1 sqc2.some3; have hf0sqc2 := sqc2.free0; have hf1sqc2 := sqc2.free1; have hf2sqc2 := sqc2.free2; have hf3sqc2 := sqc2.free3; have hl0sqc2 := sqc2.lt)); (try (have sqd2 := sqd.ext hxv9; obtain ⟨c0sqd2, hc0sqd2⟩ := Option.isSome_iff_exists.1 sqd2.some0; obtain ⟨c1sqd2, hc1sqd2⟩ := Option.isSome_iff_exists.1 sqd2.some1; obtain ⟨c2sqd2, hc2sqd2⟩ := Option.isSome_iff_exists.1 sqd2.some2; obtain ⟨c3sqd2, hc3sqd2⟩ := Option.isSome_iff_exists.1 sqd2.some3; have hf0sqd2 := sqd2.free0; have hf1sqd2 := sqd2.free1; have hf2sqd2 := sqd2.free2; have hf3sqd2 := sqd2.free3; have hl0sqd2 := sqd2.lt)))
              | (go_at_call 31; have hgone := hxk1; clear hgone; refine (frac_calls _ ci 1 (by omega) (by omega) (by omega)).mono ?_; rintro e v8 ⟨nb8, zo8, A8, zc8, mb8, yo8, B8, yc8, rfl, hR8, hbk8, hbm8, hx18⟩; rw [divInt_over hdn.1] at hR8; have hxv8 : Ext v7 v8 := Ext.trans (by repeat (with_reducible first | exact Ext.refl _ | assumption | refine Ext.alloc ?_ _ | refine Ext.drew ?_ | (refine Ext.setOwn ?_ _ _ (by first | exact Nat.le_refl _ | exact hxk1.size | exact hxk2.size | exact hxk3.size | exact hxk4.size | exact Nat.le_succ _ | exact Nat.le_succ_of_le hxk1.size | exact Nat.le_succ_of_le hxk2.size | exact Nat.le_succ_of_le hxk3.size | exact Nat.le_succ_of_le hxk4.size)))) hx18; have hxk2 : Ext wc v8 := hxk1.trans hxv8; (first | (have sqc := ((Spot4.old2 v7 41).ext ((Ext.refl _).drew)).ext hx18; have sqd := ((Spot4.new2 v7 41).ext ((Ext.refl _).drew)).ext hx18; obtain ⟨c0sqc, hc0sqc⟩ := Option.isSome_iff_exists.1 sqc.some0; obtain ⟨c1sqc, hc1sqc⟩ := Option.isSome_iff_exists.1 sqc.some1; obtain ⟨c2sqc, hc2sqc⟩ := Option.isSome_iff_exists.1 sqc.some2; obtain ⟨c3sqc, hc3sqc⟩ := Option.isSome_iff_exists.1 sqc.some3; have hf0sqc := sqc.free0; have hf1sqc := sqc.free1; have hf2sqc := sqc.free2; have hf3sqc := sqc.free3; have hl0sqc := sqc.lt; obtain ⟨c0sqd, hc0sqd⟩ := Option.isSome_iff_exists.1 sqd.some0; obtain ⟨c1sqd, hc1sqd⟩ := Option.isSome_iff_exists.1 sqd.some1; obtain ⟨c2sqd, hc2sqd⟩ := Option.isSome_iff_exists.1 sqd.some2; obtain ⟨c3sqd, hc3sqd⟩ := Option.isSome_iff_exists.1 sqd.some3; have hf0sqd := sqd.free0; have hf1sqd := sqd.free1; have hf2sqd := sqd.free2; have hf3sqd := sqd.free3; have hl0sqd := sqd.lt) | (have sqc := ((Spot4.new v7 41).ext ((Ext.refl _).drew)).ext hx18; obtain ⟨c0sqc, hc0sqc⟩ := Option.isSome_iff_exists.1 sqc.some0; obtain ⟨c1sqc, hc1sqc⟩ := Option.isSome_iff_exists.1 sqc.some1; obtain ⟨c2sqc, hc2sqc⟩ := Option.isSome_iff_exists.1 sqc.some2; obtain ⟨c3sqc, hc3sqc⟩ := Option.isSome_iff_exists.1 sqc.some3; have hf0sqc := sqc.free0; have hf1sqc := sqc.free1; have hf2sqc := sqc.free2; have hf3sqc := sqc.free3; have hl0sqc := sqc.lt) | (have sqc := (Spot4.old2 v7 41).ext hx18; have sqd := (Spot4.new2 v7 41).ext hx18; obtain ⟨c0sqc, hc0sqc⟩ := Option.isSome_iff_exists.1 sqc.some0; obtain ⟨c1sqc, hc1sqc⟩ := Option.isSome_iff_exists.1 sqc.some1; obtain ⟨c2sqc, hc2sqc⟩ := Option.isSome_iff_exists.1 sqc.some2; obtain ⟨c3sqc, hc3sqc⟩ := Option.isSome_iff_exists.1 sqc.some3; have hf0sqc := sqc.free0; have hf1sqc := sqc.free1; have hf2sqc := sqc.free2; have hf3sqc := sqc.free3; have hl0sqc := sqc.lt; obtain ⟨c0sqd, hc0sqd⟩ := Option.isSome_iff_exists.1 sqd.some0; obtain ⟨c1sqd, hc1sqd⟩ := Option.isSome_iff_exists.1 sqd.some1; obtain ⟨c2sqd, hc2sqd⟩ := Option.isSome_iff_exists.1 sqd.some2; obtain ⟨c3sqd, hc3sqd⟩ := Option.isSome_iff_exists.1 sqd.some3; have hf0sqd := sqd.free0; have hf1sqd := sqd.free1; have hf2sqd := sqd.free2; have hf3sqd := sqd.free3; have hl0sqd := sqd.lt) | (have sqc := (Spot4.new v7 41).ext hx18; obtain ⟨c0sqc, hc0sqc⟩ := Option.isSome_iff_exists.1 sqc.some0; obtain ⟨c1sqc, hc1sqc⟩ := Option.isSome_iff_exists.1 sqc.some1; obtain ⟨c2sqc, hc2sqc⟩ := Option.isSome_iff_exists.1 sqc.some2; obtain ⟨c3sqc, hc3sqc⟩ := Option.isSome_iff_exists.1 sqc.some3; have hf0sqc := sqc.free0; have hf1sqc := sqc.free1; have hf2sqc := sqc.free2; have hf3sqc := sqc.free3; have hl0sqc := sqc.lt) | skip); (try (have sqa1 := sqa.ext hxv8; obtain ⟨c0sqa1, hc0sqa1⟩ := Option.isSome_iff_exists.1 sqa1.some0; obtain ⟨c1sqa1, hc1sqa1⟩ := Option.isSome_iff_exists.1 sqa1.some1; obtain ⟨c2sqa1, hc2sqa1⟩ := Option.isSome_iff_exists.1 sqa1.some2; obtain ⟨c3sqa1, hc3sqa1⟩ := Option.isSome_iff_exists.1 sqa1.some3; have hf0sqa1 := sqa1.free0; have hf1sqa1 := sqa1.free1; have hf2sqa1 := sqa1.free2; have hf3sqa1 := sqa1.free3; have hl0sqa1 := sqa1.lt)); (try (have sqb1 := sqb.ext hxv8; obtain ⟨c0sqb1, hc0sqb1⟩ := Option.isSome_iff_exists.1 sqb1.some0; obtain ⟨c1sqb1, hc1sqb1⟩ := Option.isSome_iff_exists.1 sqb1.some1; obtain ⟨c2sqb1, hc2sqb1⟩ := Option.isSome_iff_exists.1 sqb1.some2; obtain ⟨c3sqb1, hc3sqb1⟩ := Option.isSome_iff_exists.1 sqb1.some3; have hf0sqb1 := sqb1.free0; have hf1sqb1 := sqb1.free1; have hf2sqb1 := sqb1.free2; have hf3sqb1 := sqb1.free3; have hl0sqb1 := sqb1.lt)))
              | (go_at_call 30; refine (add_calls _ nb5 mb5 nb6 mb6 zo5 yo5 zo6 yo6 A5 zc5 B5 yc5 A6 zc6 B6 yc6 _ _ (hbC.num.ext (by repeat (with_reducible first | exact Ext.refl _ | assumption | refine Ext.alloc ?_ _ | refine Ext.drew ?_ | (refine Ext.setOwn ?_ _ _ (by first | exact Nat.le_refl _ | exact hxk1.size | exact hxk2.size | exact hxk3.size | exact hxk4.size | exact Nat.le_succ _ | exact Nat.le_succ_of_le hxk1.size | exact Nat.le_succ_of_le hxk2.size | exact Nat.le_succ_of_le hxk3.size | exact Nat.le_succ_of_le hxk4.size))))) (hbF.num.ext (by repeat (with_reducible first | exact Ext.refl _ | assumption | refine Ext.alloc ?_ _ | refine Ext.drew ?_ | (refine Ext.setOwn ?_ _ _ (by first | exact Nat.le_refl _ | exact hxk1.size | exact hxk2.size | exact hxk3.size | exact hxk4.size | exact Nat.le_succ _ | exact Nat.le_succ_of_le hxk1.size | exact Nat.le_succ_of_le hxk2.size | exact Nat.le_succ_of_le hxk3.size | exact Nat.le_succ_of_le hxk4.size))))) f1 f2).mono ?_; rintro e v7 ⟨nb7, zo7, A7, zc7, mb7, yo7, B7, yc7, rfl, hR7, hbk7, hbm7, hx17⟩; rw [divInt_add_same (by omega)] at hR7; have hxk1 : Ext wc v7 := Ext.trans (by repeat (with_reducible first | exact Ext.refl _ | assumption | refine Ext.alloc ?_ _ | refine Ext.drew ?_ | (refine Ext.setOwn ?_ _ _ (by first | exact Nat.le_refl _ | exact hxk1.size | exact hxk2.size | exact hxk3.size | exact hxk4.size | exact Nat.le_succ _ | exact Nat.le_succ_of_le hxk1.size | exact Nat.le_succ_of_le hxk2.size | exact Nat.le_succ_of_le hxk3.size | exact Nat.le_succ_of_le hxk4.size)))) hx17; (first | (have sqa := ((Spot4.old2 wc 41).ext ((Ext.refl _).drew)).ext hx17; have sqb := ((Spot4.new2 wc 41).ext ((Ext.refl _).drew)).ext hx17; obtain ⟨c0sqa, hc0sqa⟩ := Option.isSome_iff_exists.1 sqa.some0; obtain ⟨c1sqa, hc1sqa⟩ := Option.isSome_iff_exists.1 sqa.some1; obtain ⟨c2sqa, hc2sqa⟩ := Option.isSome_iff_exists.1 sqa.some2; obtain ⟨c3sqa, hc3sqa⟩ := Option.isSome_iff_exists.1 sqa.some3; have hf0sqa := sqa.free0; have hf1sqa := sqa.free1; have hf2sqa := sqa.free2; have hf3sqa := sqa.free3; have hl0sqa := sqa.lt; obtain ⟨c0sqb, hc0sqb⟩ := Option.isSome_iff_exists.1 sqb.some0; obtain ⟨c1sqb, hc1sqb⟩ := Option.isSome_iff_exists.1 sqb.some1; obtain ⟨c2sqb, hc2sqb⟩ := Option.isSome_iff_exists.1 sqb.some2; obtain ⟨c3sqb, hc3sqb⟩ := Option.isSome_iff_exists.1 sqb.some3; have hf0sqb := sqb.free0; have hf1sqb := sqb.free1; have hf2sqb := sqb.free2; have hf3sqb := sqb.free3; have hl0sqb := sqb.lt) | (have sqa := ((Spot4.new wc 41).ext ((Ext.refl _).drew)).ext hx17; obtain ⟨c0sqa, hc0sqa⟩ := Option.isSome_iff_exists.1 sqa.some0; obtain ⟨c1sqa, hc1sqa⟩ := Option.isSome_iff_exists.1 sqa.some1; obtain ⟨c2sqa, hc2sqa⟩ := Option.isSome_iff_exists.1 sqa.some2; obtain ⟨c3sqa, hc3sqa⟩ := Option.isSome_iff_exists.1 sqa.some3; have hf0sqa := sqa.free0; have hf1sqa := sqa.free1; have hf2sqa := sqa.free2; have hf3sqa := sqa.free3; have hl0sqa := sqa.lt) | (have sqa := (Spot4.old2 wc 41).ext hx17; have sqb := (Spot4.new2 wc 41).ext hx17; obtain ⟨c0sqa, hc0sqa⟩ := Option.isSome_iff_exists.1 sqa.some0; obtain ⟨c1sqa, hc1sqa⟩ := Option.isSome_iff_exists.1 sqa.some1; obtain ⟨c2sqa, hc2sqa⟩ := Option.isSome_iff_exists.1 sqa.some2; obtain ⟨c3sqa, hc3sqa⟩ := Option.isSome_iff_exists.1 sqa.some3; have hf0sqa := sqa.free0; have hf1sqa := sqa.free1; have hf2sqa := sqa.free2; have hf3sqa := sqa.free3; have hl0sqa := sqa.lt; obtain ⟨c0sqb, hc0sqb⟩ := Option.isSome_iff_exists.1 sqb.some0; obtain ⟨c1sqb, hc1sqb⟩ := Option.isSome_iff_exists.1 sqb.some1; obtain ⟨c2sqb, hc2sqb⟩ := Option.isSome_iff_exists.1 sqb.some2; obtain ⟨c3sqb, hc3sqb⟩ := Option.isSome_iff_exists.1 sqb.some3; have hf0sqb := sqb.free0; have hf1sqb := sqb.free1; have hf2sqb := sqb.free2; have hf3sqb := sqb.free3; have hl0sqb := sqb.lt) | (have sqa := (Spot4.new wc 41).ext hx17; obtain ⟨c0sqa, hc0sqa⟩ := Option.isSome_iff_exists.1 sqa.some0; obtain ⟨c1sqa, hc1sqa⟩ := Option.isSome_iff_exists.1 sqa.some1; obtain ⟨c2sqa, hc2sqa⟩ := Option.isSome_iff_exists.1 sqa.some2; obtain ⟨c3sqa, hc3sqa⟩ := Option.isSome_iff_exists.1 sqa.some3; have hf0sqa := sqa.free0; have hf1sqa := sqa.free1; have hf2sqa := sqa.free2; have hf3sqa := sqa.free3; have hl0sqa := sqa.lt) | skip))))
                all_goals
                  have e1 := hx17.size
                  have e2 := hx18.size
                  have e3 := hx19.size
                  have e4 := hx20.size
                  have l1 := hR1.num.digs.lt
                  have l2 := hR1.den.digs.lt
                  have l3 := hR2.num.digs.lt
                  have l4 := hR2.den.digs.lt
                  try simp only [World.size_drew, World.size_alloc] at e1 e2 e3 e4 hbk1 hbm1 hbk2 hbm2
                  go_wp2_with fail
                  go_meet
                  refine ⟨_, _, rfl, rfl, ?_⟩
                  with_reducible first
                    | refine TwoQ.stored ?_ ?_ ?_ ?_ ?_ hR1 hR2 ?_ ?_ hxk4
                    | refine TwoQ.half _ ?_ ?_ hR1 hR2 ?_ ?_ hxk4
                    | refine TwoQ.swap (TwoQ.half _ ?_ ?_ hR2 hR1 ?_ ?_ hxk4)
                    | refine TwoQ.both _ hR1 hR2 ?_ ?_ hxk4
                    | refine TwoQ.swap (TwoQ.both _ hR2 hR1 ?_ ?_ hxk4)
                  all_goals first
                    | assumption
                    | omega
                    | (refine ⟨?_, ?_, ?_, ?_⟩ <;> intro hA a ha <;> first
                        | (have g1 := hbk1 a ha; have g2 := l1 hA a ha; omega)
                        | (have g1 := hbm1 a ha; have g2 := l2 hA a ha; omega)
                        | (have g1 := hbk2 a ha; have g2 := l3 hA a ha; omega)
                        | (have g1 := hbm2 a ha; have g2 := l4 hA a ha; omega))
              case rest =>
              rename World => wd
              obtain ⟨P, T, rfl, rfl, hT⟩ := hcut
              obtain ⟨nb7, zo7, A7, zc7, mb7, yo7, B7, yc7, nb8, zo8, A8, zc8, mb8, yo8, B8, yc8, -, -, -, hbP, hbT, -, -, hxwd⟩ := hT
              have f3 : Fine (Rat.divInt z (2 * d)) := fine_small (by omega) (by omega) (by omega)
              have f4 : Fine (Rat.divInt (2 * (xi + xj) - z) (2 * d)) := fine_small (by omega) (by omega) (by omega)
              replace hbC := hbC.ext hxwd
              replace hbF := hbF.ext hxwd
              have hxsd := hxwc.trans hxwd
              have hk1 := fun W h h' => cmp_calls W nb7 mb7 nb5 mb5 zo7 yo7 zo5 yo5 A7 zc7 B7 yc7 A5 zc5 B5 yc5 (Rat.divInt z (2 * d)) (Rat.divInt xi d) h h' f3 f1
              have hk2 := fun W h h' => cmp_calls W nb8 mb8 nb6 mb6 zo8 yo8 zo6 yo6 A8 zc8 B8 yc8 A6 zc6 B6 yc6 (Rat.divInt (2 * (xi + xj) - z) (2 * d)) (Rat.divInt xj d) h h' f4 f2
              have hq1 := cmpQ_same2 (x := z) (y := xi) hdn.1
              have hq2 := cmpQ_same2 (x := 2 * (xi + xj) - z) (y := xj) hdn.1
              clear f1 f2 f3 f4 hc1' hc2' hz
              by_cases hzz : z = 2 * xi
              · have HOF : Hid (offP xs l d i j = false) := Lib.hid (by rw [HO.out, hzz]; simp)
                rw [hq1.2 hzz] at hk1
                rw [hq2.2 (by omega)] at hk2
                clear hq1 hq2 HO hzz
                obtain ⟨a0, a1, a2, a3, al⟩ := id hbP.box
                obtain ⟨p0, p1, p2, p3, pl⟩ := id hbC.box
                go_wp2_with fail
                refine (hk1 _ hbP.num hbC.num).mono ?_
                rintro e v1 ⟨rfl, hxe⟩
                clear a0 a1 a2 a3 al p0 p1 p2 p3 pl hk1
                replace hbT := hbT.ext hxe
                replace hbF := hbF.ext hxe
                obtain ⟨a0, a1, a2, a3, al⟩ := id hbT.box
                obtain ⟨p0, p1, p2, p3, pl⟩ := id hbF.box
                go_wp2_with fail
                refine (hk2 _ hbT.num hbF.num).mono ?_
                rintro e v2 ⟨rfl, hxf⟩
                clear a0 a1 a2 a3 al p0 p1 p2 p3 pl hk2
                go_wp2_with fail
                go_roundg (xs.length - j)
                case measure => omega
                case rel => exact ⟨j + 1, by omega, by omega, by simp, by omega, Lib.hid (fun a b h1 h2 h3 => by
                  by_cases e : a = i ∧ b = j
                  · obtain ⟨rfl, rfl⟩ := e; exact HOF.out
                  · exact HG.out a b h1 h2 (by omega)), ((hx4.trans hxsd).trans hxe).trans hxf⟩
              · have HOF : Hid (offP xs l d i j = true) := Lib.hid (by rw [HO.out]; simp [hzz])
                obtain ⟨ca, hca⟩ : ∃ ca, cmpQ (Rat.divInt z (2 * d)) (Rat.divInt xi d) = ca := ⟨_, rfl⟩
                rw [hca] at hq1 hk1
                have hcb : (ca != 0) = true := by
                  have : ca ≠ 0 := fun h => hzz (hq1.1 h)
                  simpa using this
                clear hca hq1 hq2 hk2 HO hzz
                obtain ⟨a0, a1, a2, a3, al⟩ := id hbP.box
                obtain ⟨p0, p1, p2, p3, pl⟩ := id hbC.box
                go_wp2_with fail
                refine (hk1 _ hbP.num hbC.num).mono ?_
                rintro e v1 ⟨rfl, hxe⟩
                clear a0 a1 a2 a3 al p0 p1 p2 p3 pl hk1
                have hx0e := (((hx13.trans hx).trans hx4).trans hxsd).trans hxe
                go_wp2_with fail
                go_ret2
                refine .inr (.inr ⟨HP.out, HS.out, i, j, by omega, by omega, HG.out, HOF.out, _, rfl, ?_, ?_⟩)
                · exact (own_two _ _ _ _).rebase hx0e.size
                · exact hx0e.trans ((Ext.refl _).alloc _)
            · obtain rfl : j = xs.length := by omega
              go_wp2_with fail
              go_roundg (xs.length - (i + 1))
              case measure => omega
              case rel => exact ⟨i + 1, by omega, by simp, by omega, Lib.hid (fun a b h1 h2 h3 => by
                rcases Nat.lt_or_ge a i with h4 | h4
                · exact HF.out a b h1 h2 (.inl h4)
                · exact HG.out a b h1 h2 (.inr ⟨by omega, h2⟩)), hx3s⟩
        · obtain rfl : i = xs.length := by omega
          go_wp2_with fail
          go_ret2
          exact .inr (.inl ⟨HP.out, HS.out, HF.out, rfl, hx13.trans hx⟩)
end Go.Proofs.Ytcngecibljgndaa
