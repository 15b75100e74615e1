/- part: a number of Parts as a fraction. -/
import Derived.Test.YtcngecibljgndaaMBJ
import Derived.Test.YtcngecibljgndaaMQPD
import Derived.Test.YtcngecibljgndaaMQTA
import Derived.Test.YtcngecibljgndaaMQS
namespace Go.Proofs.Ytcngecibljgndaa
open Go.RowKit Go.Shelf

theorem fine_divInt {n d : Int} (hd : d ≠ 0) (hn : many n.natAbs ≤ 400) (hm : many d.natAbs ≤ 400) : Fine (Rat.divInt n d) := by
  have key : ∀ {x y c : Nat}, x ≤ y → many y ≤ c → many x ≤ c := fun hxy hy => many_le (Nat.lt_of_le_of_lt hxy (Nat.lt_of_lt_of_le (lt_many _) (Nat.pow_le_pow_right (by omega) hy)))
  refine ⟨key ?_ hn, key ?_ hm⟩
  · rw [Rat.num_divInt]
    refine Nat.le_trans (Int.natAbs_ediv_le_natAbs _ _) ?_
    rw [Int.natAbs_mul, Int.natAbs_sign]
    simp [hd]
  · rw [Rat.den_divInt, if_neg hd]
    exact Nat.div_le_self _ _
theorem fine_small {n d : Int} (hd : d ≠ 0) (hn : n.natAbs ≤ 1000000000000000000) (hm : d.natAbs ≤ 1000000000000000000) : Fine (Rat.divInt n d) := fine_divInt hd (Nat.le_trans (many_le (i := 5) (by omega)) (by omega)) (Nat.le_trans (many_le (i := 5) (by omega)) (by omega))
theorem p3 {w w' : World} {B lb lo : Nat} {u v x : Value} (h0 : w.cell? ⟨B, 0, none⟩ = some u) (h1 : w.cell? ⟨B, 1, none⟩ = some v) (h2 : w.cell? ⟨lb, lo, none⟩ = some x) (l0 : B < w.heap.size) (l1 : lb < w.heap.size) (hx : Ext w w') : (w'.cell? ⟨B, 0, none⟩ = some u) ∧ (w'.cell? ⟨B, 1, none⟩ = some v) ∧ (w'.cell? ⟨lb, lo, none⟩ = some x) :=
  ⟨(hx.cell (p := ⟨B, 0, none⟩) l0).trans h0, (hx.cell (p := ⟨B, 1, none⟩) l0).trans h1, (hx.cell (p := ⟨lb, lo, none⟩) l1).trans h2⟩
end Go.Proofs.Ytcngecibljgndaa

/- Nucleolus: the walk, where it says yes. -/
namespace Go.Proofs.Ytcngecibljgndaa
open Go.RowKit Go.Shelf

/-- The tableau of sets is made as it should be. -/
def TabledOK : Prop := ∀ (w : World) (n : Nat) (ao : Option Addr) (cap : Nat) (ss : List Int), IntsIn w ao ss → ss.length ≤ 1000 → (1 ≤ n ∧ n ≤ 7) → Upto 127 ss →
  Calls Try.prog 66 #[.int .i64 n, .slice ao ss.length cap] w (fun e w' => ∃ A : Ats, e = .returned (.pointer (some ⟨A.t, 0, none⟩)) ∧ TabAt w' w.heap.size A (tabK n ss n) ∧ Ext w w')

theorem setsTo_succ_yes (l : List Int) (x : Int) (k : Nat) (h : (ith l k == x) = true) : setsTo l x (k + 1) = setsTo l x k ++ [(k : Int) + 1] := by
  unfold setsTo
  rw [List.range_succ, List.filter_append, List.map_append]
  simp [h]
theorem setsTo_succ_no (l : List Int) (x : Int) (k : Nat) (h : (ith l k == x) = false) : setsTo l x (k + 1) = setsTo l x k := by
  unfold setsTo
  rw [List.range_succ, List.filter_append, List.map_append]
  simp [h]
theorem setsTo_zero (l : List Int) (x : Int) : setsTo l x 0 = [] := rfl
theorem setsTo_upto (l : List Int) (x : Int) (k : Nat) (hk : k ≤ 126) : Upto 127 (setsTo l x k) := by
  intro y hy
  simp only [setsTo, List.mem_map, List.mem_filter, List.mem_range] at hy
  obtain ⟨i, ⟨hi, _⟩, rfl⟩ := hy
  omega
theorem setsTo_length (l : List Int) (x : Int) (k : Nat) : (setsTo l x k).length ≤ k := by
  rw [setsTo, List.length_map]
  exact Nat.le_trans (List.length_filter_le _ _) (by simp)
theorem Upto.append {m : Int} {a b : List Int} (ha : Upto m a) (hb : Upto m b) : Upto m (a ++ b) := fun x hx => (List.mem_append.1 hx).elim (ha x) (hb x)
theorem levelB_true {f n had : Nat} {ss : List Int} (h : levelB f n ss had = true) : ∃ T, readyP f (tabK n ss n) = some T ∧ T.sm = true ∧ T.sets = ss.length ∧ greatAll f (ss.length - had) had T = true := by
  unfold levelB at h
  cases hr : readyP f (tabK n ss n) with
  | none => rw [hr] at h; simp at h
  | some T =>
    rw [hr] at h
    simp only [Bool.and_eq_true, decide_eq_true_eq] at h
    exact ⟨T, rfl, h.1.1, h.1.2, h.2⟩
set_option maxRecDepth 100000 in
set_option maxHeartbeats 4000000 in
theorem nucleolus_calls (hT : TabledOK) (w : World) (E : Int) (ao lo : Option Addr) (cap lcap : Nat) (xs l : List Int) (d : Int) (f : Nat) (hI : IntsIn w ao xs) (hJ : IntsIn w lo l) (hP : IsProb E xs) (h2 : 2 ≤ xs.length) (hS : IsSh E xs l d) (hB : levelsB f xs.length (excP E xs l d) (levelsOf (excP E xs l d)) [] = true) :
    Calls Try.prog 25 #[.int .i64 E, .slice ao xs.length cap, .agg #[.slice lo l.length lcap, .int .i64 d]] w fun e w' => e = .returned (.tuple #[.bool true, .int .i64 0]) ∧ Ext w w' := by
  have HP := Lib.hid hP
  have HS := Lib.hid hS
  have HB := Lib.hid hB
  have hprob := (probB_true E xs).2 hP
  have his := isB_yes hS
  have hE := hP.estate
  have hl7 := hP.seven
  have hl1 := hP.one
  have hll : l.length ≤ 7 := by rw [hS.len]; exact hl7
  have hxl : (excP E xs l d).length ≤ 126 := by
    have : 2 ^ xs.length ≤ 2 ^ 7 := Nat.pow_le_pow_right (by omega) hl7
    simp only [excP, List.length_map, List.length_range]; omega
  have hel : 2 ^ xs.length - 2 = (excP E xs l d).length := by simp [excP]
  clear hP hS hB
  go_enter Try.func25, Try.ntmps25
  go_wp2_with fail
  obtain ⟨bx, hbx⟩ : ∃ bx, bx = w.heap.size := ⟨_, rfl⟩
  have hx1 : Ext w (w.alloc (Obj.cells #[.slice lo l.length lcap, .int .i64 d] 26)) := (by repeat (first | exact Ext.refl _ | assumption | refine Ext.alloc ?_ _ | refine Ext.drewN ?_ _ | refine Ext.drew ?_))
  have hc0 : (w.alloc (Obj.cells #[.slice lo l.length lcap, .int .i64 d] 26)).cell? ⟨bx, 0, none⟩ = some (.slice lo l.length lcap) := by subst hbx; simp [go_sem]
  have hc1 : (w.alloc (Obj.cells #[.slice lo l.length lcap, .int .i64 d] 26)).cell? ⟨bx, 1, none⟩ = some (.int .i64 d) := by subst hbx; simp [go_sem]
  have hbl : bx < (w.alloc (Obj.cells #[.slice lo l.length lcap, .int .i64 d] 26)).heap.size := by simp [hbx]
  generalize (w.alloc (Obj.cells #[.slice lo l.length lcap, .int .i64 d] 26)) = w1 at *
  rw [← hbx]
  clear hbx
  refine (problem_calls _ E ao cap xs (hI.ext hx1) (by omega)).mono ?_
  rintro e w2 ⟨rfl, hx2⟩
  rw [hprob]
  simp only [errI, if_true]
  have hx02 := hx1.trans hx2
  have hc02 := (hx2.cell (p := ⟨bx, 0, none⟩) hbl).trans hc0
  have hc12 := (hx2.cell (p := ⟨bx, 1, none⟩) hbl).trans hc1
  have hbl2 := Nat.lt_of_lt_of_le hbl hx2.size
  clear hc0 hc1 hbl
  go_wp2_with fail
  refine (is_calls _ E ao lo cap lcap xs l d (hI.ext hx02) (hJ.ext hx02) hl7 HP.out.claims hE (by omega)).mono ?_
  rintro e w3 ⟨rfl, hx3⟩
  rw [his]
  have hx03 := hx02.trans hx3
  have hc03 := (hx3.cell (p := ⟨bx, 0, none⟩) hbl2).trans hc02
  have hc13 := (hx3.cell (p := ⟨bx, 1, none⟩) hbl2).trans hc12
  clear hc02 hc12 hbl2
  go_wp2_with fail
  refine (excesses_calls _ E ao lo cap lcap xs l d (hI.ext hx03) (hJ.ext hx03) HP.out HS.out).mono ?_
  rintro e w4 ⟨v4, rfl, ho4, hx4⟩
  have hx04 := hx03.trans hx4
  clear hc03 hc13
  obtain ⟨xl, hxe⟩ : ∃ xl, xl = excP E xs l d := ⟨_, rfl⟩
  rw [← hxe] at ho4 hxl hel
  have HXE := Lib.hid hxe
  have HB2 : Hid (levelsB f xs.length xl (levelsOf xl) [] = true) := Lib.hid (by rw [hxe]; exact HB.out)
  clear hxe
  have hx2l : 2 ≤ xl.length := by
    have : 2 ^ 2 ≤ 2 ^ xs.length := Nat.pow_le_pow_right (by omega) h2
    omega
  have how := ho4.shape (by omega)
  rw [ints_length, Nat.div_one] at how
  rcases how with ⟨_, h⟩ | ⟨g4, o4, c4, rfl, hg41, hg42, -, -⟩
  · have := congrArg List.length h
    rw [ints_length] at this
    simp only [List.length_nil] at this; omega
  have hI4 := ho4.intsIn
  clear ho4 hel
  go_wp2_with fail
  refine (values_calls _ _ _ _).mono ?_
  rintro e w5 ⟨rfl, hw5⟩
  have hx5 : Ext w4 w5 := by rw [hw5]; exact (by repeat (first | exact Ext.refl _ | assumption | refine Ext.alloc ?_ _ | refine Ext.drewN ?_ _ | refine Ext.drew ?_))
  have hb5 : w4.heap.size < w5.heap.size := by rw [hw5]; simp
  have hc5 : w5.cell? ⟨w4.heap.size, 0, none⟩ = some (.slice (some ⟨g4, o4, none⟩) xl.length c4) := by rw [hw5]; simp [go_sem]
  clear hw5
  go_wp2_with fail
  refine (sorts w5 _ c4 w4.heap.size xl (hI4.ext hx5) (by omega) hb5 hc5).mono ?_
  rintro e w6 ⟨v6, rfl, ho6, hx6⟩
  have hsl := sortI_length xl
  have how := ho6.shape (by omega)
  rw [ints_length, Nat.div_one, hsl] at how
  rcases how with ⟨_, h⟩ | ⟨g6, o6, c6, rfl, hg61, hg62, hc6, -⟩
  · have := congrArg List.length h
    rw [ints_length, hsl] at this
    simp only [List.length_nil] at this; omega
  have hcc := compact_calls w6 _ g6 o6 c6 (sortI xl) (by rw [hsl]; exact ho6) (by omega) (by omega)
  rw [hsl] at hcc
  go_wp2_with fail
  refine hcc.mono ?_
  rintro e w7 ⟨rfl, ho7, hg7⟩
  have hcl := compact_le (sortI xl)
  have hx57 : Ext w5 w7 := hx6.onto hg7 (fun q hq => by simp only [Option.some.injEq] at hq; omega)
  go_wp2_with fail
  refine (reverse_calls w7 _ g6 o6 c6 (Lib.compact (sortI xl)) ho7 (by omega)).mono ?_
  rintro e w8 ⟨rfl, ho8, hg8⟩
  have hx58 : Ext w5 w8 := hx57.onto hg8 (fun q hq => by simp only [Option.some.injEq] at hq; omega)
  have hx48 := hx5.trans hx58
  have hx08 := hx04.trans hx48
  have hI8 := hI4.ext hx48
  have hLv : IntsIn w8 (some ⟨g6, o6, none⟩) (levelsOf xl) := ho8.intsIn
  have hll2 : (levelsOf xl).length = (Lib.compact (sortI xl)).length := by simp [levelsOf]
  rw [← hll2]
  have hL126 : (levelsOf xl).length ≤ 126 := by omega
  clear hcc ho7 ho8 hg7 hg8 hx57 hx58 hx48 hx5 hx6 hb5 hc5 ho6 hcl hI4
  obtain ⟨L, hL⟩ : ∃ L, L = levelsOf xl := ⟨_, rfl⟩
  rw [← hL] at hLv hll2 hL126 HB2 ⊢
  clear hL hll2
  obtain ⟨i0, hi, hz0, hz1, hz2⟩ := info_parts info_int
  obtain ⟨W, hW1, hW2⟩ : ∃ W, W ≤ w8.heap.size ∧ w8.heap.size ≤ W := ⟨_, Nat.le_refl _, Nat.le_refl _⟩
  go_wp2_with fail
  go_loopw [11, 44] (fun sv iv wr => ∃ (k : Nat) (ss : List Int), k ≤ L.length ∧ iv = .int .i64 k ∧ Ext w8 wr ∧ Own wr W 1 sv (ints ss) ∧ ss.length ≤ 1000 ∧ Hid (levelsB f xs.length xl (L.drop k) ss = true ∧ Upto 127 ss)) (fun _ iv _ => L.length - (intOf iv).toNat)
  case atStart => exact ⟨0, [], by omega, rfl, Ext.refl _, Own.nil _ _ _, by simp, Lib.hid ⟨HB2.out, fun x hx => by simp at hx⟩⟩
  case round =>
    obtain ⟨k, ss, hk, rfl, hx, ho, hss, HK⟩ := hrel
    by_cases hlt : k < L.length
    · obtain ⟨lb, lf, hlo, hlb, hlc⟩ := hLv.ext hx k hlt
      simp only [Option.some.injEq, Addr.mk.injEq, and_true] at hlo
      obtain ⟨rfl, rfl⟩ := hlo
      obtain ⟨so, sc, rfl, -, -⟩ := ho.intsShape
      have hKB := HK.out.1
      rw [drop_cons' L k hlt, levelsB, Bool.and_eq_true] at hKB
      have HKB := Lib.hid hKB
      clear hKB
      obtain ⟨x, hxx⟩ : ∃ x, x = ith L k := ⟨_, rfl⟩
      rw [← hxx] at hlc HKB
      clear hxx
      go_wp2_with fail
      go_loopw [11, 52] (fun sv iv wz => ∃ j : Nat, j ≤ xl.length ∧ iv = .int .i64 j ∧ Ext w8 wz ∧ Own wz W 1 sv (ints (ss ++ setsTo xl x j))) (fun _ iv _ => xl.length - (intOf iv).toNat)
      case atStart => exact ⟨0, by omega, rfl, hx, by rw [setsTo_zero, List.append_nil]; exact ho⟩
      case round =>
        rename World => wz
        clear ho hx
        obtain ⟨j, hj, rfl, hxz, hoz⟩ := hrel
        have hWz : W ≤ wz.heap.size := by have := hxz.size; omega
        by_cases hlt2 : j < xl.length
        · obtain ⟨eb, ef, heo, heb, hec⟩ := hI8.ext hxz j hlt2
          simp only [Option.some.injEq, Addr.mk.injEq, and_true] at heo
          obtain ⟨rfl, rfl⟩ := heo
          have hsl2 : (ss ++ setsTo xl x j).length ≤ 1126 := by rw [List.length_append]; have := setsTo_length xl x j; omega
          have hlow := hoz.lt
          cases hb : (ith xl j == x) with
          | true =>
            have HS1 := Lib.hid (setsTo_succ_yes xl x j hb)
            go_wp2_with (at_builtin; refine wpList_append_Own _ rfl _ _ 22 rfl 3 i0 (.int .i64 0) 1 8 Try.underlying22 hi hz0 hz1 hz2 rfl (by omega) W _ _ rfl (Own.ext hoz ((Ext.refl _).alloc _)) (by first | omega | (simp; omega)) _ 1 1 [.int .i64 (((j : Int) + 1) : Int)] rfl rfl (one_cell _ _ _ _ (by first | rfl | simp)) (by simp [Value.oneCell']) (by rw [ints_length]; unfold maxLen; simp only [List.length_cons, List.length_nil]; omega) (by rw [ints_length]; simp only [List.length_cons, List.length_nil]; omega) ?_; intro v' w5 ho5 hg5 hb5)
            rw [ints_snoc, List.append_assoc, ← HS1.out] at ho5
            exact ⟨⟨j + 1, by omega, rfl, (hxz.alloc _).onto hg5 (fun q hq => by have := (hlow q hq).1; omega), ho5⟩, by simp only [intOf]; omega⟩
          | false =>
            have HS1 := Lib.hid (setsTo_succ_no xl x j hb)
            go_wp2_with fail
            exact ⟨⟨j + 1, by omega, rfl, hxz, by rw [HS1.out]; exact hoz⟩, by simp only [intOf]; omega⟩
        · obtain rfl : j = xl.length := by omega
          obtain ⟨s2, hs2⟩ : ∃ s2, s2 = ss ++ setsTo xl x xl.length := ⟨_, rfl⟩
          have HLV := Lib.hid (levelB_true HKB.out.1)
          have HRS := Lib.hid HKB.out.2
          rw [← hs2] at HLV HRS hoz
          have hs2l : s2.length = ss.length + (setsTo xl x xl.length).length := by rw [hs2, List.length_append]
          have HU2 : Hid (Upto 127 s2) := Lib.hid (by rw [hs2]; exact HK.out.2.append (setsTo_upto xl x _ hxl))
          clear hs2
          obtain ⟨T, HRD, HSM, HST, HGA⟩ : ∃ T, Hid (readyP f (tabK xs.length s2 xs.length) = some T) ∧ Hid T.Sm ∧ Hid (T.sets = s2.length) ∧ Hid (greatAll f (s2.length - ss.length) ss.length T = true) := by
            obtain ⟨T, a1, a2, a3, a4⟩ := HLV.out
            exact ⟨T, Lib.hid a1, Lib.hid (Tab.sm_iff a2), Lib.hid a3, Lib.hid a4⟩
          have hs2k : s2.length ≤ 1000 := by rw [← HST.out]; exact HSM.out.sets
          obtain ⟨so2, sc2, rfl, hSI2, -⟩ := hoz.intsShape
          have hss2 : ss.length ≤ s2.length := by omega
          clear HLV hs2l
          go_wp2_with fail
          refine (hT wz xs.length so2 sc2 s2 hSI2 hs2k ⟨hl1, hl7⟩ HU2.out).mono ?_
          rintro e w9 ⟨A, rfl, hTA, hx9⟩
          have hse : (tabK xs.length s2 xs.length).sets ≤ 1000 := hs2k
          have hsn : (tabK xs.length s2 xs.length).n ≤ 100 := by show xs.length ≤ 100; omega
          go_wp2_with fail
          refine (ready_calls wz w9 wz.heap.size A (tabK xs.length s2 xs.length) T f hTA hx9 (Nat.le_refl _) hse hsn HRD.out).mono ?_
          rintro e w10 ⟨rfl, hT10, hx10⟩
          clear hTA hse hsn
          go_wp2_with fail
          go_loopw [18] (fun iv wy => ∃ (q : Nat) (A2 : Ats) (T2 : Tab), q ≤ s2.length ∧ iv = .int .i64 q ∧ A2.t = A.t ∧ TabAt wy wz.heap.size A2 T2 ∧ Ext wz wy ∧ Hid (T2.Sm ∧ T2.sets = s2.length ∧ greatAll f (s2.length - q) q T2 = true)) (fun iv _ => s2.length - (intOf iv).toNat)
          case atStart => exact ⟨ss.length, A, T, hss2, rfl, rfl, hT10, hx10, Lib.hid ⟨HSM.out, HST.out, HGA.out⟩⟩
          case round =>
            rename World => wy
            clear hT10 hx10
            obtain ⟨q, A2, T2, hq, rfl, hAt, hTy, hxy, HG2⟩ := hrel
            by_cases hlt3 : q < s2.length
            · have hga := HG2.out.2.2
              rw [show s2.length - q = (s2.length - (q + 1)) + 1 by omega, greatAll] at hga
              cases hgp : greatestP f q T2 with
              | none => rw [hgp] at hga; simp at hga
              | some r =>
                obtain ⟨T3, ws⟩ := r
                rw [hgp] at hga
                simp only [Bool.and_eq_true, decide_eq_true_eq] at hga
                have HGP := Lib.hid hgp
                have HGB := Lib.hid hga
                have hcnd := hgp
                unfold greatestP at hcnd
                have H3 : Hid (T3.Sm ∧ T3.sets = T2.sets ∧ ws.length = T2.sets) := by
                  cases hr : runP T2.sets f { T2 with goal := goal0 T2 q } with
                  | none => rw [hr] at hcnd; simp at hcnd
                  | some T4 =>
                    rw [hr] at hcnd
                    simp only [] at hcnd
                    split at hcnd
                    · rename_i hc
                      simp only [Option.some.injEq, Prod.mk.injEq] at hcnd
                      obtain ⟨rfl, rfl⟩ := hcnd
                      exact Lib.hid ⟨Tab.sm_iff hc.1, hc.2.1, by rw [weighP_length]; exact hc.2.1⟩
                    · simp at hcnd
                clear hgp hga hcnd
                have hgc := greatest_calls wz wy wz.heap.size A2 T2 T3 ws f q hTy HG2.out.1 hxy (Nat.le_refl _) hxy.size (by rw [HG2.out.2.1]; exact hlt3) HGP.out
                rw [hAt] at hgc
                go_wp2_with fail
                refine hgc.mono ?_
                rintro e w11 ⟨gb, g, off, wcap, rfl, hT11, hWS, hx11⟩
                have hwl : ws.length = s2.length := by rw [H3.out.2.2, HG2.out.2.1]
                obtain ⟨b9, f9, hb9, hb9l, hb9c⟩ := hWS q (by omega)
                simp only [Option.some.injEq, Addr.mk.injEq, and_true] at hb9
                obtain ⟨rfl, rfl⟩ := hb9
                have hz : (ith ws q == 0) = false := by have := HGB.out.1; simpa using this
                have HWL := Lib.hid hwl
                rw [hwl]
                clear hwl hgc
                go_wp2_with fail
                exact ⟨⟨q + 1, { A2 with gb := gb }, T3, by omega, rfl, hAt, hT11, hx11, Lib.hid ⟨H3.out.1, by rw [H3.out.2.1]; exact HG2.out.2.1, HGB.out.2⟩⟩, by simp only [intOf]; omega⟩
            · obtain rfl : q = s2.length := by omega
              go_wp2_with fail
              exact ⟨⟨k + 1, s2, by omega, rfl, hxz.trans hxy, hoz.ext hxy, hs2k, Lib.hid ⟨HRS.out, HU2.out⟩⟩, by simp only [intOf]; omega⟩
    · obtain rfl : k = L.length := by omega
      go_wp2_with fail
      go_ret2
      exact ⟨rfl, hx08.trans hx⟩
end Go.Proofs.Ytcngecibljgndaa
