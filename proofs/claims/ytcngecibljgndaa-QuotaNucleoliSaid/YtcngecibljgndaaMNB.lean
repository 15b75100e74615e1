/- Nucleolus, of two claimants or more: the walk. -/
import Derived.Test.YtcngecibljgndaaMBK
import Derived.Test.YtcngecibljgndaaMQU
import Derived.Test.YtcngecibljgndaaMQT
namespace Go.Proofs.Ytcngecibljgndaa
open Go.RowKit Go.Shelf

def In1 (n : Nat) (ss : List Int) : Prop := ∀ x ∈ ss, 1 ≤ x ∧ x < 2 ^ n
theorem setsTo_in1 {n : Nat} (l : List Int) (x : Int) (k : Nat) (hk : k + 2 ≤ 2 ^ n) : In1 n (setsTo l x k) := by
  intro y hy
  simp only [setsTo, List.mem_map, List.mem_filter, List.mem_range] at hy
  obtain ⟨i, ⟨hi, _⟩, rfl⟩ := hy
  refine ⟨by omega, ?_⟩
  have : ((i + 1 : Nat) : Int) < ((2 ^ n : Nat) : Int) := by omega
  simpa using this
theorem In1.append {n : Nat} {a b : List Int} (ha : In1 n a) (hb : In1 n b) : In1 n (a ++ b) := fun x hx => (List.mem_append.1 hx).elim (ha x) (hb x)
theorem In1.bit {n : Nat} {ss : List Int} (h : In1 n ss) {k : Nat} (hk : k < ss.length) : ∃ r, r < n ∧ inB (ith ss k) r = 1 := by
  have h1 := h (ith ss k) (by rw [show ith ss k = ss[k] by simp [ith, hk]]; exact List.getElem_mem _)
  obtain ⟨m, hm⟩ : ∃ m : Nat, ith ss k = m := ⟨(ith ss k).toNat, by omega⟩
  rw [hm] at h1 ⊢
  have h2 : m < 2 ^ n := by
    have h3 : ((2 ^ n : Nat) : Int) = (2 : Int) ^ n := by simp
    have := h1.2
    omega
  obtain ⟨r, hr⟩ := Nat.exists_testBit_of_ne_zero (x := m) (by omega)
  refine ⟨r, Classical.byContradiction fun hn => ?_, by unfold inB; rw [if_pos (by simpa using hr)]⟩
  have h4 : 2 ^ n ≤ 2 ^ r := Nat.pow_le_pow_right (by omega) (by omega)
  rw [Nat.testBit_lt_two_pow (by omega)] at hr
  cases hr
theorem In1.upto {n : Nat} {ss : List Int} (h : In1 n ss) (hn : n ≤ 7) : Upto 127 ss := fun x hx => by
  have h1 := h x hx
  have h2 : ((2 ^ n : Nat) : Int) ≤ ((2 ^ 7 : Nat) : Int) := Int.ofNat_le.2 (Nat.pow_le_pow_right (by omega) hn)
  have h3 : ((2 ^ n : Nat) : Int) = (2 : Int) ^ n := by simp
  have h4 : ((2 ^ 7 : Nat) : Int) = 128 := rfl
  omega
/-- From the given place on each set can have a positive weight. -/
def EachP (n : Nat) (ss : List Int) (q : Nat) : Prop := ∀ k, q ≤ k → k < ss.length → ∃ w D, IsW n ss w D ∧ 0 < w k
theorem EachP.yes {n : Nat} {ss : List Int} {e : Nat → Nat} {H T : Tab} (h : Std n ss e H T) {q : Nat} (hq : q < ss.length) (hz : ith (weighP T T.rows.length) q ≠ 0) : EachP n ss q ↔ EachP n ss (q + 1) := by
  constructor
  · intro hp k h1 h2; exact hp k (by omega) h2
  · intro hp k h1 h2
    by_cases e1 : k = q
    · subst e1
      obtain ⟨-, hw, -, -⟩ := h.weigh
      exact ⟨_, _, hw, by have := hw.low k h2; omega⟩
    · exact hp k (by omega) h2
theorem EachP.no {n : Nat} {ss : List Int} {T : Tab} {q : Nat} (hq : q < ss.length) (hd : 0 < T.den) (hz : ith (weighP T T.rows.length) q = 0) (hm : ∀ w D, IsW n ss w D → w q * T.den ≤ ith (weighP T T.rows.length) q * D) : ¬ EachP n ss q := by
  intro hp
  obtain ⟨w, D, hw, h1⟩ := hp q (Nat.le_refl _) hq
  have := hm w D hw
  rw [hz, Int.zero_mul] at this
  have := Int.mul_pos h1 hd
  omega
theorem EachP.last {n : Nat} {ss : List Int} : EachP n ss ss.length := fun k h1 h2 => by omega
/-- What Nucleolus says. -/
def NucR (w : World) (b : Bool) (e : Ending) (w' : World) : Prop := e = .returned (.tuple #[.bool b, .int .i64 0]) ∧ Ext w w'
set_option maxRecDepth 100000 in
set_option maxHeartbeats 4000000 in
theorem nucleolusG_calls (w : World) (E : Int) (ao lo : Option Addr) (cap lcap : Nat) (xs l : List Int) (d : Int) (b : Bool) (hI : IntsIn w ao xs) (hJ : IntsIn w lo l) (hP : IsProb E xs) (h2 : 2 ≤ xs.length) (hS : IsSh E xs l d) (hB : b = true ↔ levelsP xs.length (excP E xs l d) (levelsOf (excP E xs l d)) []) :
    Calls Try.prog 25 #[.int .i64 E, .slice ao xs.length cap, .agg #[.slice lo l.length lcap, .int .i64 d]] w (NucR w b) := by
  have HP := Lib.hid hP
  have HS := Lib.hid hS
  have HB := Lib.hid hB
  have hprob := (probB_true E xs).2 hP
  have his := isB_yes hS
  have hE := hP.estate
  have hl7 := hP.seven
  have hl1 := hP.one
  have hll : l.length ≤ 7 := by rw [hS.len]; exact hl7
  have hxl : (excP E xs l d).length ≤ 126 := by
    have : 2 ^ xs.length ≤ 2 ^ 7 := Nat.pow_le_pow_right (by omega) hl7
    simp only [excP, List.length_map, List.length_range]; omega
  have hel : 2 ^ xs.length - 2 = (excP E xs l d).length := by simp [excP]
  clear hP hS hB
  go_enter Try.func25, Try.ntmps25
  go_wp2_with fail
  obtain ⟨bx, hbx⟩ : ∃ bx, bx = w.heap.size := ⟨_, rfl⟩
  have hx1 : Ext w (w.alloc (Obj.cells #[.slice lo l.length lcap, .int .i64 d] 26)) := (by repeat (first | exact Ext.refl _ | assumption | refine Ext.alloc ?_ _ | refine Ext.drewN ?_ _ | refine Ext.drew ?_))
  have hc0 : (w.alloc (Obj.cells #[.slice lo l.length lcap, .int .i64 d] 26)).cell? ⟨bx, 0, none⟩ = some (.slice lo l.length lcap) := by subst hbx; simp [go_sem]
  have hc1 : (w.alloc (Obj.cells #[.slice lo l.length lcap, .int .i64 d] 26)).cell? ⟨bx, 1, none⟩ = some (.int .i64 d) := by subst hbx; simp [go_sem]
  have hbl : bx < (w.alloc (Obj.cells #[.slice lo l.length lcap, .int .i64 d] 26)).heap.size := by simp [hbx]
  generalize (w.alloc (Obj.cells #[.slice lo l.length lcap, .int .i64 d] 26)) = w1 at *
  rw [← hbx]
  clear hbx
  refine (problem_calls _ E ao cap xs (hI.ext hx1) (by omega)).mono ?_
  rintro e w2 ⟨rfl, hx2⟩
  rw [hprob]
  simp only [errI, if_true]
  have hx02 := hx1.trans hx2
  have hc02 := (hx2.cell (p := ⟨bx, 0, none⟩) hbl).trans hc0
  have hc12 := (hx2.cell (p := ⟨bx, 1, none⟩) hbl).trans hc1
  have hbl2 := Nat.lt_of_lt_of_le hbl hx2.size
  clear hc0 hc1 hbl
  go_wp2_with fail
  refine (is_calls _ E ao lo cap lcap xs l d (hI.ext hx02) (hJ.ext hx02) hl7 HP.out.claims hE (by omega)).mono ?_
  rintro e w3 ⟨rfl, hx3⟩
  rw [his]
  have hx03 := hx02.trans hx3
  have hc03 := (hx3.cell (p := ⟨bx, 0, none⟩) hbl2).trans hc02
  have hc13 := (hx3.cell (p := ⟨bx, 1, none⟩) hbl2).trans hc12
  clear hc02 hc12 hbl2
  go_wp2_with fail
  refine (excesses_calls _ E ao lo cap lcap xs l d (hI.ext hx03) (hJ.ext hx03) HP.out HS.out).mono ?_
  rintro e w4 ⟨v4, rfl, ho4, hx4⟩
  have hx04 := hx03.trans hx4
  clear hc03 hc13
  obtain ⟨xl, hxe⟩ : ∃ xl, xl = excP E xs l d := ⟨_, rfl⟩
  rw [← hxe] at ho4 hxl hel
  have HXE := Lib.hid hxe
  have HB2 : Hid (b = true ↔ levelsP xs.length xl (levelsOf xl) []) := Lib.hid (by rw [hxe]; exact HB.out)
  clear hxe
  have hx2l : 2 ≤ xl.length := by
    have : 2 ^ 2 ≤ 2 ^ xs.length := Nat.pow_le_pow_right (by omega) h2
    omega
  have how := ho4.shape (by omega)
  rw [ints_length, Nat.div_one] at how
  rcases how with ⟨_, h⟩ | ⟨g4, o4, c4, rfl, hg41, hg42, -, -⟩
  · have := congrArg List.length h
    rw [ints_length] at this
    simp only [List.length_nil] at this; omega
  have hI4 := ho4.intsIn
  have hel2 := Lib.hid (show xl.length + 2 ≤ 2 ^ xs.length by omega)
  clear ho4 hel
  go_wp2_with fail
  refine (values_calls _ _ _ _).mono ?_
  rintro e w5 ⟨rfl, hw5⟩
  have hx5 : Ext w4 w5 := by rw [hw5]; exact (by repeat (first | exact Ext.refl _ | assumption | refine Ext.alloc ?_ _ | refine Ext.drewN ?_ _ | refine Ext.drew ?_))
  have hb5 : w4.heap.size < w5.heap.size := by rw [hw5]; simp
  have hc5 : w5.cell? ⟨w4.heap.size, 0, none⟩ = some (.slice (some ⟨g4, o4, none⟩) xl.length c4) := by rw [hw5]; simp [go_sem]
  clear hw5
  go_wp2_with fail
  refine (sorts w5 _ c4 w4.heap.size xl (hI4.ext hx5) (by omega) hb5 hc5).mono ?_
  rintro e w6 ⟨v6, rfl, ho6, hx6⟩
  have hsl := sortI_length xl
  have how := ho6.shape (by omega)
  rw [ints_length, Nat.div_one, hsl] at how
  rcases how with ⟨_, h⟩ | ⟨g6, o6, c6, rfl, hg61, hg62, hc6, -⟩
  · have := congrArg List.length h
    rw [ints_length, hsl] at this
    simp only [List.length_nil] at this; omega
  have hcc := compact_calls w6 _ g6 o6 c6 (sortI xl) (by rw [hsl]; exact ho6) (by omega) (by omega)
  rw [hsl] at hcc
  go_wp2_with fail
  refine hcc.mono ?_
  rintro e w7 ⟨rfl, ho7, hg7⟩
  have hcl := compact_le (sortI xl)
  have hx57 : Ext w5 w7 := hx6.onto hg7 (fun q hq => by simp only [Option.some.injEq] at hq; omega)
  go_wp2_with fail
  refine (reverse_calls w7 _ g6 o6 c6 (Lib.compact (sortI xl)) ho7 (by omega)).mono ?_
  rintro e w8 ⟨rfl, ho8, hg8⟩
  have hx58 : Ext w5 w8 := hx57.onto hg8 (fun q hq => by simp only [Option.some.injEq] at hq; omega)
  have hx48 := hx5.trans hx58
  have hx08 := hx04.trans hx48
  have hI8 := hI4.ext hx48
  have hLv : IntsIn w8 (some ⟨g6, o6, none⟩) (levelsOf xl) := ho8.intsIn
  have hll2 : (levelsOf xl).length = (Lib.compact (sortI xl)).length := by simp [levelsOf]
  rw [← hll2]
  have hL126 : (levelsOf xl).length ≤ 126 := by omega
  clear hcc ho7 ho8 hg7 hg8 hx57 hx58 hx48 hx5 hx6 hb5 hc5 ho6 hcl hI4
  have hdesc := Lib.hid (levels_desc xl)
  obtain ⟨L, hL⟩ : ∃ L, L = levelsOf xl := ⟨_, rfl⟩
  rw [← hL] at hLv hll2 hL126 HB2 hdesc ⊢
  clear hL hll2
  obtain ⟨i0, hi, hz0, hz1, hz2⟩ := info_parts info_int
  obtain ⟨W, hW1, hW2⟩ : ∃ W, W ≤ w8.heap.size ∧ w8.heap.size ≤ W := ⟨_, Nat.le_refl _, Nat.le_refl _⟩
  go_wp2_with fail
  go_loopw [11, 44] (fun sv iv wr => ∃ (k : Nat) (ss : List Int), k ≤ L.length ∧ iv = .int .i64 k ∧ Ext w8 wr ∧ Own wr W 1 sv (ints ss) ∧ Hid (ss.length = cntL xl L k) ∧ Hid ((b = true ↔ levelsP xs.length xl (L.drop k) ss) ∧ In1 xs.length ss)) (fun _ iv _ => L.length - (intOf iv).toNat)
  case atStart => exact ⟨0, [], by omega, rfl, Ext.refl _, Own.nil _ _ _, Lib.hid (by simp [cntL]), Lib.hid ⟨HB2.out, fun x hx => by simp at hx⟩⟩
  case round =>
    obtain ⟨k, ss, hk, rfl, hx, ho, HSL, HK⟩ := hrel
    have hss : ss.length ≤ 126 := by rw [HSL.out]; have := cntL_le xl L k; omega
    by_cases hlt : k < L.length
    · obtain ⟨lb, lf, hlo, hlb, hlc⟩ := hLv.ext hx k hlt
      simp only [Option.some.injEq, Addr.mk.injEq, and_true] at hlo
      obtain ⟨rfl, rfl⟩ := hlo
      obtain ⟨so, sc, rfl, -, -⟩ := ho.intsShape
      have hKB := HK.out.1
      rw [drop_cons' L k hlt, levelsP] at hKB
      have HKB := Lib.hid hKB
      have HCN := Lib.hid (cntL_succ xl L hdesc.out k hlt)
      clear hKB
      obtain ⟨x, hxx⟩ : ∃ x, x = ith L k := ⟨_, rfl⟩
      rw [← hxx] at hlc HKB HCN
      clear hxx
      go_wp2_with fail
      go_loopw [11, 52] (fun sv iv wz => ∃ j : Nat, j ≤ xl.length ∧ iv = .int .i64 j ∧ Ext w8 wz ∧ Own wz W 1 sv (ints (ss ++ setsTo xl x j))) (fun _ iv _ => xl.length - (intOf iv).toNat)
      case atStart => exact ⟨0, by omega, rfl, hx, by rw [setsTo_zero, List.append_nil]; exact ho⟩
      case round =>
        rename World => wz
        clear ho hx
        obtain ⟨j, hj, rfl, hxz, hoz⟩ := hrel
        have hWz : W ≤ wz.heap.size := by have := hxz.size; omega
        by_cases hlt2 : j < xl.length
        · obtain ⟨eb, ef, heo, heb, hec⟩ := hI8.ext hxz j hlt2
          simp only [Option.some.injEq, Addr.mk.injEq, and_true] at heo
          obtain ⟨rfl, rfl⟩ := heo
          have hsl2 : (ss ++ setsTo xl x j).length ≤ 1126 := by rw [List.length_append]; have := setsTo_length xl x j; omega
          have hlow := hoz.lt
          cases hb : (ith xl j == x) with
          | true =>
            have HS1 := Lib.hid (setsTo_succ_yes xl x j hb)
            go_wp2_with (at_builtin; refine wpList_append_Own _ rfl _ _ 22 rfl 3 i0 (.int .i64 0) 1 8 Try.underlying22 hi hz0 hz1 hz2 rfl (by omega) W _ _ rfl (Own.ext hoz ((Ext.refl _).alloc _)) (by first | omega | (simp; omega)) _ 1 1 [.int .i64 (((j : Int) + 1) : Int)] rfl rfl (one_cell _ _ _ _ (by first | rfl | simp)) (by simp [Value.oneCell']) (by rw [ints_length]; unfold maxLen; simp only [List.length_cons, List.length_nil]; omega) (by rw [ints_length]; simp only [List.length_cons, List.length_nil]; omega) ?_; intro v' w5 ho5 hg5 hb5)
            rw [ints_snoc, List.append_assoc, ← HS1.out] at ho5
            exact ⟨⟨j + 1, by omega, rfl, (hxz.alloc _).onto hg5 (fun q hq => by have := (hlow q hq).1; omega), ho5⟩, by simp only [intOf]; omega⟩
          | false =>
            have HS1 := Lib.hid (setsTo_succ_no xl x j hb)
            go_wp2_with fail
            exact ⟨⟨j + 1, by omega, rfl, hxz, by rw [HS1.out]; exact hoz⟩, by simp only [intOf]; omega⟩
        · obtain rfl : j = xl.length := by omega
          obtain ⟨s2, hs2⟩ : ∃ s2, s2 = ss ++ setsTo xl x xl.length := ⟨_, rfl⟩
          have hs2l : s2.length = ss.length + (setsTo xl x xl.length).length := by rw [hs2, List.length_append]
          have HIN : Hid (In1 xs.length s2) := Lib.hid (by rw [hs2]; exact HK.out.2.append (setsTo_in1 xl x _ hel2.out))
          have HS2 : Hid (s2.length = cntL xl L (k + 1)) := Lib.hid (by rw [hs2l, HCN.out, HSL.out])
          have HB3 : Hid (b = true ↔ LevelOK xs.length s2 ss.length ∧ levelsP xs.length xl (L.drop (k + 1)) s2) := Lib.hid (by rw [hs2]; exact HKB.out)
          rw [← hs2] at hoz
          clear hs2
          have hs2k : s2.length ≤ 126 := by rw [HS2.out]; have := cntL_le xl L (k + 1); omega
          obtain ⟨f, o, HRD, HRS, HRT⟩ : ∃ f o, Hid (readyQ f (tabK xs.length s2 xs.length) = some o) ∧ Hid ((∃ w D, IsW xs.length s2 w D) ↔ o ≠ none) ∧ Hid (∀ T, o = some T → ∃ e H, Std xs.length s2 e H T) := by
            obtain ⟨f, o, a1, a2, a3⟩ := readyQ_spec xs.length s2 ⟨hl1, hl7⟩ (by omega)
            exact ⟨f, o, Lib.hid a1, Lib.hid a2, Lib.hid a3⟩
          obtain ⟨so2, sc2, rfl, hSI2, -⟩ := hoz.intsShape
          have hss2 : ss.length ≤ s2.length := by omega
          clear hs2l
          go_wp2_with fail
          refine (tabled_calls wz xs.length so2 sc2 s2 hSI2 (by omega) ⟨hl1, hl7⟩ (HIN.out.upto hl7)).mono ?_
          rintro e w9 ⟨A, rfl, hTA, hx9⟩
          have hse : (tabK xs.length s2 xs.length).sets ≤ 1000 := by show s2.length ≤ 1000; omega
          have hsn : (tabK xs.length s2 xs.length).n ≤ 100 := by show xs.length ≤ 100; omega
          go_wp2_with fail
          refine (readyQ_calls wz w9 wz.heap.size A (tabK xs.length s2 xs.length) o f hTA hx9 (Nat.le_refl _) hse hsn HRD.out).mono ?_
          rintro e w10 (⟨hnone, rfl, hx10⟩ | ⟨T, rb, hT, rfl, hT10, hx10⟩)
          · have hbf : b = false := by
              cases hb : b with
              | false => rfl
              | true => exact absurd hnone (HRS.out.1 (HB3.out.1 hb).1.some_)
            clear hTA hse hsn
            go_wp2_with fail
            go_ret2
            exact ⟨by rw [hbf]; rfl, (hx08.trans hxz).trans hx10⟩
          have HW : Hid (∃ w D, IsW xs.length s2 w D) := Lib.hid (HRS.out.2 (by rw [hT]; simp))
          obtain ⟨e0, H0, hStd⟩ := HRT.out T hT
          have HB4 : Hid (b = true ↔ EachP xs.length s2 ss.length ∧ levelsP xs.length xl (L.drop (k + 1)) s2) := Lib.hid (HB3.out.trans (and_congr_left' ⟨fun h => h.each, fun h => ⟨HW.out, h⟩⟩))
          have HSTD := Lib.hid hStd
          clear hTA hse hsn hStd hT HRS HRT HRD
          go_wp2_with fail
          go_loopw [18] (fun iv wy => ∃ (q : Nat) (A2 : Ats) (T2 : Tab), q ≤ s2.length ∧ iv = .int .i64 q ∧ A2.t = A.t ∧ TabAt wy wz.heap.size A2 T2 ∧ Ext wz wy ∧ Hid ((∃ e H, Std xs.length s2 e H T2) ∧ (b = true ↔ EachP xs.length s2 q ∧ levelsP xs.length xl (L.drop (k + 1)) s2))) (fun iv _ => s2.length - (intOf iv).toNat)
          case atStart => exact ⟨ss.length, { A with rb := rb }, T, hss2, rfl, rfl, hT10, hx10, Lib.hid ⟨⟨_, _, HSTD.out⟩, HB4.out⟩⟩
          case round =>
            rename World => wy
            clear hT10 hx10
            obtain ⟨q, A2, T2, hq, rfl, hAt, hTy, hxy, HG2⟩ := hrel
            by_cases hlt3 : q < s2.length
            · obtain ⟨f3, T3, HGP, HSM2, HST2, H3, HMX⟩ : ∃ f3 T3, Hid (greatestP f3 q T2 = some (T3, weighP T3 T3.rows.length)) ∧ Hid T2.Sm ∧ Hid (T2.sets = s2.length) ∧ Hid (∃ e H, Std xs.length s2 e H T3) ∧ Hid (∀ w D, IsW xs.length s2 w D → w q * T3.den ≤ ith (weighP T3 T3.rows.length) q * D) := by
                obtain ⟨⟨e1, H1, hs1⟩, -⟩ := HG2.out
                obtain ⟨f3, T3, H2, g1, g2, g3⟩ := great_spec hs1 hlt3 (HIN.out.bit hlt3)
                obtain ⟨s0, c0, hR0⟩ := hs1.rep
                exact ⟨f3, T3, Lib.hid g1, Lib.hid (hs1.sub.small hR0), Lib.hid (hs1.sub.sets.trans hs1.sets), Lib.hid ⟨_, _, g2⟩, Lib.hid g3⟩
              have hwl : (weighP T3 T3.rows.length).length = s2.length := by
                obtain ⟨e1, H1, hs1⟩ := H3.out
                rw [weighP_length]; exact hs1.sub.sets.trans hs1.sets
              have HD3 : Hid (0 < T3.den) := Lib.hid (by
                obtain ⟨e1, H1, hs1⟩ := H3.out
                exact hs1.weigh.2.1.pos)
              obtain ⟨ws, hws⟩ : ∃ ws, ws = weighP T3 T3.rows.length := ⟨_, rfl⟩
              rw [← hws] at HGP hwl HMX
              have HWS := Lib.hid hws
              clear hws
              have hgc := greatest_calls wz wy wz.heap.size A2 T2 T3 ws f3 q hTy HSM2.out hxy (Nat.le_refl _) hxy.size (by rw [HST2.out]; exact hlt3) HGP.out
              rw [hAt] at hgc
              go_wp2_with fail
              refine hgc.mono ?_
              rintro e w11 ⟨gb, g, off, wcap, rfl, hT11, hWS, hx11⟩
              obtain ⟨b9, f9, hb9, hb9l, hb9c⟩ := hWS q (by omega)
              simp only [Option.some.injEq, Addr.mk.injEq, and_true] at hb9
              obtain ⟨rfl, rfl⟩ := hb9
              have HWL := Lib.hid hwl
              rw [hwl]
              clear hwl hgc
              cases hz : (ith ws q == 0) with
              | true =>
                have hbf : b = false := by
                  cases hb : b with
                  | false => rfl
                  | true => exact absurd (HG2.out.2.1 hb).1 (EachP.no hlt3 HD3.out (by rw [← HWS.out]; simpa using hz) (by rw [← HWS.out]; exact HMX.out))
                go_wp2_with fail
                go_ret2
                exact ⟨by rw [hbf]; rfl, (hx08.trans hxz).trans hx11⟩
              | false =>
                have HEP : Hid (EachP xs.length s2 q ↔ EachP xs.length s2 (q + 1)) := by
                  obtain ⟨e1, H1, hs1⟩ := H3.out
                  exact Lib.hid (EachP.yes hs1 hlt3 (by rw [← HWS.out]; simpa using hz))
                go_wp2_with fail
                exact ⟨⟨q + 1, { A2 with gb := gb }, T3, by omega, rfl, hAt, hT11, hx11, Lib.hid ⟨H3.out, HG2.out.2.trans (and_congr_left' HEP.out)⟩⟩, by simp only [intOf]; omega⟩
            · obtain rfl : q = s2.length := by omega
              go_wp2_with fail
              exact ⟨⟨k + 1, s2, by omega, rfl, hxz.trans hxy, hoz.ext hxy, HS2, Lib.hid ⟨⟨fun h => (HG2.out.2.1 h).2, fun h => HG2.out.2.2 ⟨EachP.last, h⟩⟩, HIN.out⟩⟩, by simp only [intOf]; omega⟩
    · obtain rfl : k = L.length := by omega
      have hbt : b = true := HK.out.1.2 (by rw [List.drop_length]; exact trivial)
      go_wp2_with fail
      go_ret2
      exact ⟨by rw [hbt]; rfl, hx08.trans hx⟩
end Go.Proofs.Ytcngecibljgndaa
