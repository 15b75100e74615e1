/- QuotaLeast: the walk. -/
import Derived.Test.YtcngecibljgndaaMNH
import Derived.Test.YtcngecibljgndaaMBK
import Derived.Test.YtcngecibljgndaaMQOpen
import Derived.Test.YtcngecibljgndaaMQT
import Derived.Test.YtcngecibljgndaaMQPH
namespace Go.Proofs.Ytcngecibljgndaa
open Go.RowKit Go.Shelf

theorem sortD_bd {l : List Int} (h : ∀ z ∈ l, BdI z) : ∀ k, k < (sortD l).length → -1000000000000000000 ≤ ith (sortD l) k ∧ ith (sortD l) k ≤ 1000000000000000000 := fun k hk => by
  have := h (ith (sortD l) k) ((sortD_perm l).mem_iff.1 (by rw [ith_get _ hk]; exact List.getElem_mem _))
  unfold BdI at this
  omega
set_option maxRecDepth 100000 in
set_option maxHeartbeats 4000000 in
theorem quotaLeast_law (hA : AliveOK) (w : World) (E : Int) (ao lo : Option Addr) (cap lcap : Nat) (xs l : List Int) (d : Int) (hI : IntsIn w ao xs) (hJ : IntsIn w lo l) :
    Calls Try.prog 16 #[.int .i64 E, .slice ao xs.length cap, .agg #[.slice lo l.length lcap, .int .i64 d]] w (TrueRes w) := by
  go_enter Try.func16, Try.ntmps16
  go_wp2_with fail
  have hx1 : Ext w (w.alloc (Obj.cells #[.slice lo l.length lcap, .int .i64 d] 26)) := (by repeat (first | exact Ext.refl _ | assumption | refine Ext.alloc ?_ _ | refine Ext.drewN ?_ _ | refine Ext.drew ?_))
  have hbx := PBox.new w 26 (.slice lo l.length lcap) d
  obtain ⟨B, hB⟩ : ∃ B, B = w.heap.size := ⟨_, rfl⟩
  generalize (w.alloc (Obj.cells #[.slice lo l.length lcap, .int .i64 d] 26)) = w1 at *
  rw [← hB] at hbx ⊢
  clear hB
  refine (few_calls _ ao xs.length cap).mono ?_
  rintro e w2 ⟨rfl, hx2⟩
  have hx12 := hx1.trans hx2
  have hb2 := hbx.ext hx2
  obtain ⟨q0, q1, q2⟩ := id hb2
  cases hd : decide (xs.length ≤ 40) with
  | false =>
    go_wp2_with fail
    refine (hA w _ hx12).mono ?_
    rintro e w9 ⟨rfl, hx9⟩
    go_wp2_with fail
    go_ret
    exact ⟨rfl, hx9⟩
  | true =>
    go_wp2_with fail
    refine (few_calls _ lo l.length lcap).mono ?_
    rintro e w3 ⟨rfl, hx3⟩
    have hx13 := hx12.trans hx3
    have hb3 := hb2.ext hx3
    clear q0 q1 q2
    obtain ⟨q0, q1, q2⟩ := id hb3
    cases hd2 : decide (l.length ≤ 40) with
    | false =>
      go_wp2_with fail
      refine (hA w _ hx13).mono ?_
      rintro e w9 ⟨rfl, hx9⟩
      go_wp2_with fail
      go_ret
      exact ⟨rfl, hx9⟩
    | true =>
      have hl1 : xs.length ≤ 40 := by simpa using hd
      have hl2 : l.length ≤ 40 := by simpa using hd2
      clear hd hd2
      go_wp2_with fail
      refine (share_calls _ 3 E ao cap xs (hI.ext hx13) (by omega)).mono ?_
      rintro e w4 (⟨hn, rfl, hx4⟩ | ⟨q, v, hq, rfl, ho, hx4⟩)
      · clear hn
        have hx14 := hx13.trans hx4
        go_wp2_with fail
        have hx15 : Ext w (w4.alloc (Obj.cells #[.slice none 0 0, .int .i64 0] 26)) := (by repeat (first | exact Ext.refl _ | assumption | refine Ext.alloc ?_ _ | refine Ext.drewN ?_ _ | refine Ext.drew ?_))
        refine (hA w _ hx15).mono ?_
        rintro e w9 ⟨rfl, hx9⟩
        go_wp2_with fail
        go_ret
        exact ⟨rfl, hx9⟩
      · obtain ⟨hP, hqq, hS, -⟩ := share_three hq
        have hx14 := hx13.trans hx4
        obtain ⟨so, sc, rfl, hSI, -⟩ := ho.intsShape
        clear ho hq
        obtain ⟨t, ht⟩ : ∃ t, t = q.1 := ⟨_, rfl⟩
        obtain ⟨u, hu⟩ : ∃ u, u = q.2 := ⟨_, rfl⟩
        have HQ : Hid ((t, u) = lowP (talmudP E xs)) := Lib.hid (by rw [ht, hu, ← hqq])
        rw [← ht, ← hu] at hS
        rw [← ht] at hSI
        rw [← ht, ← hu]
        clear ht hu hqq
        have HNT : Hid (nucB E xs t u = true) := Lib.hid (by rw [nucB_parts hS HQ.out]; simp [partsB])
        have HNX : Hid (nucB E xs l d = partsB d l u t) := Lib.hid (nucB_parts hS HQ.out)
        have HS := Lib.hid hS
        have HP := Lib.hid hP
        have hlt : t.length ≤ 40 := by rw [hS.len]; exact hl1
        clear hS hP q0 q1 q2
        go_wp2_with fail
        have hx5 : Ext w4 (w4.alloc (Obj.cells #[.slice so t.length sc, .int .i64 u] 26)) := (by repeat (first | exact Ext.refl _ | assumption | refine Ext.alloc ?_ _ | refine Ext.drewN ?_ _ | refine Ext.drew ?_))
        have hbt := PBox.new w4 26 (.slice so t.length sc) u
        obtain ⟨T, hT⟩ : ∃ T, T = w4.heap.size := ⟨_, rfl⟩
        generalize (w4.alloc (Obj.cells #[.slice so t.length sc, .int .i64 u] 26)) = w5 at *
        rw [← hT] at hbt ⊢
        clear hT
        have hx15 := hx14.trans hx5
        replace hSI := hSI.ext hx5
        have hb5 := (hb3.ext hx4).ext hx5
        refine (nucleolusA_calls _ E ao so cap sc xs t u (hI.ext hx15) hSI (by omega) (by omega)).mono ?_
        rintro e w6 (⟨hno, rfl, hx6⟩ | ⟨-, rfl, hx6⟩)
        · exact absurd HP.out hno
        rw [HNT.out]
        have hx16 := hx15.trans hx6
        have hb6 := hb5.ext hx6
        have hbt6 := hbt.ext hx6
        obtain ⟨q0, q1, q2⟩ := id hb6
        obtain ⟨r0, r1, r2⟩ := id hbt6
        have hnc := fun W h1 h2 => nucleolusA_calls W E ao lo cap lcap xs l d h1 h2 (by omega) (by omega)
        go_wp2_with fail
        refine (hnc _ (hI.ext hx16) (hJ.ext hx16)).mono ?_
        rintro e w7 (⟨hno, rfl, hx7⟩ | ⟨-, rfl, hx7⟩)
        · exact absurd HP.out hno
        rw [HNX.out]
        have hx17 := hx16.trans hx7
        replace hSI := (hSI.ext hx6).ext hx7
        clear q0 q1 q2 r0 r1 r2 hnc
        have hb7 := hb6.ext hx7
        have hbt7 := hbt6.ext hx7
        obtain ⟨q0, q1, q2⟩ := id hb7
        obtain ⟨r0, r1, r2⟩ := id hbt7
        have hpc := fun W h1 h2 => parts_calls W lo so lcap sc l t d u h1 h2 (by omega) (by omega)
        obtain ⟨pb, hpb⟩ : ∃ pb, pb = partsB d l u t := ⟨_, rfl⟩
        rw [← hpb] at hpc ⊢
        clear hpb HNT HNX
        go_wp2_with fail
        refine (hpc _ (hJ.ext hx17) hSI).mono ?_
        rintro e w8 ⟨rfl, hx8⟩
        have hx18 := hx17.trans hx8
        replace hSI := hSI.ext hx8
        clear q0 q1 q2 r0 r1 r2 hpc
        have hb8 := hb7.ext hx8
        have hbt8 := hbt7.ext hx8
        obtain ⟨q0, q1, q2⟩ := id hb8
        obtain ⟨r0, r1, r2⟩ := id hbt8
        have hpp : (pb != pb) = false := by simp
        have hec := fun W h1 h2 => quotaExcesses_calls W E ao lo cap lcap xs l d h1 h2 (by omega) (by omega)
        go_wp2_with fail
        refine (hec _ (hI.ext hx18) (hJ.ext hx18)).mono ?_
        rintro e w9 (⟨hb0, rfl, hx9⟩ | ⟨hb1, v9, rfl, ho9, hx9⟩)
        · clear hb0 hec q0 q1 q2 r0 r1 r2
          have hx19 := hx18.trans hx9
          replace hSI := hSI.ext hx9
          have hbt9 := hbt8.ext hx9
          obtain ⟨r0, r1, r2⟩ := id hbt9
          have htc := fun W h1 h2 => quotaExcesses_calls W E ao so cap sc xs t u h1 h2 (by omega) (by omega)
          go_wp2_with fail
          refine (htc _ (hI.ext hx19) hSI).mono ?_
          rintro e w10 (⟨hb1, rfl, hx10⟩ | ⟨hb1, v10, rfl, ho10, hx10⟩)
          · rw [(probB_true E xs).2 HP.out, isB_yes HS.out] at hb1
            simp at hb1
          have hx110 := hx19.trans hx10
          clear hb1 htc r0 r1 r2
          obtain ⟨so2, sc2, rfl, -, -⟩ := ho10.intsShape
          clear ho10
          go_wp2_with fail
          refine (hA w _ hx110).mono ?_
          rintro e w9 ⟨rfl, hx9⟩
          go_wp2_with fail
          go_ret
          exact ⟨rfl, hx9⟩
        · have hSx := isB_true (Bool.and_eq_true _ _ ▸ hb1 : _ ∧ _).2
          have HLB : Hid (LaterB (sortD (excP E xs l d)) d (sortD (excP E xs t u)) u) := Lib.hid (by
            have := exc_first HP.out hSx
            rw [← HQ.out] at this
            exact this)
          have HBA := Lib.hid (sortD_bd (excP_bd HP.out hSx))
          have HBB := Lib.hid (sortD_bd (excP_bd HP.out HS.out))
          have hda := hSx.den
          have hdb := HS.out.den
          obtain ⟨N, hN, hNA, hNB⟩ : ∃ N : Nat, N ≤ 1000 ∧ (sortD (excP E xs l d)).length = N ∧ (sortD (excP E xs t u)).length = N := by
            refine ⟨2 ^ xs.length - 2, ?_, by rw [sortD_length, excP_length], by rw [sortD_length, excP_length]⟩
            have : 2 ^ xs.length ≤ 2 ^ 7 := Nat.pow_le_pow_right (by omega) HP.out.seven
            omega
          obtain ⟨AL, hAL⟩ : ∃ AL, AL = sortD (excP E xs l d) := ⟨_, rfl⟩
          obtain ⟨BL, hBL⟩ : ∃ BL, BL = sortD (excP E xs t u) := ⟨_, rfl⟩
          rw [← hAL] at HLB HBA hNA ho9
          rw [← hBL] at HLB HBB hNB
          have HBL := Lib.hid hBL
          clear hAL hBL hSx hb1 hec q0 q1 q2 r0 r1 r2
          have hx19 := hx18.trans hx9
          replace hSI := hSI.ext hx9
          have hb9 := hb8.ext hx9
          have hbt9 := hbt8.ext hx9
          obtain ⟨q0, q1, q2⟩ := id hb9
          obtain ⟨r0, r1, r2⟩ := id hbt9
          obtain ⟨ea, eac, rfl, hEA, -⟩ := ho9.intsShape
          clear ho9
          have htc := fun W h1 h2 => quotaExcesses_calls W E ao so cap sc xs t u h1 h2 (by omega) (by omega)
          have HNA := Lib.hid hNA
          have HNB := Lib.hid hNB
          rw [hNA]
          clear hNA hNB
          go_wp2_with fail
          refine (htc _ (hI.ext hx19) hSI).mono ?_
          rintro e w10 (⟨hb1, rfl, hx10⟩ | ⟨hb1, v10, rfl, ho10, hx10⟩)
          · rw [(probB_true E xs).2 HP.out, isB_yes HS.out] at hb1
            simp at hb1
          rw [← HBL.out] at ho10
          have hx110 := hx19.trans hx10
          replace hEA := hEA.ext hx10
          clear hb1 htc q0 q1 q2 r0 r1 r2
          have hb10 := hb9.ext hx10
          have hbt10 := hbt9.ext hx10
          obtain ⟨q0, q1, q2⟩ := id hb10
          obtain ⟨r0, r1, r2⟩ := id hbt10
          obtain ⟨eb, ebc, rfl, hEB, -⟩ := ho10.intsShape
          clear ho10
          have hlc := fun W h1 h2 => later_calls W ea eb eac ebc AL BL d u h1 h2 (by rw [HNA.out]; exact hN) (by rw [HNB.out]; exact hN) HBA.out HBB.out (by omega) (by omega) HLB.out
          rw [HNA.out, HNB.out] at hlc
          rw [HNB.out]
          go_wp2_with fail
          refine (hlc _ hEA hEB).mono ?_
          rintro e w11 ⟨rfl, hx11⟩
          have hx111 := hx110.trans hx11
          clear hlc
          go_wp2_with fail
          refine (hA w _ hx111).mono ?_
          rintro e w9 ⟨rfl, hx9⟩
          go_wp2_with fail
          go_ret
          exact ⟨rfl, hx9⟩
end Go.Proofs.Ytcngecibljgndaa

/- alive: true, without a premise. -/
namespace Go.Proofs.Ytcngecibljgndaa
open Go.RowKit Go.Shelf

theorem tabledOK : TabledOK := fun w n ao cap ss hI hl hn hs => tabled_calls w n ao cap ss hI hl hn hs
theorem aliveOK : AliveOK := fun _ w2 hx => (alive_calls tabledOK w2).mono (fun _ _ ⟨he, hx'⟩ => ⟨he, hx.trans hx'⟩)
end Go.Proofs.Ytcngecibljgndaa
