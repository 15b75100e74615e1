/- quota.Excesses; QuotaGames: the walk. -/
import Derived.Test.YtcngecibljgndaaQGC
import Derived.Test.YtcngecibljgndaaQW
import Derived.Test.YtcngecibljgndaaQOpen
namespace Go.Proofs.Ytcngecibljgndaa
open Go.RowKit Go.Shelf

theorem excP_bd {E d : Int} {xs l : List Int} (hP : IsProb E xs) (hS : IsSh E xs l d) : ∀ z ∈ excP E xs l d, BdI z := by
  intro z hz
  unfold excP at hz
  rw [List.mem_map] at hz
  obtain ⟨s, hs, rfl⟩ := hz
  rw [List.mem_range] at hs
  have hd := hS.den
  have hg := gameP_at E xs hP.claims hP.estate (s + 1) (by omega)
  have h1 : ith (gameP E xs) (s + 1) * d ≤ 100000 * 1000000 := Int.mul_le_mul hg.2 hd.2 (by omega) (by omega)
  have h0 : 0 ≤ ith (gameP E xs) (s + 1) * d := Int.mul_nonneg hg.1 (by omega)
  have hb := takeP_bounds (ith (gameP E xs) (s + 1) * d) l (is_upto hS hP.claims) (s + 1) l.length (Nat.le_refl _)
  have h7 := hP.seven
  have hl := hS.len
  unfold BdI
  omega
theorem excP_length (E d : Int) (xs l : List Int) : (excP E xs l d).length = 2 ^ xs.length - 2 := by simp [excP]
set_option maxRecDepth 100000 in
set_option maxHeartbeats 1000000 in
theorem quotaExcesses_calls (w : World) (E : Int) (ao lo : Option Addr) (cap lcap : Nat) (xs l : List Int) (d : Int) (hI : IntsIn w ao xs) (hJ : IntsIn w lo l) (hl : xs.length ≤ 1000000) (hll : l.length ≤ 1000000) :
    Calls Try.prog 44 #[.int .i64 E, .slice ao xs.length cap, .agg #[.slice lo l.length lcap, .int .i64 d]] w (ExcRes w E xs l d) := by
  have hent := eg_cmpI
  go_enter Try.func44, Try.ntmps44
  go_wp2_with fail
  have hx1 : Ext w (w.alloc (Obj.cells #[.slice lo l.length lcap, .int .i64 d] 26)) := (by repeat (first | exact Ext.refl _ | assumption | refine Ext.alloc ?_ _ | refine Ext.drewN ?_ _ | refine Ext.drew ?_))
  have hbx := PBox.new w 26 (.slice lo l.length lcap) d
  obtain ⟨B, hB⟩ : ∃ B, B = w.heap.size := ⟨_, rfl⟩
  generalize (w.alloc (Obj.cells #[.slice lo l.length lcap, .int .i64 d] 26)) = w1 at *
  rw [← hB] at hbx ⊢
  clear hB
  refine (problem_calls _ E ao cap xs (hI.ext hx1) hl).mono ?_
  rintro e w2 ⟨rfl, hx2⟩
  have hx12 := hx1.trans hx2
  cases hp : probB E xs with
  | false =>
    have HP := Lib.hid hp
    clear hp
    simp only [errI]
    go_wp2_with fail
    go_ret2
    exact .inl ⟨by simp [HP.out], rfl, hx12⟩
  | true =>
    have hP := (probB_true E xs).1 hp
    have HP := Lib.hid hp
    clear hp
    obtain ⟨q0, q1, q2⟩ := hbx.ext hx2
    simp only [errI]
    have hic := fun W h1 h2 => is_calls W E ao lo cap lcap xs l d h1 h2 hP.seven hP.claims hP.estate hll
    have HPP := Lib.hid hP
    have h7 := hP.seven
    clear hP
    go_wp2_with fail
    refine (hic _ (hI.ext hx12) (hJ.ext hx12)).mono ?_
    rintro e w3 ⟨rfl, hx3⟩
    have hx13 := hx12.trans hx3
    clear hic q0 q1 q2
    obtain ⟨q0, q1, q2⟩ := (hbx.ext hx2).ext hx3
    cases hib : isB E xs l d with
    | false =>
      have HIB := Lib.hid hib
      clear hib
      go_wp2_with fail
      go_ret2
      exact .inl ⟨by simp [HIB.out], rfl, hx13⟩
    | true =>
      have hS := isB_true hib
      have HIB := Lib.hid hib
      clear hib
      have hec := excesses_calls w3 E ao lo cap lcap xs l d (hI.ext hx13) (hJ.ext hx13) HPP.out hS
      have HBD := Lib.hid (excP_bd HPP.out hS)
      have hel : (excP E xs l d).length ≤ 126 := by
        rw [excP_length]
        have : 2 ^ xs.length ≤ 2 ^ 7 := Nat.pow_le_pow_right (by omega) h7
        omega
      clear hS
      go_wp2_with fail
      refine hec.mono ?_
      rintro e w4 ⟨v, rfl, ho, hx4⟩
      have hx14 := hx13.trans hx4
      have HR : Hid ((probB E xs && isB E xs l d) = true) := Lib.hid (by rw [HP.out, HIB.out]; rfl)
      clear HP HIB HPP hec q0 q1 q2
      obtain ⟨zs, hzs⟩ : ∃ zs, zs = excP E xs l d := ⟨_, rfl⟩
      rw [← hzs] at ho HBD hel
      have HZ := Lib.hid hzs
      clear hzs
      rcases Nat.eq_zero_or_pos zs.length with h0 | h0
      · obtain ⟨vo, vc, rfl, hV, -⟩ := ho.intsShape
        rw [h0]
        have hz : zs = [] := List.length_eq_zero_iff.1 h0
        subst hz
        clear hV
        go_wp2_with fail
        refine (sort_none w4 vo vc _).mono ?_
        rintro e w5 ⟨rfl, rfl⟩
        go_wp2_with fail
        go_ret2
        refine .inr ⟨HR.out, _, rfl, ?_, hx14⟩
        have : sortD [] = [] := by simp [sortD]
        rw [← HZ.out, this]
        exact ho.rebase hx13.size
      · obtain ⟨g, off, vc, rfl, hgW, hgl⟩ := ho.solid h0
        go_wp2_with fail
        refine (sort_calls w4 _ g off vc zs HBD.out ho (by omega)).mono ?_
        rintro e w5 ⟨rfl, ho5, hg5⟩
        go_wp2_with fail
        go_ret2
        refine .inr ⟨HR.out, _, rfl, by rw [← HZ.out]; exact ho5.rebase hx13.size, hx14.onto hg5 (fun q hq => by simp only [Option.some.injEq] at hq; have := hx13.size; omega)⟩
set_option maxRecDepth 100000 in
set_option maxHeartbeats 1000000 in
theorem quotaGames_law (hA : AliveOK) (w : World) (E : Int) (ao lo : Option Addr) (cap lcap : Nat) (xs l : List Int) (d : Int) (hI : IntsIn w ao xs) (hJ : IntsIn w lo l) :
    Calls Try.prog 17 #[.int .i64 E, .slice ao xs.length cap, .agg #[.slice lo l.length lcap, .int .i64 d]] w (TrueRes w) := by
  go_enter Try.func17, Try.ntmps17
  go_wp2_with fail
  have hx1 : Ext w (w.alloc (Obj.cells #[.slice lo l.length lcap, .int .i64 d] 26)) := (by repeat (first | exact Ext.refl _ | assumption | refine Ext.alloc ?_ _ | refine Ext.drewN ?_ _ | refine Ext.drew ?_))
  have hbx := PBox.new w 26 (.slice lo l.length lcap) d
  obtain ⟨B, hB⟩ : ∃ B, B = w.heap.size := ⟨_, rfl⟩
  generalize (w.alloc (Obj.cells #[.slice lo l.length lcap, .int .i64 d] 26)) = w1 at *
  rw [← hB] at hbx ⊢
  clear hB
  refine (few_calls _ ao xs.length cap).mono ?_
  rintro e w2 ⟨rfl, hx2⟩
  have hx12 := hx1.trans hx2
  have hb2 := hbx.ext hx2
  obtain ⟨q0, q1, q2⟩ := id hb2
  cases hd : decide (xs.length ≤ 40) with
  | false =>
    go_wp2_with fail
    refine (hA w _ hx12).mono ?_
    rintro e w9 ⟨rfl, hx9⟩
    go_wp2_with fail
    go_ret
    exact ⟨rfl, hx9⟩
  | true =>
    go_wp2_with fail
    refine (few_calls _ lo l.length lcap).mono ?_
    rintro e w3 ⟨rfl, hx3⟩
    have hx13 := hx12.trans hx3
    have hb3 := hb2.ext hx3
    clear q0 q1 q2
    cases hd2 : decide (l.length ≤ 40) with
    | false =>
      obtain ⟨q0, q1, q2⟩ := id hb3
      go_wp2_with fail
      refine (hA w _ hx13).mono ?_
      rintro e w9 ⟨rfl, hx9⟩
      go_wp2_with fail
      go_ret
      exact ⟨rfl, hx9⟩
    | true =>
      have hl1 : xs.length ≤ 40 := by simpa using hd
      have hl2 : l.length ≤ 40 := by simpa using hd2
      clear hd hd2
      -- the two games are the same
      obtain ⟨gs, er, hq1, hq2, hgl⟩ : ∃ (gs : List Int) (er : Int), (∀ W, IntsIn W ao xs → Calls Try.prog 34 #[.int .i64 E, .slice ao xs.length cap] W (fun e w' => ∃ o c, e = .returned (.tuple #[.slice o gs.length c, .int .i64 er]) ∧ IntsIn w' o gs ∧ Ext W w')) ∧
          (∀ W, IntsIn W ao xs → Calls Try.prog 46 #[.int .i64 E, .slice ao xs.length cap] W (fun e w' => ∃ o c, e = .returned (.tuple #[.slice o gs.length c, .int .i64 er]) ∧ IntsIn w' o gs ∧ Ext W w')) ∧ gs.length ≤ 1000 := by
        cases hp : probB E xs with
        | false =>
          refine ⟨[], 2, fun W h => (quotaGame_calls W E ao cap xs h (by omega)).mono ?_, fun W h => (refGame_calls W E ao cap xs h).mono ?_, by simp⟩
          · rintro e w' (⟨_, rfl, hx⟩ | ⟨h, _⟩)
            · exact ⟨none, 0, rfl, fun k hk => by simp at hk, hx⟩
            · rw [hp] at h; simp at h
          · rintro e w' (⟨_, rfl, hx⟩ | ⟨h, _⟩)
            · exact ⟨none, 0, rfl, fun k hk => by simp at hk, hx⟩
            · rw [hp] at h; simp at h
        | true =>
          have hP := (probB_true E xs).1 hp
          refine ⟨gameP E xs, 0, fun W h => (quotaGame_calls W E ao cap xs h (by omega)).mono ?_, fun W h => (refGame_calls W E ao cap xs h).mono ?_, ?_⟩
          · rintro e w' (⟨h, _⟩ | ⟨_, v, rfl, ho, hx⟩)
            · rw [hp] at h; simp at h
            · obtain ⟨o, c, rfl, hV, -⟩ := ho.intsShape
              exact ⟨o, c, rfl, hV, hx⟩
          · rintro e w' (⟨h, _⟩ | ⟨_, v, rfl, ho, hx⟩)
            · rw [hp] at h; simp at h
            · obtain ⟨o, c, rfl, hV, -⟩ := ho.intsShape
              exact ⟨o, c, rfl, hV, hx⟩
          · rw [gameP_length]
            have : 2 ^ xs.length ≤ 2 ^ 7 := Nat.pow_le_pow_right (by omega) hP.seven
            omega
      obtain ⟨es, fr, hr1, hr2, hel⟩ : ∃ (es : List Int) (fr : Int), (∀ W, IntsIn W ao xs → IntsIn W lo l → Calls Try.prog 44 #[.int .i64 E, .slice ao xs.length cap, .agg #[.slice lo l.length lcap, .int .i64 d]] W (fun e w' => ∃ o c, e = .returned (.tuple #[.slice o es.length c, .int .i64 fr]) ∧ IntsIn w' o es ∧ Ext W w')) ∧
          (∀ W, IntsIn W ao xs → IntsIn W lo l → Calls Try.prog 47 #[.int .i64 E, .slice ao xs.length cap, .agg #[.slice lo l.length lcap, .int .i64 d]] W (fun e w' => ∃ o c, e = .returned (.tuple #[.slice o es.length c, .int .i64 fr]) ∧ IntsIn w' o es ∧ Ext W w')) ∧ es.length ≤ 1000 := by
        cases hp : (probB E xs && isB E xs l d) with
        | false =>
          refine ⟨[], 2, fun W h h' => (quotaExcesses_calls W E ao lo cap lcap xs l d h h' (by omega) (by omega)).mono ?_, fun W h h' => (refExcesses_calls W E ao lo cap lcap xs l d h h' (by omega)).mono ?_, by simp⟩
          · rintro e w' (⟨_, rfl, hx⟩ | ⟨h, _⟩)
            · exact ⟨none, 0, rfl, fun k hk => by simp at hk, hx⟩
            · rw [hp] at h; simp at h
          · rintro e w' (⟨_, rfl, hx⟩ | ⟨h, _⟩)
            · exact ⟨none, 0, rfl, fun k hk => by simp at hk, hx⟩
            · rw [hp] at h; simp at h
        | true =>
          have hp2 := hp
          rw [Bool.and_eq_true] at hp2
          have hP := (probB_true E xs).1 hp2.1
          refine ⟨sortD (excP E xs l d), 0, fun W h h' => (quotaExcesses_calls W E ao lo cap lcap xs l d h h' (by omega) (by omega)).mono ?_, fun W h h' => (refExcesses_calls W E ao lo cap lcap xs l d h h' (by omega)).mono ?_, ?_⟩
          · rintro e w' (⟨h, _⟩ | ⟨_, v, rfl, ho, hx⟩)
            · rw [hp] at h; simp at h
            · obtain ⟨o, c, rfl, hV, -⟩ := ho.intsShape
              exact ⟨o, c, rfl, hV, hx⟩
          · rintro e w' (⟨h, _⟩ | ⟨_, v, rfl, ho, hx⟩)
            · rw [hp] at h; simp at h
            · obtain ⟨o, c, rfl, hV, -⟩ := ho.intsShape
              exact ⟨o, c, rfl, hV, hx⟩
          · rw [sortD_length, excP_length]
            have : 2 ^ xs.length ≤ 2 ^ 7 := Nat.pow_le_pow_right (by omega) hP.seven
            omega
      obtain ⟨q0, q1, q2⟩ := id hb3
      go_wp2_with fail
      refine (hq1 _ (hI.ext hx13)).mono ?_
      rintro e w4 ⟨go, gc, rfl, hG, hx4⟩
      have hx14 := hx13.trans hx4
      go_wp2_with fail
      refine (hq2 _ (hI.ext hx14)).mono ?_
      rintro e w5 ⟨go2, gc2, rfl, hG2, hx5⟩
      have hx15 := hx14.trans hx5
      go_wp2_with fail
      refine (same_calls _ go go2 gc gc2 gs gs (hG.ext hx5) hG2 (by omega) (by omega)).mono ?_
      rintro e w6 ⟨rfl, hx6⟩
      have hx16 := hx15.trans hx6
      rw [decide_eq_true rfl]
      clear q0 q1 q2
      have hb6 := ((hb3.ext hx4).ext hx5).ext hx6
      obtain ⟨q0, q1, q2⟩ := id hb6
      go_wp2_with fail
      refine (hr1 _ (hI.ext hx16) (hJ.ext hx16)).mono ?_
      rintro e w7 ⟨eo, ec, rfl, hE1, hx7⟩
      have hx17 := hx16.trans hx7
      clear q0 q1 q2
      obtain ⟨q0, q1, q2⟩ := hb6.ext hx7
      go_wp2_with fail
      refine (hr2 _ (hI.ext hx17) (hJ.ext hx17)).mono ?_
      rintro e w8 ⟨eo2, ec2, rfl, hE2, hx8⟩
      have hx18 := hx17.trans hx8
      go_wp2_with fail
      refine (same_calls _ eo eo2 ec ec2 es es (hE1.ext hx8) hE2 (by omega) (by omega)).mono ?_
      rintro e w10 ⟨rfl, hx10⟩
      have hx110 := hx18.trans hx10
      rw [decide_eq_true rfl]
      go_wp2_with fail
      refine (hA w _ hx110).mono ?_
      rintro e w9 ⟨rfl, hx9⟩
      go_wp2_with fail
      go_ret
      exact ⟨rfl, hx9⟩
end Go.Proofs.Ytcngecibljgndaa
