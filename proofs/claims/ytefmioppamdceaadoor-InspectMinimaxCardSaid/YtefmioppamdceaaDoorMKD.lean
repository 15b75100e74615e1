/- Inspect, the boxes: the walk of Boxes, up to the loops. -/
import Derived.Test.YtefmioppamdceaaDoorMKC
import Derived.Test.YtefmioppamdceaaDoorMJF
namespace Go.Proofs.YtefmioppamdceaaDoor
open Go.RowKit Go.Shelf

theorem own_zeros (w : World) (n : Nat) (hn : n ≤ 1000) (t : TypeId) : Own (w.alloc (.cells (Array.replicate n (.int .i64 0)) t)) w.heap.size 1 (.slice (some ⟨w.heap.size, 0, none⟩) n n) (ints (List.replicate n 0)) := by
  refine ⟨n, by rw [ints_length, List.length_replicate, Nat.mul_one], .inr ⟨w.heap.size, 0, n, rfl, Nat.le_refl _, by simp, Nat.le_refl _, by unfold maxLen; omega, fun j hj => ?_, fun j hj => ?_⟩⟩
  · rw [Nat.mul_one] at hj
    simp [go_sem, hj]
  · rw [Nat.mul_one] at hj
    rw [ints_at _ j (by simpa using hj)]
    simp [go_sem, hj, ith, List.getD_eq_getElem?_getD]
/-- The saddle of boxes as the program returns it. -/
def BoxRes (w : World) (ws : List Int) (l : Nat) (e : Ending) (w' : World) : Prop := ∃ od : List Int, Order ws od ∧ ∃ rv cv,
  e = .returned (.tuple #[.agg #[.int .i64 (boxOut ws od l).v.num, .int .i64 (boxOut ws od l).v.den, rv, .int .i64 (boxOut ws od l).rd, cv, .int .i64 (boxOut ws od l).cd], .int .i64 0]) ∧
  Own w' w.heap.size 1 rv (ints (boxOut ws od l).R) ∧ Own w' w.heap.size 1 cv (ints (boxOut ws od l).C) ∧ Ext w w'
theorem boxOk_iff {ws : List Int} {l : Int} : boxOk ws l = true ↔ (1 ≤ ws.length ∧ ws.length ≤ 8) ∧ (∀ x ∈ ws, 1 ≤ x ∧ x ≤ 20) ∧ 0 ≤ l ∧ l ≤ ws.length := by
  unfold boxOk
  simp only [Bool.and_eq_true, decide_eq_true_eq, Bool.not_eq_true', List.any_eq_false, badB]
  constructor
  · rintro ⟨⟨h1, h2⟩, h3⟩
    exact ⟨h1, fun x hx => by have := h2 x hx; omega, h3⟩
  · rintro ⟨h1, h2, h3⟩
    exact ⟨⟨h1, fun x hx => by have := h2 x hx; omega⟩, h3⟩
theorem Spot6.far {w w' : World} {b : Nat} {row : Option Nat} (h : Spot6 w b) (hg : w.grownBy w' row) (hne : some b ≠ row) : Spot6 w' b :=
  ⟨Nat.lt_of_lt_of_le h.lt hg.size, by rw [grownBy_cell hg (p := ⟨b, 0, none⟩) h.lt hne]; exact h.c0, fun k hk => by rw [grownBy_cell hg (p := ⟨b, k, none⟩) h.lt hne, grownBy_frozen hg (p := ⟨b, k, none⟩) h.lt hne]; exact h.at_ k hk⟩
set_option maxRecDepth 100000 in
set_option maxHeartbeats 4000000 in
theorem boxes_good (w : World) (ao : Option Addr) (cap : Nat) (ws : List Int) (l : Nat) (hG : Glob w) (hI : IntsIn w ao ws) (hok : boxOk ws l = true) :
    Calls Tryd.prog 17 #[.slice ao ws.length cap, .int .i64 l] w (BoxRes w ws l) := by
  obtain ⟨hn18, hb, -, hl⟩ := boxOk_iff.1 hok
  have hC : ∀ W, Ext w W → Calls Tryd.prog 32 #[.slice ao ws.length cap, .func (.func 33) #[] #[]] W fun e w' => e = .returned (.bool false) ∧ Ext W w' := fun W hx => by
    have h := containsFunc_calls W ao cap ws 33 #[] badB (hI.ext hx) (by omega) (pred_badB W)
    have e : ws.any badB = false := by
      rw [List.any_eq_false]
      intro x hx
      have := hb x hx
      simp [badB]
      omega
    rw [e] at h
    exact h
  obtain ⟨n, hn⟩ : ∃ n, n = ws.length := ⟨_, rfl⟩
  have HN := Lib.hid hn
  have HB := Lib.hid hb
  rw [← hn] at hC hl hn18 ⊢
  have hut := fun W => upTo_calls W n (by omega)
  have hmk := fun W => make_ints n (by omega) W
  have hao : ∃ b off, ao = some ⟨b, off, none⟩ ∧ b < w.heap.size := by
    obtain ⟨b, off, e, hb, -⟩ := hI 0 (by omega)
    exact ⟨b, off, e, hb⟩
  obtain ⟨ab, aoff, rfl, hab⟩ := hao
  clear hok hb hn
  have h1b : ¬ (n : Int) < 1 := by omega
  have h2b : ¬ (8 : Int) < (n : Int) := by omega
  have h3b : ¬ (l : Int) < 0 := by omega
  have h4b : ¬ (n : Int) < (l : Int) := by omega
  have HGl := Lib.hid hG
  clear hG
  go_enter Tryd.func17, Tryd.ntmps17
  go_wp2_with fail
  obtain ⟨ao, hao⟩ : ∃ ao : Option Addr, ao = some ⟨ab, aoff, none⟩ := ⟨_, rfl⟩
  rw [← hao] at hC hI ⊢
  obtain ⟨w1, hw1⟩ : ∃ w1, w1 = ((w.alloc (Obj.cells #[.slice ao n cap] 30)).alloc (Obj.cells #[.int .i64 0, .int .i64 0, .slice none 0 0, .int .i64 0, .slice none 0 0, .int .i64 0] 42)) := ⟨_, rfl⟩
  obtain ⟨W, hW⟩ : ∃ W, W = w.heap.size := ⟨_, rfl⟩
  have hx1 : Ext w w1 := by rw [hw1]; exact (by repeat (first | exact Ext.refl _ | assumption | refine Ext.alloc ?_ _ | refine Ext.drewN ?_ _ | refine Ext.drew ?_))
  have hc1 : w1.cell? ⟨W, 0, none⟩ = some (.slice ao n cap) := by rw [hw1, hW]; simp [go_sem]
  have hsp : Spot6 w1 (W + 1) := by
    have h := Spot6.new (w.alloc (Obj.cells #[.slice ao n cap] 30)) 42 0 (.int .i64 0) (.slice none 0 0) (.int .i64 0) (.slice none 0 0) (.int .i64 0)
    rw [World.size_alloc] at h
    rw [hw1, hW]
    exact h
  rw [← hw1, ← hW]
  have hWw : w.heap.size ≤ W := by omega
  have hWe : W ≤ w.heap.size := by omega
  clear hw1 hW
  refine (hC _ hx1).mono ?_
  rintro e w2 ⟨rfl, hx2⟩
  have hx02 := hx1.trans hx2
  have hsp2 := hsp.ext hx2
  have hc2 := (hx2.cell (p := ⟨W, 0, none⟩) (by show W < _; have := hsp.lt; omega)).trans hc1
  have hWl1 := hsp.lt
  clear hC hx1 hsp hc1
  go_wp2_with fail
  refine (hut w2).mono ?_
  rintro e w3 ⟨ov, rfl, ho, hx3⟩
  obtain ⟨og, oo, oc, rfl, hnoc⟩ : ∃ g off cap, ov = .slice (some ⟨g, off, none⟩) n cap ∧ n ≤ cap := by
    rcases ho.shape (by omega) with ⟨-, e⟩ | ⟨g, off, cap, e, -, -, hc, -⟩
    · have := congrArg List.length e
      rw [ints_length, nums_length] at this
      simp at this
      omega
    · rw [ints_length, nums_length, Nat.div_one] at e hc
      exact ⟨g, off, cap, e, hc⟩
  have hx03 := hx02.trans hx3
  have hsp3 := hsp2.ext hx3
  have hc3 := (hx3.cell (p := ⟨W, 0, none⟩) (by show W < _; have := hsp2.lt; omega)).trans hc2
  have hog := ho.lt og rfl
  have hW2 := hsp2.lt
  clear hut hx02 hsp2 hc2 hx2
  go_wp2_with fail
  obtain ⟨m, hm⟩ : ∃ m, ws.length = m + 1 := ⟨ws.length - 1, by have := HN.out; omega⟩
  have hst := stableFn_calls ws w3 w2.heap.size og oo oc W cap ao hm (by have := HN.out; omega) (by rw [← HN.out]; exact ho) (by have := hsp3.lt; omega) (by rw [← HN.out]; exact hc3) (hI.ext hx03) (by omega) (fun a ha => by rw [hao] at ha; cases ha; show ab ≠ og; omega)
  rw [← HN.out] at hst
  clear hm
  refine hst.mono ?_
  rintro e w4 ⟨rfl, od, hod, hoc, hg4⟩
  have HO := Lib.hid hod
  have hx04 := hx03.onto hg4 (fun q hq => by simp only [Option.some.injEq] at hq; have := hx03.size; omega)
  have hc4 := (grownBy_cell hg4 (p := ⟨W, 0, none⟩) (by show W < _; have := hsp3.lt; omega) (by simp; omega)).trans hc3
  have hlt4 := Nat.lt_of_lt_of_le hsp3.lt hg4.size
  have hsp4 : Spot6 w4 (W + 1) := hsp3.far hg4 (by simp; omega)
  clear hst hod hx03 hsp3 hc3 hx3
  have HOC : Hid (∀ j, j < n → w4.cell? ⟨og, oo + j, none⟩ = some (.int .i64 (ith od j))) := Lib.hid (fun j hj => hoc j (by rw [← HN.out]; exact hj))
  have hog4 : og < w4.heap.size := Nat.lt_of_lt_of_le hog.2 hg4.size
  clear hoc hg4 ho
  go_wp2_with fail
  go_cut [8, 9] (fun r c wx => ∃ R C, r = .slice (some ⟨R, 0, none⟩) n n ∧ c = .slice (some ⟨C, 0, none⟩) n n ∧ R ≠ C ∧ w4.heap.size ≤ R ∧ w4.heap.size ≤ C ∧ Ext w4 wx ∧ Own wx w4.heap.size 1 r (ints (List.replicate n 0)) ∧ Own wx w4.heap.size 1 c (ints (List.replicate n 0)))
  case first =>
    go_region
    all_goals
      go_wp2_with fail
      go_meet
      have hz1 := own_zeros w4 n (by omega) 3
      have hz2 := own_zeros (w4.alloc (Obj.cells (Array.replicate n (.int .i64 0)) 3)) n (by omega) 3
      rw [World.size_alloc] at hz2
      have hz3 := hz2.ext ((Ext.refl _).drew)
      have hz4 := hz1.ext (((Ext.refl _).alloc (Obj.cells (Array.replicate n (.int .i64 0)) 3)).drew)
      refine ⟨_, _, rfl, rfl, by omega, by omega, by omega, (by repeat (first | exact Ext.refl _ | assumption | refine Ext.alloc ?_ _ | refine Ext.drewN ?_ _ | refine Ext.drew ?_)), ?_, ?_⟩
      all_goals first | exact hz4 | exact hz3.rebase (by omega)
  case rest =>
    obtain ⟨R, C, rfl, rfl, hRC, hR4, hC4, hx5, hoR, hoC⟩ := hcut
    clear hmk
    rename World => w5
    have HX := Lib.hid hx04
    have hsp5 := hsp4.ext hx5
    clear hsp4
    by_cases hln : l = n
    · have hlnz : (l : Int) = (n : Int) := by omega
      have h0n : (0 : Int) < (n : Int) := by omega
      obtain ⟨hr0, hf0⟩ := hoR.intAt 0 (by rw [List.length_replicate]; omega)
      rw [Nat.add_zero] at hr0 hf0
      go_wp2_with fail
      obtain ⟨w6, hw6⟩ : ∃ w6, w6 = w5.setCell ⟨R, 0, none⟩ (.int .i64 1) := ⟨_, rfl⟩
      have hg6 : w5.grownBy w6 (some R) := by rw [hw6]; exact grownBy_setCell _ _ _
      have hoR6 : Own w6 w4.heap.size 1 (.slice (some ⟨R, 0, none⟩) n n) (ints ((List.replicate n 0).set 0 1)) := by
        rw [hw6]
        exact hoR.setInt 0 (by rw [List.length_replicate]; omega) 1
      have hoC6 := hoC.keep hg6 (by right; simp [Value.ownBlock]; omega)
      have hsp6 := hsp5.far hg6 (by simp; omega)
      have hx6 : Ext w w6 := (HX.out.trans hx5).onto hg6 (fun q hq => by simp only [Option.some.injEq] at hq; have := HX.out.size; omega)
      rw [← hw6]
      clear hw6 hr0 hf0 hg6 hoR hoC hsp5 hx5
      go_loopw [62] (fun i wr => ∃ k : Nat, k ≤ n ∧ i = .int .i64 k ∧ w6.grownBy wr (some C) ∧ Own wr w4.heap.size 1 (.slice (some ⟨C, 0, none⟩) n n) (ints (fillB (fun _ => 1) (nums n) n k))) (fun i _ => n - (intOf i).toNat)
      case atStart => exact ⟨0, by omega, rfl, (Ext.refl _).grown _, hoC6⟩
      case round =>
        clear hoC6
        obtain ⟨k, hk, rfl, hgk, hoC⟩ := hrel
        by_cases hlt : k < n
        · obtain ⟨hck, hfk⟩ := hoC.intAt k (by rw [fillB_length]; omega)
          rw [Nat.zero_add] at hck hfk
          go_wp2_with fail
          have hs := hoC.setInt k (by rw [fillB_length]; omega) 1
          rw [Nat.zero_add] at hs
          have e : (fillB (fun _ => 1) (nums n) n k).set k 1 = fillB (fun _ => 1) (nums n) n (k + 1) := by rw [fillB, nums_at n k hlt]; rfl
          rw [e] at hs
          exact ⟨⟨k + 1, by omega, by go_num, grownBy_trans hgk (grownBy_setCell _ _ _), hs⟩, by simp only [intOf]; omega⟩
        · obtain rfl : k = n := by omega
          rw [fillB_one k k (Nat.le_refl _), Nat.sub_self, List.replicate_zero, List.append_nil] at hoC
          have hxr := hx6.onto hgk (fun q hq => by simp only [Option.some.injEq] at hq; have := HX.out.size; omega)
          have hGr := HGl.out.ext hxr
          have a0 := hGr.a0
          have a1 := hGr.a1
          have hspr := hsp6.far hgk (by simp; omega)
          have hoRr := hoR6.keep hgk (by right; simp [Value.ownBlock]; omega)
          obtain ⟨p0, hp0⟩ := Option.isSome_iff_exists.1 (hspr.at_ 0 (by decide)).1
          obtain ⟨p1, hp1⟩ := Option.isSome_iff_exists.1 (hspr.at_ 1 (by decide)).1
          obtain ⟨p2, hp2⟩ := Option.isSome_iff_exists.1 (hspr.at_ 2 (by decide)).1
          obtain ⟨p3, hp3⟩ := Option.isSome_iff_exists.1 (hspr.at_ 3 (by decide)).1
          obtain ⟨p4, hp4⟩ := Option.isSome_iff_exists.1 (hspr.at_ 4 (by decide)).1
          obtain ⟨p5, hp5⟩ := Option.isSome_iff_exists.1 (hspr.at_ 5 (by decide)).1
          have f0 := (hspr.at_ 0 (by decide)).2
          have f1 := (hspr.at_ 1 (by decide)).2
          have f2 := (hspr.at_ 2 (by decide)).2
          have f3 := (hspr.at_ 3 (by decide)).2
          have f4 := (hspr.at_ 4 (by decide)).2
          have f5 := (hspr.at_ 5 (by decide)).2
          have hSl := hspr.lt
          have hq := hspr.put (.int .i64 0) (.int .i64 1) (.slice (some ⟨R, 0, none⟩) k k) (.int .i64 1) (.slice (some ⟨C, 0, none⟩) k k) (.int .i64 1)
          have hg := grown_put6 wr (W + 1) (.int .i64 0) (.int .i64 1) (.slice (some ⟨R, 0, none⟩) k k) (.int .i64 1) (.slice (some ⟨C, 0, none⟩) k k) (.int .i64 1)
          unfold put6 at hq hg
          have hxe := hxr.onto hg (fun q hq => by simp only [Option.some.injEq] at hq; omega)
          have hoRe := hoRr.keep hg (by right; simp [Value.ownBlock]; omega)
          have hoCe := hoC.keep hg (by right; simp [Value.ownBlock]; omega)
          obtain ⟨q0, q1, q2, q3, q4, q5⟩ := hq
          have hes : w.heap.size ≤ w4.heap.size := HX.out.size
          have HE := Lib.hid (And.intro hxe (And.intro hoRe hoCe))
          have eB : boxOut ws od l = ⟨0, (List.replicate k 0).set 0 1, 1, List.replicate k 1, 1⟩ := by rw [boxOut, if_pos (by rw [hln, HN.out]), ← HN.out]
          have EB := Lib.hid eB
          clear hxe hoRe hoCe hg hoRr hoC hoR6 hGr hxr hgk eB
          go_wp2_with fail
          refine bodyPost_ret (v := .tuple #[.agg #[.int .i64 0, .int .i64 1, .slice (some ⟨R, 0, none⟩) k k, .int .i64 1, .slice (some ⟨C, 0, none⟩) k k, .int .i64 1], .int .i64 0]) (by simp [results, Tryd.results17, go_sem, q0, q1, q2, q3, q4, q5]) rfl ?_
          refine ⟨od, HO.out, _, _, by rw [EB.out]; rfl, ?_, ?_, HE.out.1⟩
          · rw [EB.out]; exact HE.out.2.1.rebase hes
          · rw [EB.out]; exact HE.out.2.2.rebase hes
    · have hlnz : ¬ (l : Int) = (n : Int) := by omega
      have hlnb : ((l : Int) == (n : Int)) = false := by simpa using hlnz
      have hG5 := HGl.out.ext (HX.out.trans hx5)
      have a0 := hG5.a0
      have a1 := hG5.a1
      have h0l : 0 < w5.heap.size := by have := hG5.lt; omega
      go_wp2_with fail
      go_region
      go_wp2_with fail
      obtain ⟨w6, hw6⟩ : ∃ w6, w6 = ((w5.alloc (Obj.cells #[.int .i64 0, .int .i64 1] 23)).alloc (Obj.cells #[.int .i64 0, .int .i64 1] 23)).drew := ⟨_, rfl⟩
      obtain ⟨A, hA⟩ : ∃ A, A = w5.heap.size := ⟨_, rfl⟩
      have hx56 : Ext w5 w6 := by rw [hw6]; exact (by repeat (first | exact Ext.refl _ | assumption | refine Ext.alloc ?_ _ | refine Ext.drewN ?_ _ | refine Ext.drew ?_))
      have hbA : BoxR w6 A 0 := by rw [hw6, hA]; exact ⟨⟨by simp; omega, by simp [go_sem], by simp [go_sem], by simp [go_sem], by simp [go_sem]⟩, by simp [go_sem], by simp [go_sem]⟩
      have hbB : BoxR w6 (A + 1) 0 := by rw [hw6, hA]; exact ⟨⟨by simp, by simp [go_sem], by simp [go_sem], by simp [go_sem], by simp [go_sem]⟩, by simp [go_sem], by simp [go_sem]⟩
      rw [← hw6, ← hA]
      have hAw : w5.heap.size ≤ A := by omega
      clear hw6 hA hG5 a0 a1 h0l
      obtain ⟨L, hL⟩ : ∃ L, L = wsBy ws od := ⟨_, rfl⟩
      have hFl : Fall L := by rw [hL]; exact HO.out.falls HB.out
      have hoi : ∀ k : Nat, k < n → ∃ i : Nat, i < n ∧ ith od k = (i : Int) ∧ L.getD k 1 = ith ws i := fun k hk => by
        have h := HO.out.mem (k := k) (by rw [← HN.out]; exact hk)
        refine ⟨(ith od k).toNat, by have := HN.out; omega, by omega, ?_⟩
        rw [hL]; exact wsBy_at HO.out (by rw [← HN.out]; exact hk)
      have HOI := Lib.hid hoi
      have HL := Lib.hid hL
      clear hL hoi
      have hfd : ∀ (W : World) (x y : Int), (Instr.field 23 (.agg #[.int .i64 x, .int .i64 y]) 0).run Tryd.prog W = .ok (.int .i64 x) W := fun W x y => by kernel_rfl
      go_loopw [11, 14] (fun us ks wr => ∃ k : Nat, k ≤ n ∧ ks = .int .i64 (k + 1) ∧ us = .int .i64 (bestB L l k).1 ∧ Ext w5 wr ∧ BoxR wr A (bestB L l k).2 ∧ BoxR wr (A + 1) (recT L k)) (fun _ ks _ => n + 1 - (intOf ks).toNat)
      case atStart => exact ⟨0, by omega, rfl, rfl, hx56, hbA, hbB⟩
      case round =>
        clear hbA hbB hx56
        obtain ⟨k, hk, rfl, rfl, hx, hbA, hbB⟩ := hrel
        by_cases hlt : k < n
        · obtain ⟨i, hin, hodk, hLk⟩ := HOI.out k hlt
          have hx5r := hx5.trans hx
          have hcW := (hx5r.cell (p := ⟨W, 0, none⟩) (by show W < _; omega)).trans hc4
          have hcO := (hx5r.cell (p := ⟨og, oo + k, none⟩) hog4).trans (HOC.out k hlt)
          rw [hodk] at hcO
          rw [hao] at hcW
          obtain ⟨b, off, hao2, -, hcI⟩ := (hI.ext (hx04.trans hx5r)) i (by rw [← HN.out]; exact hin)
          rw [hao] at hao2
          simp only [Option.some.injEq, Addr.mk.injEq, and_true] at hao2
          obtain ⟨rfl, rfl⟩ := hao2
          rw [← hLk] at hcI
          have hkz : (k : Int) < (n : Int) := by omega
          have hiz : (i : Int) < (n : Int) := by omega
          have hx1' := hFl.one k
          obtain ⟨hvi, hbi⟩ := ratV_inv hx1'
          have hpc := fun W2 => plusI_calls W2 (recT L k) (1 / ((L.getD k 1 : Int) : Rat)) 1862340480 20 (recT_bd hFl k (by omega)) ⟨by have := hbi.num; have := hFl.top k; omega, by have := hbi.den; have := hFl.top k; omega⟩ (by omega)
          rw [hvi, show recT L k + 1 / ((L.getD k 1 : Int) : Rat) = recT L (k + 1) from rfl] at hpc
          unfold ratV at hpc
          obtain ⟨x, hxd⟩ : ∃ x, x = L.getD k 1 := ⟨_, rfl⟩
          rw [← hxd] at hpc hcI
          clear hLk hodk hvi hbi hx1' hxd
          have b0 := hbB.c0
          have b1 := hbB.c1
          have hblt := hbB.sp.lt
          have hWlt : W < wr.heap.size := by have := hx5r.size; omega
          have holt : og < wr.heap.size := Nat.lt_of_lt_of_le hog4 hx5r.size
          have hIlt : ab < wr.heap.size := Nat.lt_of_lt_of_le hab (HX.out.trans hx5r).size
          obtain ⟨tn, htn⟩ : ∃ t, t = (recT L k).num := ⟨_, rfl⟩
          obtain ⟨td, htd⟩ : ∃ t : Int, t = ((recT L k).den : Int) := ⟨_, rfl⟩
          obtain ⟨sn, hsn⟩ : ∃ t, t = (recT L (k + 1)).num := ⟨_, rfl⟩
          obtain ⟨sd, hsd⟩ : ∃ t : Int, t = ((recT L (k + 1)).den : Int) := ⟨_, rfl⟩
          rw [← htn, ← htd, ← hsn, ← hsd] at hpc
          rw [← htn] at b0
          rw [← htd] at b1
          have HTS := Lib.hid (And.intro hsn hsd)
          clear htn htd hsn hsd
          have hspB := hbB.sp
          have hwk : IntKind.i64.wrap ((k : Int) + 1 - 1) = (k : Int) := by rw [IntKind.wrap_i64]; omega
          have hwk3 : IntKind.i64.wrap (k : Int) = (k : Int) := by rw [IntKind.wrap_i64]; omega
          have hk8 : (k : Int) < 8 := by omega
          go_wp2_with fail
          go_cut [92] (fun _ wx => BoxR wx A (bestB L l k).2 ∧ BoxR wx (A + 1) (recT L (k + 1)) ∧ Ext w5 wx)
          case first =>
            go_region_with
              ((first
                | (go_at_call 38; (with_reducible refine Calls.mono (hpc _) ?_); rintro e y1 ⟨rfl, hy1⟩; have hry : Ext wr y1 := Ext.trans (by repeat (with_reducible first | exact Ext.refl _ | assumption | refine Ext.alloc ?_ _ | refine Ext.drew ?_)) hy1; have hsy := hspB.ext hry; (obtain ⟨z0, hz0⟩ := Option.isSome_iff_exists.1 hsy.some0); (obtain ⟨z1, hz1⟩ := Option.isSome_iff_exists.1 hsy.some1); have hf0 := hsy.free0; have hf1 := hsy.free1; have hly := hsy.lt)))
            all_goals
              go_wp2_with fail
              go_meet
              exact ⟨(hbA.ext hry).far (grown_put2 _ _ _ _) (by simp), BoxR.put hsy _ HTS.out.1 HTS.out.2, ((hx.trans hry).setOwn _ _ (by show _ ≤ A + 1; omega)).setOwn _ _ (by show _ ≤ A + 1; omega)⟩
          case rest =>
            obtain ⟨hbA2, hbB2, hx2⟩ := hcut
            clear hpc hbA hbB hspB b0 b1 hcW hcO hcI hx5r hx
            rename World => wt
            by_cases hkl : k + 1 ≤ l
            · have hbk : bestB L l (k + 1) = bestB L l k := by rw [bestB, if_pos hkl]
              have HK := Lib.hid hbk
              clear hbk
              have hklz : (k : Int) + 1 ≤ (l : Int) := by omega
              go_wp2_with fail
              refine ⟨⟨k + 1, by omega, by go_num, by rw [HK.out], hx2, by rw [HK.out]; exact hbA2, hbB2⟩, by simp only [intOf]; omega⟩
            · have hklz : ¬ (k : Int) + 1 ≤ (l : Int) := by omega
              have hckl : (((k + 1 - l : Nat)) : Int) = (k : Int) + 1 - (l : Int) := by omega
              obtain ⟨hv1, hb1⟩ := ratV_nat (k + 1 - l)
              rw [hckl] at hv1
              have hR1 : 0 < recT L (k + 1) := recT_pos hFl (k + 1) (by omega)
              have hoc := fun W2 => overI_calls W2 ((k + 1 - l : Nat) : Rat) (recT L (k + 1)) 9 1862340480 ⟨by have := hb1.num; omega, by have := hb1.den; omega⟩ (recT_bd hFl (k + 1) (by omega)) (num_pos.2 hR1) (by omega) (by omega) (by omega)
              rw [hv1, show ((k + 1 - l : Nat) : Rat) / recT L (k + 1) = gainB L l (k + 1) from rfl] at hoc
              have b0 := hbB2.c0
              have b1 := hbB2.c1
              rw [← HTS.out.1] at b0
              rw [← HTS.out.2] at b1
              unfold ratV at hoc
              rw [← HTS.out.1, ← HTS.out.2] at hoc
              obtain ⟨vn, hvn⟩ : ∃ t, t = (gainB L l (k + 1)).num := ⟨_, rfl⟩
              obtain ⟨vd, hvd⟩ : ∃ t : Int, t = ((gainB L l (k + 1)).den : Int) := ⟨_, rfl⟩
              rw [← hvn, ← hvd] at hoc
              have HVS := Lib.hid (And.intro hvn hvd)
              have hwkl : IntKind.i64.wrap ((k : Int) + 1 - (l : Int)) = (k : Int) + 1 - (l : Int) := by rw [IntKind.wrap_i64]; omega
              have hGbd := gain_bd hFl l (k + 1) (by omega) (by omega)
              have hblt2 := hbB2.sp.lt
              clear hv1 hb1 hR1 hvn hvd hckl
              go_wp2_with fail
              refine (hoc _).mono ?_
              rintro e w8 ⟨rfl, hx8⟩
              have hx28 := hx2.trans hx8
              have hbA8 := hbA2.ext hx8
              have hbB8 := hbB2.ext hx8
              clear hoc hbA2 hbB2 b0 b1 hx2 hx8
              obtain ⟨an, han⟩ : ∃ t, t = (bestB L l k).2.num := ⟨_, rfl⟩
              obtain ⟨ad, had⟩ : ∃ t : Int, t = ((bestB L l k).2.den : Int) := ⟨_, rfl⟩
              have a0 := hbA8.c0
              have a1 := hbA8.c1
              rw [← han] at a0
              rw [← had] at a1
              have HAN := Lib.hid (And.intro han had)
              have hAlt := hbA8.sp.lt
              have hspA := hbA8.sp
              obtain ⟨g0, hg0⟩ := Option.isSome_iff_exists.1 hspA.some0
              obtain ⟨g1, hg1⟩ := Option.isSome_iff_exists.1 hspA.some1
              have hfA0 := hspA.free0
              have hfA1 := hspA.free1
              have hAV : A ≠ w8.heap.size := by omega
              have hnone : Hid (∀ (W9 : World), Ext w8 W9 → BoxR W9 A (bestB L l k).2 ∧ BoxR W9 (A + 1) (recT L (k + 1)) ∧ Ext w5 W9) := Lib.hid (fun W9 h => ⟨hbA8.ext h, hbB8.ext h, hx28.trans h⟩)
              have hput : Hid (∀ (W9 : World), Ext w8 W9 → BoxR ((W9.setCell ⟨A, 0, none⟩ (.int .i64 vn)).setCell ⟨A, 1, none⟩ (.int .i64 vd)) A (gainB L l (k + 1)) ∧ BoxR ((W9.setCell ⟨A, 0, none⟩ (.int .i64 vn)).setCell ⟨A, 1, none⟩ (.int .i64 vd)) (A + 1) (recT L (k + 1)) ∧ Ext w5 ((W9.setCell ⟨A, 0, none⟩ (.int .i64 vn)).setCell ⟨A, 1, none⟩ (.int .i64 vd))) := Lib.hid (fun W9 h => ⟨BoxR.put (hspA.ext h) _ HVS.out.1 HVS.out.2, (hbB8.ext h).far (grown_put2 _ _ _ _) (by simp), ((hx28.trans h).setOwn _ _ hAw).setOwn _ _ hAw⟩)
              clear han had hbA8 hbB8 hx28
              by_cases hu : (bestB L l k).1 = 0
              · have hub : (((bestB L l k).1 : Int) == 0) = true := by simp [hu]
                have HBK : Hid (bestB L l (k + 1) = (k + 1, gainB L l (k + 1))) := Lib.hid (by rw [bestB, if_neg hkl, if_pos (.inl hu)])
                clear hu
                go_wp2_with fail
                go_region
                all_goals
                  go_wp2_with fail
                  obtain ⟨e1, e2, e3⟩ := hput.out w8 (Ext.refl _)
                  have hxa : Ext ((w8.setCell ⟨A, 0, none⟩ (.int .i64 vn)).setCell ⟨A, 1, none⟩ (.int .i64 vd)) ((((w8.setCell ⟨A, 0, none⟩ (.int .i64 vn)).setCell ⟨A, 1, none⟩ (.int .i64 vd)).alloc (Obj.cells #[.int .i64 vn, .int .i64 vd] 23)).drew) := (by repeat (first | exact Ext.refl _ | assumption | refine Ext.alloc ?_ _ | refine Ext.drewN ?_ _ | refine Ext.drew ?_))
                  refine ⟨⟨k + 1, by omega, by go_num, by rw [HBK.out]; show _ = Value.int .i64 ((k + 1 : Nat) : Int); go_num, ?_, ?_, ?_⟩, by simp only [intOf]; omega⟩
                  · exact e3.trans hxa
                  · rw [HBK.out]; exact e1.ext hxa
                  · exact e2.ext hxa
              · have hub : (((bestB L l k).1 : Int) == 0) = false := by simpa using hu
                have hlk : l < k := by
                  by_cases e : l < k
                  · exact e
                  · rw [bestB_none L l k (by omega)] at hu
                    exact absurd rfl hu
                obtain ⟨u, hbu, hu1, hu2, -, -⟩ := bestB_some L l k hlk
                have hUbd := gain_bd hFl l u (by omega) hu1
                have hb2 : (bestB L l k).2 = gainB L l u := by rw [hbu]
                rw [← hb2] at hUbd
                have hmc := fun W2 => minusS_calls W2 (gainB L l (k + 1)) (bestB L l k).2 (sum_gains hGbd.1 hUbd.1 hGbd.2 hUbd.2) (by have := hUbd.1.num; omega)
                obtain ⟨dn, hdn⟩ : ∃ t, t = (gainB L l (k + 1) - (bestB L l k).2).num := ⟨_, rfl⟩
                obtain ⟨dd, hdd⟩ : ∃ t : Int, t = ((gainB L l (k + 1) - (bestB L l k).2).den : Int) := ⟨_, rfl⟩
                unfold ratV at hmc
                rw [← HAN.out.1, ← HAN.out.2, ← HVS.out.1, ← HVS.out.2, ← hdn, ← hdd] at hmc
                have HBK : Hid ((0 < dn → bestB L l (k + 1) = (k + 1, gainB L l (k + 1))) ∧ (¬ 0 < dn → bestB L l (k + 1) = bestB L l k)) := Lib.hid ⟨fun h => by rw [bestB, if_neg hkl, if_pos (.inr (by rw [← hdn]; exact h))], fun h => by rw [bestB, if_neg hkl, if_neg (by rw [not_or]; exact ⟨hu, by rw [← hdn]; exact h⟩)]⟩
                clear hu hbu hb2 hUbd hdn hdd
                go_wp2_with fail
                refine (hmc _).mono ?_
                rintro e wy ⟨rfl, hy⟩
                have hx8y : Ext w8 wy := Ext.trans (by repeat (with_reducible first | exact Ext.refl _ | assumption | refine Ext.alloc ?_ _ | refine Ext.drew ?_)) hy
                have hv0 := (hy.cell (p := ⟨w8.heap.size, 0, none⟩) (by simp)).trans (show _ = some (.int .i64 vn) by simp [go_sem])
                have hv1 := (hy.cell (p := ⟨w8.heap.size, 1, none⟩) (by simp)).trans (show _ = some (.int .i64 vd) by simp [go_sem])
                have hspy := hspA.ext hx8y
                obtain ⟨y0, hy0⟩ := Option.isSome_iff_exists.1 hspy.some0
                obtain ⟨y1, hy1⟩ := Option.isSome_iff_exists.1 hspy.some1
                have hfy0 := hspy.free0
                have hfy1 := hspy.free1
                have hly := hspy.lt
                have hVy : w8.heap.size < wy.heap.size := by have := hy.size; simp at this; omega
                clear hmc hg0 hg1 hfA0 hfA1 a0 a1
                by_cases hdp : 0 < dn
                · have HB2 := Lib.hid (HBK.out.1 hdp)
                  go_wp2_with fail
                  go_region
                  all_goals
                    go_wp2_with fail
                    obtain ⟨e1, e2, e3⟩ := hput.out (wy.drew) hx8y.drew
                    refine ⟨⟨k + 1, by omega, by go_num, by rw [HB2.out]; show _ = Value.int .i64 ((k + 1 : Nat) : Int); go_num, e3, by rw [HB2.out]; exact e1, e2⟩, by simp only [intOf]; omega⟩
                · have HB2 := Lib.hid (HBK.out.2 (by first | exact hdp | omega))
                  go_wp2_with fail
                  obtain ⟨e1, e2, e3⟩ := hnone.out _ hx8y
                  refine ⟨⟨k + 1, by omega, by go_num, by rw [HB2.out], e3, by rw [HB2.out]; exact e1, e2⟩, by simp only [intOf]; omega⟩
        · obtain rfl : k = n := by omega
          obtain ⟨u, hbu, hu1, hu2, hu3, hu4⟩ := bestB_some L l k (by omega)
          rw [hbu] at hbA ⊢
          dsimp only at hbA ⊢
          have HBU := Lib.hid (And.intro hbu (And.intro hu3 hu4))
          clear hbu hu3 hu4 hbB hfd
          have hx57 := hx
          rename World => w7
          have huoc : (u : Int) ≤ (oc : Int) := by omega
          clear hx
          obtain ⟨n, rfl⟩ : ∃ n, n = k := ⟨k, rfl⟩
          clear hlt
          go_wp2_with fail
          go_loopw [16, 117] (fun dv iv wr => ∃ i : Nat, i ≤ u ∧ iv = .int .i64 i ∧ dv = .int .i64 (lcmB L i) ∧ Ext w7 wr) (fun _ iv _ => u - (intOf iv).toNat)
          case atStart => exact ⟨0, by omega, rfl, rfl, Ext.refl _⟩
          case round =>
            obtain ⟨i, hi, rfl, rfl, hx⟩ := hrel
            by_cases hlt : i < u
            · obtain ⟨j, hjn, hodj, hLj⟩ := HOI.out i (by omega)
              have hx5r := hx5.trans (hx57.trans hx)
              have hcW := (hx5r.cell (p := ⟨W, 0, none⟩) (by show W < _; omega)).trans hc4
              have hcO := (hx5r.cell (p := ⟨og, oo + i, none⟩) hog4).trans (HOC.out i (by omega))
              rw [hodj] at hcO
              rw [hao] at hcW
              obtain ⟨b, off, hao2, -, hcI⟩ := (hI.ext (hx04.trans hx5r)) j (by rw [← HN.out]; exact hjn)
              rw [hao] at hao2
              simp only [Option.some.injEq, Addr.mk.injEq, and_true] at hao2
              obtain ⟨rfl, rfl⟩ := hao2
              rw [← hLj] at hcI
              have hjz : (j : Int) < (n : Int) := by omega
              have hiz : (i : Int) < (u : Int) := by omega
              obtain ⟨x, hxd⟩ : ∃ x, x = L.getD i 1 := ⟨_, rfl⟩
              have hx20 : 1 ≤ x ∧ x ≤ 20 := by rw [hxd]; exact ⟨hFl.one i, hFl.top i⟩
              have hl0 := lcmB_pos hFl i
              have hl1 := lcmB_le hFl i
              have hl2 := lcmB_le hFl (i + 1)
              have hl3 := lcmB_pos hFl (i + 1)
              have hnx : lcmB L (i + 1) = (lcmB L i).tdiv (Int.gcd (lcmB L i) x) * x := by rw [lcmB, hxd]
              rw [← hxd] at hcI
              have hWlt : W < wr.heap.size := by have := hx5r.size; omega
              have hIlt : ab < wr.heap.size := Nat.lt_of_lt_of_le hab (HX.out.trans hx5r).size
              have hg0 : 0 < Int.gcd (lcmB L i) x := Int.gcd_pos_of_ne_zero_right _ (by omega)
              obtain ⟨d, hd⟩ : ∃ d, d = lcmB L i := ⟨_, rfl⟩
              obtain ⟨d2, hd2⟩ : ∃ d, d = lcmB L (i + 1) := ⟨_, rfl⟩
              rw [← hd2, ← hd] at hnx
              rw [← hd] at hl0 hl1 hg0 ⊢
              rw [← hd2] at hl2 hl3
              have HD2 := Lib.hid hd2
              have hgc := fun W2 => gcdI_calls W2 d x (by omega) (by omega)
              obtain ⟨g, hg⟩ : ∃ g : Int, g = (Int.gcd d x : Int) := ⟨_, rfl⟩
              rw [← hg] at hgc hnx
              obtain ⟨q, hq⟩ : ∃ q, d.tdiv g = q := ⟨_, rfl⟩
              rw [hq] at hnx
              have hgz : ¬ g = 0 := by omega
              have hgz2 : (g == 0) = false := by simpa using hgz
              have hqb := tdivB (g := g) (show -232792560 ≤ d ∧ d ≤ 232792560 by omega)
              rw [hq] at hqb
              have hwq : IntKind.i64.wrap q = q := by rw [IntKind.wrap_i64]; omega
              have hnx2 := hnx.symm
              have hwd : IntKind.i64.wrap d2 = d2 := by rw [IntKind.wrap_i64]; omega
              clear hnx hg hd hd2 hxd hg0 hLj hodj hx5r hqb
              have e0 := After.cell hcW hWlt
              have e1 := After.cell hcI hIlt
              go_wp2_with fail
              refine wp_region_after (by kernel_rfl) (by kernel_rfl) ?_
              intro hne
              repeat (go_big_quiet_step ((go_at_call 41; with_reducible exact Calls.after (hgc _))))
              refine wpQuiet_nil ?_
              intro w9 hx9
              clear e0 e1 hne hgc
              go_wp2_with fail
              exact ⟨⟨i + 1, by omega, by go_num, by rw [HD2.out], hx.trans hx9⟩, by simp only [intOf]; omega⟩
            · obtain rfl : i = u := by omega
              obtain ⟨u, rfl⟩ : ∃ u, u = i := ⟨i, rfl⟩
              clear hlt hi
              rename World => w8
              have hx58 := hx57.trans hx
              have hbA8 := hbA.ext hx
              have hoR8 := hoR.ext hx58
              have hoC8 := hoC.ext hx58
              have hsp8 := hsp5.ext hx58
              have hx48 := hx5.trans hx58
              have hc8 := (hx48.cell (p := ⟨W, 0, none⟩) (by show W < _; omega)).trans hc4
              rw [hao] at hc8
              have HO8 : Hid (∀ j, j < n → w8.cell? ⟨og, oo + j, none⟩ = some (.int .i64 (ith od j))) := Lib.hid (fun j hj => (hx48.cell (p := ⟨og, oo + j, none⟩) hog4).trans (HOC.out j hj))
              have HI8 : Hid (∀ j, j < n → w8.cell? ⟨ab, aoff + j, none⟩ = some (.int .i64 (ith ws j))) := Lib.hid (fun j hj => by
                obtain ⟨b, off, hao2, -, hcI⟩ := (hI.ext (hx04.trans hx48)) j (by rw [← HN.out]; exact hj)
                rw [hao] at hao2
                simp only [Option.some.injEq, Addr.mk.injEq, and_true] at hao2
                obtain ⟨rfl, rfl⟩ := hao2
                exact hcI)
              have hs8 := hx48.size
              have hW8 : W < w8.heap.size := by omega
              have ho8 : og < w8.heap.size := by omega
              have hI8 : ab < w8.heap.size := Nat.lt_of_lt_of_le hab (HX.out.trans hx48).size
              have hab4 : ab < w4.heap.size := Nat.lt_of_lt_of_le hab HX.out.size
              have hx08 := HX.out.trans hx48
              have hA8 : A < w8.heap.size := hbA8.sp.lt
              have hAR : R < A ∧ C < A := by have h1 := (hoR.lt R rfl).2; have h2 := (hoC.lt C rfl).2; omega
              obtain ⟨D, hD⟩ : ∃ D, D = lcmB L u := ⟨_, rfl⟩
              have hD0 : 0 < D ∧ D ≤ 232792560 := by rw [hD]; exact ⟨lcmB_pos hFl u, lcmB_le hFl u⟩
              have HDv : Hid (∀ i, i < u → L.getD i 1 ∣ D) := Lib.hid (fun i hi => by rw [hD]; exact lcmB_dvd hFl u i hi)
              have HD := Lib.hid hD
              rw [← hD]
              clear hD hx hx57 hx58 hbA hoR hoC hsp5 HOC hc4
              go_wp2_with fail
              go_loopw [19, 139] (fun sv iv wr => ∃ i : Nat, i ≤ u ∧ iv = .int .i64 i ∧ sv = .int .i64 (sumB L D i) ∧ w8.grownBy wr (some R) ∧ Own wr w4.heap.size 1 (.slice (some ⟨R, 0, none⟩) n n) (ints (fillB (gainPart ws D) od n i))) (fun _ iv _ => u - (intOf iv).toNat)
              case atStart => exact ⟨0, by omega, rfl, rfl, (Ext.refl _).grown _, hoR8⟩
              case round =>
                clear hoR8
                obtain ⟨i, hi, rfl, rfl, hg, hoR⟩ := hrel
                by_cases hlt : i < u
                · obtain ⟨j, hjn, hodj, hLj⟩ := HOI.out i (by omega)
                  have hcW := (grownBy_cell hg (p := ⟨W, 0, none⟩) hW8 (by simp; omega)).trans hc8
                  have hcO := (grownBy_cell hg (p := ⟨og, oo + i, none⟩) ho8 (by simp; omega)).trans (HO8.out i (by omega))
                  have hcI := (grownBy_cell hg (p := ⟨ab, aoff + j, none⟩) hI8 (by simp; omega)).trans (HI8.out j hjn)
                  rw [hodj] at hcO
                  rw [← hLj] at hcI
                  have hjz : (j : Int) < (n : Int) := by omega
                  have hiz : (i : Int) < (u : Int) := by omega
                  have hS1 := sumB_le hFl (D := D) (by omega) (i + 1)
                  have hS2 : ((i + 1 : Nat) : Int) * D ≤ 8 * 232792560 := Int.mul_le_mul (by omega) hD0.2 (by omega) (by omega)
                  have hpn := part_nonneg hFl (D := D) (by omega) i
                  have hsn : sumB L D (i + 1) = sumB L D i + D.tdiv (L.getD i 1) := rfl
                  have hx1 := hFl.one i
                  have hfill : (fillB (gainPart ws D) od n i).set j (D.tdiv (L.getD i 1)) = fillB (gainPart ws D) od n (i + 1) := by
                    rw [fillB, gainPart, hodj, hLj]; rfl
                  obtain ⟨x, hxd⟩ : ∃ x, x = L.getD i 1 := ⟨_, rfl⟩
                  rw [← hxd] at hcI hpn hsn hx1 hfill
                  obtain ⟨q, hq⟩ : ∃ q, D.tdiv x = q := ⟨_, rfl⟩
                  rw [hq] at hpn hsn hfill
                  obtain ⟨hr0, hr1⟩ := hoR.intAt j (by rw [fillB_length]; exact hjn)
                  rw [Nat.zero_add] at hr0 hr1
                  have hxz : ¬ x = 0 := by omega
                  have hxz2 : (x == 0) = false := by simpa using hxz
                  have hwq : IntKind.i64.wrap q = q := by rw [IntKind.wrap_i64]; omega
                  obtain ⟨s1, hs1⟩ : ∃ s, s = sumB L D i := ⟨_, rfl⟩
                  obtain ⟨s2, hs2⟩ : ∃ s, s = sumB L D (i + 1) := ⟨_, rfl⟩
                  rw [← hs1, ← hs2] at hsn
                  rw [← hs2] at hS1
                  have hwn : IntKind.i64.wrap (s1 + q) = s2 := by rw [← hsn, IntKind.wrap_i64]; omega
                  have HS2 := Lib.hid hs2
                  rw [← hs1]
                  have hset := hoR.setInt j (by rw [fillB_length]; exact hjn) q
                  rw [hfill, Nat.zero_add] at hset
                  clear hsn hs1 hs2 hxd hLj hodj hS1 hS2 hfill hpn hoR
                  go_wp2_with fail
                  exact ⟨⟨i + 1, by omega, by go_num, by rw [HS2.out], grownBy_trans hg (grownBy_setCell _ _ _), hset⟩, by simp only [intOf]; omega⟩
                · obtain rfl : i = u := by omega
                  obtain ⟨u, rfl⟩ : ∃ u, u = i := ⟨i, rfl⟩
                  clear hlt hi
                  rename World => w9
                  have hg9 := hg
                  have hoR9 := hoR
                  have hoC9 := hoC8.keep hg (by right; simp [Value.ownBlock]; omega)
                  have hsp9 := hsp8.far hg (by simp; omega)
                  have hbA9 := hbA8.far hg (by simp; omega)
                  have hc9 := (grownBy_cell hg (p := ⟨W, 0, none⟩) hW8 (by simp; omega)).trans hc8
                  have HO9 : Hid (∀ j, j < n → w9.cell? ⟨og, oo + j, none⟩ = some (.int .i64 (ith od j))) := Lib.hid (fun j hj => (grownBy_cell hg (p := ⟨og, oo + j, none⟩) ho8 (by simp; omega)).trans (HO8.out j hj))
                  have HI9 : Hid (∀ j, j < n → w9.cell? ⟨ab, aoff + j, none⟩ = some (.int .i64 (ith ws j))) := Lib.hid (fun j hj => (grownBy_cell hg (p := ⟨ab, aoff + j, none⟩) hI8 (by simp; omega)).trans (HI8.out j hj))
                  have hx09 : Ext w w9 := hx08.onto hg (fun q hq => by simp only [Option.some.injEq] at hq; have := HX.out.size; omega)
                  have hs9 := hg.size
                  have hW9 : W < w9.heap.size := by omega
                  have ho9 : og < w9.heap.size := by omega
                  have hI9 : ab < w9.heap.size := by omega
                  obtain ⟨S, hS⟩ : ∃ S, S = sumB L D u := ⟨_, rfl⟩
                  have hSb : 0 < S ∧ S ≤ 8 * 232792560 := by
                    have h1 := sumB_le hFl (D := D) (by omega) u
                    have h2 : ((u : Nat) : Int) * D ≤ 8 * 232792560 := Int.mul_le_mul (by omega) hD0.2 (by omega) (by omega)
                    have h3 := sumB_rat hFl (D := D) u HDv.out
                    have h4 : (0 : Rat) < (sumB L D u : Rat) := by
                      rw [h3]
                      exact Rat.mul_pos (by exact_mod_cast hD0.1) (recT_pos hFl u (by omega))
                    have h5 : 0 < sumB L D u := by exact_mod_cast h4
                    rw [hS]; omega
                  have HS := Lib.hid hS
                  rw [← hS]
                  clear hS hg hoR hoC8 hsp8 hbA8 hc8 HO8 HI8 hx08
                  go_wp2_with fail
                  go_loopw [163] (fun iv wr => ∃ i : Nat, i ≤ u ∧ iv = .int .i64 i ∧ w9.grownBy wr (some C) ∧ Own wr w4.heap.size 1 (.slice (some ⟨C, 0, none⟩) n n) (ints (fillB (fun i => S - ((u - l : Nat) : Int) * gainPart ws D i) od n i))) (fun iv _ => u - (intOf iv).toNat)
                  case atStart => exact ⟨0, by omega, rfl, (Ext.refl _).grown _, hoC9⟩
                  case round =>
                    clear hoC9
                    obtain ⟨i, hi, rfl, hg, hoC⟩ := hrel
                    by_cases hlt : i < u
                    · obtain ⟨j, hjn, hodj, hLj⟩ := HOI.out i (by omega)
                      have hcW := (grownBy_cell hg (p := ⟨W, 0, none⟩) hW9 (by simp; omega)).trans hc9
                      have hcO := (grownBy_cell hg (p := ⟨og, oo + i, none⟩) ho9 (by simp; omega)).trans (HO9.out i (by omega))
                      have hcI := (grownBy_cell hg (p := ⟨ab, aoff + j, none⟩) hI9 (by simp; omega)).trans (HI9.out j hjn)
                      rw [hodj] at hcO
                      rw [← hLj] at hcI
                      have hjz : (j : Int) < (n : Int) := by omega
                      have hiz : (i : Int) < (u : Int) := by omega
                      have hpn := part_nonneg hFl (D := D) (by omega) i
                      have hx1 := hFl.one i
                      have hul : (((u - l : Nat)) : Int) = (u : Int) - (l : Int) := by omega
                      have hfill : (fillB (fun i => S - ((u - l : Nat) : Int) * gainPart ws D i) od n i).set j (S - ((u : Int) - (l : Int)) * D.tdiv (L.getD i 1)) = fillB (fun i => S - ((u - l : Nat) : Int) * gainPart ws D i) od n (i + 1) := by
                        rw [fillB, gainPart, hodj, hLj, hul]; rfl
                      obtain ⟨x, hxd⟩ : ∃ x, x = L.getD i 1 := ⟨_, rfl⟩
                      rw [← hxd] at hcI hpn hx1 hfill
                      obtain ⟨q, hq⟩ : ∃ q, D.tdiv x = q := ⟨_, rfl⟩
                      rw [hq] at hpn hfill
                      have hqb : q ≤ 232792560 := by omega
                      have hmb : ((u : Int) - (l : Int)) * q ≤ 8 * 232792560 := Int.mul_le_mul (by omega) hqb (by omega) (by omega)
                      have hmb0 : 0 ≤ ((u : Int) - (l : Int)) * q := Int.mul_nonneg (by omega) (by omega)
                      obtain ⟨pr, hpr⟩ : ∃ pr, ((u : Int) - (l : Int)) * q = pr := ⟨_, rfl⟩
                      rw [hpr] at hmb hmb0 hfill
                      obtain ⟨hr0, hr1⟩ := hoC.intAt j (by rw [fillB_length]; exact hjn)
                      rw [Nat.zero_add] at hr0 hr1
                      have hxz : ¬ x = 0 := by omega
                      have hxz2 : (x == 0) = false := by simpa using hxz
                      have hwq : IntKind.i64.wrap q = q := by rw [IntKind.wrap_i64]; omega
                      have hwu : IntKind.i64.wrap ((u : Int) - (l : Int)) = (u : Int) - (l : Int) := by rw [IntKind.wrap_i64]; omega
                      have hwp : IntKind.i64.wrap pr = pr := by rw [IntKind.wrap_i64]; omega
                      have hws : IntKind.i64.wrap (S - pr) = S - pr := by rw [IntKind.wrap_i64]; omega
                      have hset := hoC.setInt j (by rw [fillB_length]; exact hjn) (S - pr)
                      rw [hfill, Nat.zero_add] at hset
                      clear hxd hLj hodj hfill hpn hoC hul
                      go_wp2_with fail
                      exact ⟨⟨i + 1, by omega, by go_num, grownBy_trans hg (grownBy_setCell _ _ _), hset⟩, by simp only [intOf]; omega⟩
                    · obtain rfl : i = u := by omega
                      obtain ⟨u, rfl⟩ : ∃ u, u = i := ⟨i, rfl⟩
                      clear hlt hi
                      have hoRr := hoR9.keep hg (by right; simp [Value.ownBlock]; omega)
                      have hspr := hsp9.far hg (by simp; omega)
                      have hbAr := hbA9.far hg (by simp; omega)
                      have hxr : Ext w wr := hx09.onto hg (fun q hq => by simp only [Option.some.injEq] at hq; have := HX.out.size; omega)
                      obtain ⟨Rl, hRl⟩ : ∃ Rl, Rl = fillB (gainPart ws D) od n u := ⟨_, rfl⟩
                      obtain ⟨Cl, hCl⟩ : ∃ Cl, Cl = fillB (fun i => S - ((u - l : Nat) : Int) * gainPart ws D i) od n u := ⟨_, rfl⟩
                      have hRn : Rl.length = n := by rw [hRl, fillB_length]
                      have hCn : Cl.length = n := by rw [hCl, fillB_length]
                      have hpb : ∀ i, i < u → 0 ≤ gainPart ws D (ith od i) ∧ gainPart ws D (ith od i) ≤ 232792560 := fun i hi => by
                        obtain ⟨j, hjn, hodj, hLj⟩ := HOI.out i (by omega)
                        have h := part_nonneg hFl (D := D) (by omega) i
                        rw [gainPart, hodj, show ((j : Int)).toNat = j by omega, ← hLj]
                        omega
                      have hRb : ∀ x ∈ Rl, -4611686018427387904 ≤ x ∧ x ≤ 4611686018427387904 := fun x hx => by
                        rw [hRl] at hx
                        rcases fillB_mem _ _ _ _ _ hx with h | ⟨i, hi, h⟩
                        · omega
                        · have := hpb i hi; omega
                      have hCb : ∀ x ∈ Cl, -4611686018427387904 ≤ x ∧ x ≤ 4611686018427387904 := fun x hx => by
                        rw [hCl] at hx
                        rcases fillB_mem _ _ _ _ _ hx with h | ⟨i, hi, h⟩
                        · omega
                        · have h1 := hpb i hi
                          have h2 : ((u - l : Nat) : Int) * gainPart ws D (ith od i) ≤ 8 * 232792560 := Int.mul_le_mul (by omega) h1.2 h1.1 (by omega)
                          have h3 : 0 ≤ ((u - l : Nat) : Int) * gainPart ws D (ith od i) := Int.mul_nonneg (by omega) h1.1
                          omega
                      rw [← hRl] at hoRr
                      rw [← hCl] at hoC
                      have hlo1 := fun W2 (h : Ext wr W2) => lowest_calls W2 (some ⟨R, 0, none⟩) n Rl S (hoRr.intsIn.ext h) (by omega) ⟨hSb.1, by omega⟩ hRb
                      have hlo2 := fun W2 (h : Ext wr W2) => lowest_calls W2 (some ⟨C, 0, none⟩) n Cl S (hoC.intsIn.ext h) (by omega) ⟨hSb.1, by omega⟩ hCb
                      rw [hRn] at hlo1
                      rw [hCn] at hlo2
                      have eB : boxOut ws od l = ⟨gainB L l u, lowN S Rl, lowD S Rl, lowN S Cl, lowD S Cl⟩ := by
                        rw [boxOut, if_neg (by rw [← HN.out]; exact hln)]
                        simp only [← HL.out, ← HN.out, HBU.out.1, ← HD.out, ← HS.out, ← hRl, ← hCl]
                      have EB := Lib.hid eB
                      clear eB hRl hCl hRn hCn hpb hRb hCb hoRr hoC hg hoR9 hsp9 hbA9 hx09 hg9 HO9 HI9 hc9 hW9 ho9 hI9
                      obtain ⟨bn, hbn⟩ : ∃ t, t = (gainB L l u).num := ⟨_, rfl⟩
                      obtain ⟨bd, hbd⟩ : ∃ t : Int, t = ((gainB L l u).den : Int) := ⟨_, rfl⟩
                      have b0 := hbAr.c0
                      have b1 := hbAr.c1
                      rw [← hbn] at b0
                      rw [← hbd] at b1
                      have HBD := Lib.hid (And.intro hbn hbd)
                      have hAl := hbAr.sp.lt
                      have HCA : Hid (∀ W2, Ext wr W2 → W2.cell? ⟨A, 0, none⟩ = some (.int .i64 bn) ∧ W2.cell? ⟨A, 1, none⟩ = some (.int .i64 bd)) := Lib.hid (fun W2 h => ⟨(h.cell (p := ⟨A, 0, none⟩) hAl).trans b0, (h.cell (p := ⟨A, 1, none⟩) hAl).trans b1⟩)
                      have HCB : Hid (∀ w' u0 u1 u2 u3 u4 u5, Ext wr w' → ((((((w'.setCell ⟨W + 1, 0, none⟩ u0).setCell ⟨W + 1, 1, none⟩ u1).setCell ⟨W + 1, 2, none⟩ u2).setCell ⟨W + 1, 3, none⟩ u3).setCell ⟨W + 1, 4, none⟩ u4).setCell ⟨W + 1, 5, none⟩ u5).cell? ⟨A, 0, none⟩ = some (.int .i64 bn) ∧ ((((((w'.setCell ⟨W + 1, 0, none⟩ u0).setCell ⟨W + 1, 1, none⟩ u1).setCell ⟨W + 1, 2, none⟩ u2).setCell ⟨W + 1, 3, none⟩ u3).setCell ⟨W + 1, 4, none⟩ u4).setCell ⟨W + 1, 5, none⟩ u5).cell? ⟨A, 1, none⟩ = some (.int .i64 bd)) := Lib.hid (fun w' u0 u1 u2 u3 u4 u5 hx => by
                        have hg := grown_put6 w' (W + 1) u0 u1 u2 u3 u4 u5
                        have hs := hx.size
                        exact ⟨(grownBy_cell hg (p := ⟨A, 0, none⟩) (Nat.lt_of_lt_of_le hAl hs) (by simp; omega)).trans (HCA.out w' hx).1, (grownBy_cell hg (p := ⟨A, 1, none⟩) (Nat.lt_of_lt_of_le hAl hs) (by simp; omega)).trans (HCA.out w' hx).2⟩)
                      clear hbn hbd hbAr
                      go_wp2_with fail
                      go_region_held3 (fun W2 => W2.cell? ⟨A, 0, none⟩ = some (.int .i64 bn) ∧ W2.cell? ⟨A, 1, none⟩ = some (.int .i64 bd))
                        (first | (with_reducible exact HCA.out _ (by with_reducible first | exact Ext.refl _ | exact (Ext.refl _).drew | exact hxv3 | exact hxv2 | exact hxv2.drew | exact hxv3.drew)) | (with_reducible exact HCB.out _ _ _ _ _ _ _ (by with_reducible first | exact Ext.refl _ | exact (Ext.refl _).drew | exact hxv3 | exact hxv2 | exact hxv2.drew | exact hxv3.drew)))
                        ((first
                          | (go_at_call 42; (with_reducible refine Calls.mono (hlo1 _ ?_) ?_); (exact (by repeat (with_reducible first | exact Ext.refl _ | assumption | refine Ext.alloc ?_ _ | refine Ext.drew ?_))); rintro e v2 ⟨rv, rfl, hoR2, hx2⟩; have hxv2 : Ext wr v2 := Ext.trans (by repeat (with_reducible first | exact Ext.refl _ | assumption | refine Ext.alloc ?_ _ | refine Ext.drew ?_)) hx2; obtain ⟨ro, rn, rc, rfl, -⟩ := hoR2.shapeCap)
                          | (go_at_call 42; (with_reducible refine Calls.mono (hlo2 _ ?_) ?_); (exact (by repeat (with_reducible first | exact Ext.refl _ | assumption | refine Ext.alloc ?_ _ | refine Ext.drew ?_))); rintro e v3 ⟨cv, rfl, hoC3, hx3⟩; have hxv23 : Ext v2 v3 := Ext.trans (by repeat (with_reducible first | exact Ext.refl _ | assumption | refine Ext.alloc ?_ _ | refine Ext.drew ?_)) hx3; have hxv3 : Ext wr v3 := hxv2.trans hxv23; obtain ⟨co, cn, cc, rfl, -⟩ := hoC3.shapeCap; have hs3 := hspr.ext hxv3; (obtain ⟨p0, hp0⟩ := Option.isSome_iff_exists.1 (hs3.at_ 0 (by decide)).1); (obtain ⟨p1, hp1⟩ := Option.isSome_iff_exists.1 (hs3.at_ 1 (by decide)).1); (obtain ⟨p2, hp2⟩ := Option.isSome_iff_exists.1 (hs3.at_ 2 (by decide)).1); (obtain ⟨p3, hp3⟩ := Option.isSome_iff_exists.1 (hs3.at_ 3 (by decide)).1); (obtain ⟨p4, hp4⟩ := Option.isSome_iff_exists.1 (hs3.at_ 4 (by decide)).1); (obtain ⟨p5, hp5⟩ := Option.isSome_iff_exists.1 (hs3.at_ 5 (by decide)).1); have f0 := (hs3.at_ 0 (by decide)).2; have f1 := (hs3.at_ 1 (by decide)).2; have f2 := (hs3.at_ 2 (by decide)).2; have f3 := (hs3.at_ 3 (by decide)).2; have f4 := (hs3.at_ 4 (by decide)).2; have f5 := (hs3.at_ 5 (by decide)).2; have hSl := hs3.lt)))
                      all_goals
                        have hq := hs3.put (.int .i64 bn) (.int .i64 bd) (.slice ro rn rc) (.int .i64 (lowD S Rl)) (.slice co cn cc) (.int .i64 (lowD S Cl))
                        have hgp := grown_put6 v3 (W + 1) (.int .i64 bn) (.int .i64 bd) (.slice ro rn rc) (.int .i64 (lowD S Rl)) (.slice co cn cc) (.int .i64 (lowD S Cl))
                        unfold put6 at hq hgp
                        obtain ⟨q0, q1, q2, q3, q4, q5⟩ := hq
                        have hWs := hspr.lt
                        have z1 := hxr.size
                        have z2 := hxv2.size
                        have oR := ((hoR2.ext hxv23).keep hgp (by right; intro e; have := (hoR2.lt (W + 1) e).1; first | omega | (simp at this; omega))).rebase (base' := w.heap.size) (by first | omega | (simp; omega))
                        have oC := (hoC3.keep hgp (by right; intro e; have := (hoC3.lt (W + 1) e).1; first | omega | (simp at this; omega))).rebase (base' := w.heap.size) (by first | omega | (simp; omega))
                        have hxf := (hxr.trans hxv3).onto hgp (fun q hq => by simp only [Option.some.injEq] at hq; omega)
                        go_wp2_with fail
                        refine bodyPost_ret (v := .tuple #[.agg #[.int .i64 bn, .int .i64 bd, .slice ro rn rc, .int .i64 (lowD S Rl), .slice co cn cc, .int .i64 (lowD S Cl)], .int .i64 0]) (by simp [results, Tryd.results17, go_sem, q0, q1, q2, q3, q4, q5]) rfl ?_
                        refine ⟨od, HO.out, .slice ro rn rc, .slice co cn cc, by rw [EB.out, HBD.out.1, HBD.out.2], by rw [EB.out]; exact oR, by rw [EB.out]; exact oC, hxf⟩
end Go.Proofs.YtefmioppamdceaaDoor
