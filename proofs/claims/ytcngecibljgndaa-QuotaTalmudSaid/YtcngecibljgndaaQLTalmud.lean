/- QuotaTalmud: the walk. -/
import Derived.Test.YtcngecibljgndaaQPH
import Derived.Test.YtcngecibljgndaaQW
import Derived.Test.YtcngecibljgndaaQOpen
namespace Go.Proofs.Ytcngecibljgndaa
open Go.RowKit Go.Shelf

theorem p2t {w w' : World} {zb zo yo : Nat} {z y : Value} (hz : w.cell? ⟨zb, zo, none⟩ = some z) (hy : w.cell? ⟨zb, yo, none⟩ = some y) (hb : zb < w.heap.size) (hx : Ext w w') :
    (w'.cell? ⟨zb, zo, none⟩ = some z) ∧ (w'.cell? ⟨zb, yo, none⟩ = some y) := ⟨(hx.cell (p := ⟨zb, zo, none⟩) hb).trans hz, (hx.cell (p := ⟨zb, yo, none⟩) hb).trans hy⟩
theorem contest_some {E a b : Int} {r : List Int × Int} (h : contestP E a b = some r) (w : World) :
    Calls Try.prog 36 #[.int .i64 E, .int .i64 a, .int .i64 b] w fun e w' => ∃ v, e = .returned (.tuple #[.agg #[v, .int .i64 r.2], .int .i64 0]) ∧ Own w' w.heap.size 1 v (ints r.1) ∧ Ext w w' := by
  refine (contest_calls w E a b).mono ?_
  rintro e w' (⟨hn, -, -⟩ | ⟨q, v, hq, rfl, ho, hx⟩)
  · rw [h] at hn; simp at hn
  · rw [h, Option.some.injEq] at hq
    subst hq
    exact ⟨v, rfl, ho, hx⟩

/-- What Fair says of shares that are those of the Talmud, or not. -/
theorem fair_same {E d d' : Int} {xs l l' : List Int} (h : IsSh E xs l d) (h' : IsSh E xs l' d') (hf : AllFair xs l d) (hf' : AllFair xs l' d') : partsB d' l' d l = true := by
  obtain ⟨e1, e2⟩ := is_only h h' hf hf'
  subst e1 e2
  simp [partsB]
theorem fair_other {xs l l' : List Int} {d d' : Int} {i j : Nat} (hf : AllFair xs l d) (hij : i < j) (hj : j < xs.length) (ho : offP xs l' d' i j = true) : partsB d' l' d l = false := by
  cases hp : partsB d' l' d l with
  | false => rfl
  | true =>
    simp [partsB] at hp
    obtain ⟨rfl, rfl⟩ := hp
    have := hf i j hij hj
    unfold offP at ho
    rw [this] at ho
    simp at ho
set_option maxRecDepth 100000 in
set_option maxHeartbeats 4000000 in
theorem quotaTalmud_law (hA : AliveOK) (w : World) (E : Int) (ao lo : Option Addr) (cap lcap : Nat) (xs l : List Int) (d : Int) (hI : IntsIn w ao xs) (hJ : IntsIn w lo l) :
    Calls Try.prog 15 #[.int .i64 E, .slice ao xs.length cap, .agg #[.slice lo l.length lcap, .int .i64 d]] w (TrueRes w) := by
  go_enter Try.func15, Try.ntmps15
  go_wp2_with fail
  have hx1 : Ext w (w.alloc (Obj.cells #[.slice lo l.length lcap, .int .i64 d] 26)) := (by repeat (first | exact Ext.refl _ | assumption | refine Ext.alloc ?_ _ | refine Ext.drewN ?_ _ | refine Ext.drew ?_))
  have hbx := PBox.new w 26 (.slice lo l.length lcap) d
  obtain ⟨B, hB⟩ : ∃ B, B = w.heap.size := ⟨_, rfl⟩
  generalize (w.alloc (Obj.cells #[.slice lo l.length lcap, .int .i64 d] 26)) = w1 at *
  rw [← hB] at hbx ⊢
  clear hB
  refine (few_calls _ ao xs.length cap).mono ?_
  rintro e w2 ⟨rfl, hx2⟩
  have hx12 := hx1.trans hx2
  have hb2 := hbx.ext hx2
  obtain ⟨q0, q1, q2⟩ := id hb2
  cases hd : decide (xs.length ≤ 40) with
  | false =>
    go_wp2_with fail
    refine (hA w _ hx12).mono ?_
    rintro e w9 ⟨rfl, hx9⟩
    go_wp2_with fail
    go_ret
    exact ⟨rfl, hx9⟩
  | true =>
    go_wp2_with fail
    refine (few_calls _ lo l.length lcap).mono ?_
    rintro e w3 ⟨rfl, hx3⟩
    have hx13 := hx12.trans hx3
    have hb3 := hb2.ext hx3
    clear q0 q1 q2
    obtain ⟨q0, q1, q2⟩ := id hb3
    cases hd2 : decide (l.length ≤ 40) with
    | false =>
      go_wp2_with fail
      refine (hA w _ hx13).mono ?_
      rintro e w9 ⟨rfl, hx9⟩
      go_wp2_with fail
      go_ret
      exact ⟨rfl, hx9⟩
    | true =>
      have hl1 : xs.length ≤ 40 := by simpa using hd
      have hl2 : l.length ≤ 40 := by simpa using hd2
      clear hd hd2
      go_wp2_with fail
      refine (share_calls _ 3 E ao cap xs (hI.ext hx13) (by omega)).mono ?_
      rintro e w4 (⟨hn, rfl, hx4⟩ | ⟨q, v, hq, rfl, ho, hx4⟩)
      · clear hn
        have hx14 := hx13.trans hx4
        go_wp2_with fail
        have hx15 : Ext w (w4.alloc (Obj.cells #[.slice none 0 0, .int .i64 0] 26)) := (by repeat (first | exact Ext.refl _ | assumption | refine Ext.alloc ?_ _ | refine Ext.drewN ?_ _ | refine Ext.drew ?_))
        refine (hA w _ hx15).mono ?_
        rintro e w9 ⟨rfl, hx9⟩
        go_wp2_with fail
        go_ret
        exact ⟨rfl, hx9⟩
      · obtain ⟨hP, hqq, hS, hF⟩ := share_three hq
        have hx14 := hx13.trans hx4
        obtain ⟨so, sc, rfl, hSI, -⟩ := ho.intsShape
        clear ho hqq
        have HC : Hid (∀ a b, xs = [a, b] → contestP E a b = some q) := Lib.hid (fun a b e => by subst e; exact contest_talmud hq)
        clear hq
        obtain ⟨t, ht⟩ : ∃ t, t = q.1 := ⟨_, rfl⟩
        obtain ⟨u, hu⟩ : ∃ u, u = q.2 := ⟨_, rfl⟩
        have HQ : Hid (q = (t, u)) := Lib.hid (by rw [ht, hu])
        rw [← ht, ← hu] at hS hF
        rw [← ht] at hSI
        rw [← ht, ← hu]
        clear ht hu
        have HF := Lib.hid hF
        have HS := Lib.hid hS
        have HP := Lib.hid hP
        have hlt : t.length ≤ 40 := by rw [hS.len]; exact hl1
        clear hF hS hP q0 q1 q2
        go_wp2_with fail
        have hx5 : Ext w4 (w4.alloc (Obj.cells #[.slice so t.length sc, .int .i64 u] 26)) := (by repeat (first | exact Ext.refl _ | assumption | refine Ext.alloc ?_ _ | refine Ext.drewN ?_ _ | refine Ext.drew ?_))
        have hbt := PBox.new w4 26 (.slice so t.length sc) u
        obtain ⟨T, hT⟩ : ∃ T, T = w4.heap.size := ⟨_, rfl⟩
        generalize (w4.alloc (Obj.cells #[.slice so t.length sc, .int .i64 u] 26)) = w5 at *
        rw [← hT] at hbt ⊢
        clear hT
        have hx15 := hx14.trans hx5
        replace hSI := hSI.ext hx5
        have hb5 := (hb3.ext hx4).ext hx5
        refine (fair_calls _ E ao so cap sc xs t u (hI.ext hx15) hSI (by omega) (by omega)).mono ?_
        rintro e w6 (⟨hno, rfl, hx6⟩ | ⟨-, -, -, rfl, hx6⟩ | ⟨-, -, i, j, hij, hj, -, hoff, v, rfl, ho, hx6⟩)
        · exact absurd ⟨HP.out, HS.out⟩ hno
        · have hx16 := hx15.trans hx6
          have hb6 := hb5.ext hx6
          have hbt6 := hbt.ext hx6
          obtain ⟨q0, q1, q2⟩ := id hb6
          obtain ⟨r0, r1, r2⟩ := id hbt6
          have hfc := fun W h1 h2 => fair_calls W E ao lo cap lcap xs l d h1 h2 (by omega) (by omega)
          go_wp2_with fail
          refine (hfc _ (hI.ext hx16) (hJ.ext hx16)).mono ?_
          rintro e w7 (⟨hno, rfl, hx7⟩ | ⟨-, hS2, hF2, rfl, hx7⟩ | ⟨-, hS2, i, j, hij, hj, -, hoff, v, rfl, ho, hx7⟩)
          · clear hno hfc q0 q1 q2 r0 r1 r2
            have hx17 := hx16.trans hx7
            replace hSI := (hSI.ext hx6).ext hx7
            replace hbt := hbt6.ext hx7
            by_cases h2 : xs.length = 2
            · obtain ⟨a, b, hab⟩ : ∃ a b, xs = [a, b] := by
                match xs, h2 with
                | [a, b], _ => exact ⟨a, b, rfl⟩
              have hcs := fun W => contest_some (HC.out a b hab) W
              have hac : ith xs 0 = a := by rw [hab]; rfl
              have hbc : ith xs 1 = b := by rw [hab]; rfl
              obtain ⟨xb, xf, rfl, hxb, hxc0⟩ := (hI.ext hx17) 0 (by omega)
              obtain ⟨xb2, xf2, he2, -, hxc1⟩ := (hI.ext hx17) 1 (by omega)
              simp only [Option.some.injEq, Addr.mk.injEq, and_true] at he2
              obtain ⟨rfl, rfl⟩ := he2
              rw [hac, Nat.add_zero] at hxc0
              rw [hbc] at hxc1
              rw [HQ.out] at hcs
              clear hab hac hbc
              have hll : t.length ≤ 1000000 := by omega
              go_wp2_with fail
              go_region_held3 (fun w' => (w'.cell? ⟨xb, xf, none⟩ = some (.int .i64 a)) ∧ (w'.cell? ⟨xb, xf + 1, none⟩ = some (.int .i64 b)))
                (exact p2t hxc0 hxc1 hxb (by repeat (first | exact Ext.refl _ | with_reducible assumption | refine Ext.alloc ?_ _ | refine Ext.drew ?_ | (refine Ext.setOwn ?_ _ _ (by first | exact Nat.le_refl _ | exact hxk1.size)))))
                ((first
                  | (go_at_call 36; refine (hcs _).mono ?_; rintro e v1 ⟨v, rfl, ho9, hx11⟩; have hxk1 : Ext w7 v1 := Ext.trans (by repeat (first | exact Ext.refl _ | with_reducible assumption | refine Ext.alloc ?_ _ | refine Ext.drew ?_ | (refine Ext.setOwn ?_ _ _ (by first | exact Nat.le_refl _ | exact hxk1.size)))) hx11; obtain ⟨so2, sc2, rfl, hSI2, hlow⟩ := ho9.intsShape; clear ho9; (first | (have hsp := ((Spot.new w7 26 (.slice none 0 0) (.int .i64 0)).ext ((Ext.refl _).drew)).ext hx11; obtain ⟨c0, hc0⟩ := Option.isSome_iff_exists.1 hsp.some0; obtain ⟨c1, hc1⟩ := Option.isSome_iff_exists.1 hsp.some1; have hf0 := hsp.free0; have hf1 := hsp.free1; have hspl := hsp.lt) | (have hsp := (Spot.new w7.drew 26 (.slice none 0 0) (.int .i64 0)).ext hx11; obtain ⟨c0, hc0⟩ := Option.isSome_iff_exists.1 hsp.some0; obtain ⟨c1, hc1⟩ := Option.isSome_iff_exists.1 hsp.some1; have hf0 := hsp.free0; have hf1 := hsp.free1; have hspl := hsp.lt) | skip))))
              · have hbx2 := PBox.new v1 26 (.slice so2 t.length sc2) u
                have hx10 : Ext v1 (v1.alloc (Obj.cells #[.slice so2 t.length sc2, .int .i64 u] 26)) := (Ext.refl _).alloc _
                obtain ⟨C, hC⟩ : ∃ C, C = v1.heap.size := ⟨_, rfl⟩
                generalize (v1.alloc (Obj.cells #[.slice so2 t.length sc2, .int .i64 u] 26)) = w10 at *
                rw [← hC] at hbx2 ⊢
                replace hSI2 := hSI2.ext hx10
                replace hx10 := hxk1.trans hx10
                clear hC hlow hx11 hxk1
                replace hSI := hSI.ext hx10
                replace hbt := hbt.ext hx10
                have hx010 := hx17.trans hx10
                obtain ⟨r0, r1, r2⟩ := id hbx2
                obtain ⟨s0, s1, s2⟩ := id hbt
                clear hxc0 hxc1 hxb
                have hpc := fun W h1 h2 => parts_calls W so2 so sc2 sc t t u u h1 h2 hll hll
                rw [show partsB u t u t = true by simp [partsB]] at hpc
                go_wp2_with fail
                refine (hpc _ hSI2 hSI).mono ?_
                rintro e w12 ⟨rfl, hx12⟩
                have hx0r := hx010.trans hx12
                clear r0 r1 r2 s0 s1 s2
                go_wp2_with fail
                refine (hA w _ hx0r).mono ?_
                rintro e w9 ⟨rfl, hx9⟩
                go_wp2_with fail
                go_ret
                exact ⟨rfl, hx9⟩
              · obtain ⟨z0, z1⟩ := hsp.put (.slice so2 t.length sc2) (.int .i64 u)
                have hlow2 : ∀ a, so2 = some a → w7.heap.size + 1 ≤ a.block := fun a ha => by have := (hlow a ha).1; simp at this; omega
                clear hlow
                have hx10 : Ext w7 ((v1.setCell ⟨w7.heap.size, 0, none⟩ (.slice so2 t.length sc2)).setCell ⟨w7.heap.size, 1, none⟩ (.int .i64 u)) := (hxk1.setOwn _ _ (Nat.le_refl _)).setOwn _ _ (Nat.le_refl _)
                have hbx2 : PBox ((v1.setCell ⟨w7.heap.size, 0, none⟩ (.slice so2 t.length sc2)).setCell ⟨w7.heap.size, 1, none⟩ (.int .i64 u)) w7.heap.size (.slice so2 t.length sc2) u := ⟨z0, z1, by simpa [World.setCell] using hspl⟩
                replace hSI2 := (hSI2.grown (grownBy_setCell _ ⟨w7.heap.size, 0, none⟩ (.slice so2 t.length sc2)) (fun a ha e => by have := hlow2 a ha; simp only [Option.some.injEq] at e; omega)).grown (grownBy_setCell _ ⟨w7.heap.size, 1, none⟩ (.int .i64 u)) (fun a ha e => by have := hlow2 a ha; simp only [Option.some.injEq] at e; omega)
                clear z0 z1 hsp hc0 hc1 hf0 hf1 hx11 hxk1 hlow2
                obtain ⟨C, hC⟩ : ∃ C, C = w7.heap.size := ⟨_, rfl⟩
                generalize ((v1.setCell ⟨w7.heap.size, 0, none⟩ (.slice so2 t.length sc2)).setCell ⟨w7.heap.size, 1, none⟩ (.int .i64 u)) = w10 at *
                rw [← hC] at hbx2 ⊢
                clear hC hspl
                replace hSI := hSI.ext hx10
                replace hbt := hbt.ext hx10
                have hx010 := hx17.trans hx10
                obtain ⟨r0, r1, r2⟩ := id hbx2
                obtain ⟨s0, s1, s2⟩ := id hbt
                clear hxc0 hxc1 hxb
                have hpc := fun W h1 h2 => parts_calls W so2 so sc2 sc t t u u h1 h2 hll hll
                rw [show partsB u t u t = true by simp [partsB]] at hpc
                go_wp2_with fail
                refine (hpc _ hSI2 hSI).mono ?_
                rintro e w12 ⟨rfl, hx12⟩
                have hx0r := hx010.trans hx12
                clear r0 r1 r2 s0 s1 s2
                go_wp2_with fail
                refine (hA w _ hx0r).mono ?_
                rintro e w9 ⟨rfl, hx9⟩
                go_wp2_with fail
                go_ret
                exact ⟨rfl, hx9⟩
            · have h2b : ((xs.length : Int) != 2) = true := by simp; omega
              go_wp2_with fail
              refine (hA w _ hx17).mono ?_
              rintro e w9 ⟨rfl, hx9⟩
              go_wp2_with fail
              go_ret
              exact ⟨rfl, hx9⟩
          · have hpb := fair_same HS.out hS2 HF.out ((allFair_iff xs l d).2 hF2)
            clear hfc q0 q1 q2 r0 r1 r2 hS2 hF2
            have hx17 := hx16.trans hx7
            replace hSI := (hSI.ext hx6).ext hx7
            replace hbt := hbt6.ext hx7
            have hb7 := hb6.ext hx7
            obtain ⟨q0, q1, q2⟩ := id hb7
            obtain ⟨r0, r1, r2⟩ := id hbt
            have hpc := fun W h1 h2 => parts_calls W lo so lcap sc l t d u h1 h2 (by omega) (by omega)
            rw [hpb] at hpc
            go_wp2_with fail
            refine (hpc _ (hJ.ext hx17) hSI).mono ?_
            rintro e w8 ⟨rfl, hx8⟩
            clear hpc q0 q1 q2 r0 r1 r2 hpb hx7 hx6 hb7 hb6 hbt6 hx16
            replace hx17 := hx17.trans hx8
            replace hSI := hSI.ext hx8
            replace hbt := hbt.ext hx8
            by_cases h2 : xs.length = 2
            · obtain ⟨a, b, hab⟩ : ∃ a b, xs = [a, b] := by
                match xs, h2 with
                | [a, b], _ => exact ⟨a, b, rfl⟩
              have hcs := fun W => contest_some (HC.out a b hab) W
              have hac : ith xs 0 = a := by rw [hab]; rfl
              have hbc : ith xs 1 = b := by rw [hab]; rfl
              obtain ⟨xb, xf, rfl, hxb, hxc0⟩ := (hI.ext hx17) 0 (by omega)
              obtain ⟨xb2, xf2, he2, -, hxc1⟩ := (hI.ext hx17) 1 (by omega)
              simp only [Option.some.injEq, Addr.mk.injEq, and_true] at he2
              obtain ⟨rfl, rfl⟩ := he2
              rw [hac, Nat.add_zero] at hxc0
              rw [hbc] at hxc1
              rw [HQ.out] at hcs
              clear hab hac hbc
              have hll : t.length ≤ 1000000 := by omega
              go_wp2_with fail
              go_region_held3 (fun w' => (w'.cell? ⟨xb, xf, none⟩ = some (.int .i64 a)) ∧ (w'.cell? ⟨xb, xf + 1, none⟩ = some (.int .i64 b)))
                (exact p2t hxc0 hxc1 hxb (by repeat (first | exact Ext.refl _ | with_reducible assumption | refine Ext.alloc ?_ _ | refine Ext.drew ?_ | (refine Ext.setOwn ?_ _ _ (by first | exact Nat.le_refl _ | exact hxk1.size)))))
                ((first
                  | (go_at_call 36; refine (hcs _).mono ?_; rintro e v1 ⟨v, rfl, ho9, hx11⟩; have hxk1 : Ext w8 v1 := Ext.trans (by repeat (first | exact Ext.refl _ | with_reducible assumption | refine Ext.alloc ?_ _ | refine Ext.drew ?_ | (refine Ext.setOwn ?_ _ _ (by first | exact Nat.le_refl _ | exact hxk1.size)))) hx11; obtain ⟨so2, sc2, rfl, hSI2, hlow⟩ := ho9.intsShape; clear ho9; (first | (have hsp := ((Spot.new w8 26 (.slice none 0 0) (.int .i64 0)).ext ((Ext.refl _).drew)).ext hx11; obtain ⟨c0, hc0⟩ := Option.isSome_iff_exists.1 hsp.some0; obtain ⟨c1, hc1⟩ := Option.isSome_iff_exists.1 hsp.some1; have hf0 := hsp.free0; have hf1 := hsp.free1; have hspl := hsp.lt) | (have hsp := (Spot.new w8.drew 26 (.slice none 0 0) (.int .i64 0)).ext hx11; obtain ⟨c0, hc0⟩ := Option.isSome_iff_exists.1 hsp.some0; obtain ⟨c1, hc1⟩ := Option.isSome_iff_exists.1 hsp.some1; have hf0 := hsp.free0; have hf1 := hsp.free1; have hspl := hsp.lt) | skip))))
              · have hbx2 := PBox.new v1 26 (.slice so2 t.length sc2) u
                have hx10 : Ext v1 (v1.alloc (Obj.cells #[.slice so2 t.length sc2, .int .i64 u] 26)) := (Ext.refl _).alloc _
                obtain ⟨C, hC⟩ : ∃ C, C = v1.heap.size := ⟨_, rfl⟩
                generalize (v1.alloc (Obj.cells #[.slice so2 t.length sc2, .int .i64 u] 26)) = w10 at *
                rw [← hC] at hbx2 ⊢
                replace hSI2 := hSI2.ext hx10
                replace hx10 := hxk1.trans hx10
                clear hC hlow hx11 hxk1
                replace hSI := hSI.ext hx10
                replace hbt := hbt.ext hx10
                have hx010 := hx17.trans hx10
                obtain ⟨r0, r1, r2⟩ := id hbx2
                obtain ⟨s0, s1, s2⟩ := id hbt
                clear hxc0 hxc1 hxb
                have hpc := fun W h1 h2 => parts_calls W so2 so sc2 sc t t u u h1 h2 hll hll
                rw [show partsB u t u t = true by simp [partsB]] at hpc
                go_wp2_with fail
                refine (hpc _ hSI2 hSI).mono ?_
                rintro e w12 ⟨rfl, hx12⟩
                have hx0r := hx010.trans hx12
                clear r0 r1 r2 s0 s1 s2
                go_wp2_with fail
                refine (hA w _ hx0r).mono ?_
                rintro e w9 ⟨rfl, hx9⟩
                go_wp2_with fail
                go_ret
                exact ⟨rfl, hx9⟩
              · obtain ⟨z0, z1⟩ := hsp.put (.slice so2 t.length sc2) (.int .i64 u)
                have hlow2 : ∀ a, so2 = some a → w8.heap.size + 1 ≤ a.block := fun a ha => by have := (hlow a ha).1; simp at this; omega
                clear hlow
                have hx10 : Ext w8 ((v1.setCell ⟨w8.heap.size, 0, none⟩ (.slice so2 t.length sc2)).setCell ⟨w8.heap.size, 1, none⟩ (.int .i64 u)) := (hxk1.setOwn _ _ (Nat.le_refl _)).setOwn _ _ (Nat.le_refl _)
                have hbx2 : PBox ((v1.setCell ⟨w8.heap.size, 0, none⟩ (.slice so2 t.length sc2)).setCell ⟨w8.heap.size, 1, none⟩ (.int .i64 u)) w8.heap.size (.slice so2 t.length sc2) u := ⟨z0, z1, by simpa [World.setCell] using hspl⟩
                replace hSI2 := (hSI2.grown (grownBy_setCell _ ⟨w8.heap.size, 0, none⟩ (.slice so2 t.length sc2)) (fun a ha e => by have := hlow2 a ha; simp only [Option.some.injEq] at e; omega)).grown (grownBy_setCell _ ⟨w8.heap.size, 1, none⟩ (.int .i64 u)) (fun a ha e => by have := hlow2 a ha; simp only [Option.some.injEq] at e; omega)
                clear z0 z1 hsp hc0 hc1 hf0 hf1 hx11 hxk1 hlow2
                obtain ⟨C, hC⟩ : ∃ C, C = w8.heap.size := ⟨_, rfl⟩
                generalize ((v1.setCell ⟨w8.heap.size, 0, none⟩ (.slice so2 t.length sc2)).setCell ⟨w8.heap.size, 1, none⟩ (.int .i64 u)) = w10 at *
                rw [← hC] at hbx2 ⊢
                clear hC hspl
                replace hSI := hSI.ext hx10
                replace hbt := hbt.ext hx10
                have hx010 := hx17.trans hx10
                obtain ⟨r0, r1, r2⟩ := id hbx2
                obtain ⟨s0, s1, s2⟩ := id hbt
                clear hxc0 hxc1 hxb
                have hpc := fun W h1 h2 => parts_calls W so2 so sc2 sc t t u u h1 h2 hll hll
                rw [show partsB u t u t = true by simp [partsB]] at hpc
                go_wp2_with fail
                refine (hpc _ hSI2 hSI).mono ?_
                rintro e w12 ⟨rfl, hx12⟩
                have hx0r := hx010.trans hx12
                clear r0 r1 r2 s0 s1 s2
                go_wp2_with fail
                refine (hA w _ hx0r).mono ?_
                rintro e w9 ⟨rfl, hx9⟩
                go_wp2_with fail
                go_ret
                exact ⟨rfl, hx9⟩
            · have h2b : ((xs.length : Int) != 2) = true := by simp; omega
              go_wp2_with fail
              refine (hA w _ hx17).mono ?_
              rintro e w9 ⟨rfl, hx9⟩
              go_wp2_with fail
              go_ret
              exact ⟨rfl, hx9⟩
          · have hpb := fair_other (d := u) HF.out hij hj hoff
            obtain ⟨qo, qc, rfl, hQI, -⟩ := ho.intsShape
            clear hfc q0 q1 q2 r0 r1 r2 hS2 hoff ho hQI hij hj
            have hx17 := hx16.trans hx7
            replace hSI := (hSI.ext hx6).ext hx7
            replace hbt := hbt6.ext hx7
            have hb7 := hb6.ext hx7
            obtain ⟨q0, q1, q2⟩ := id hb7
            obtain ⟨r0, r1, r2⟩ := id hbt
            have hpc := fun W h1 h2 => parts_calls W lo so lcap sc l t d u h1 h2 (by omega) (by omega)
            rw [hpb] at hpc
            go_wp2_with fail
            refine (hpc _ (hJ.ext hx17) hSI).mono ?_
            rintro e w8 ⟨rfl, hx8⟩
            clear hpc q0 q1 q2 r0 r1 r2 hpb hx7 hx6 hb7 hb6 hbt6 hx16
            replace hx17 := hx17.trans hx8
            replace hSI := hSI.ext hx8
            replace hbt := hbt.ext hx8
            by_cases h2 : xs.length = 2
            · obtain ⟨a, b, hab⟩ : ∃ a b, xs = [a, b] := by
                match xs, h2 with
                | [a, b], _ => exact ⟨a, b, rfl⟩
              have hcs := fun W => contest_some (HC.out a b hab) W
              have hac : ith xs 0 = a := by rw [hab]; rfl
              have hbc : ith xs 1 = b := by rw [hab]; rfl
              obtain ⟨xb, xf, rfl, hxb, hxc0⟩ := (hI.ext hx17) 0 (by omega)
              obtain ⟨xb2, xf2, he2, -, hxc1⟩ := (hI.ext hx17) 1 (by omega)
              simp only [Option.some.injEq, Addr.mk.injEq, and_true] at he2
              obtain ⟨rfl, rfl⟩ := he2
              rw [hac, Nat.add_zero] at hxc0
              rw [hbc] at hxc1
              rw [HQ.out] at hcs
              clear hab hac hbc
              have hll : t.length ≤ 1000000 := by omega
              go_wp2_with fail
              go_region_held3 (fun w' => (w'.cell? ⟨xb, xf, none⟩ = some (.int .i64 a)) ∧ (w'.cell? ⟨xb, xf + 1, none⟩ = some (.int .i64 b)))
                (exact p2t hxc0 hxc1 hxb (by repeat (first | exact Ext.refl _ | with_reducible assumption | refine Ext.alloc ?_ _ | refine Ext.drew ?_ | (refine Ext.setOwn ?_ _ _ (by first | exact Nat.le_refl _ | exact hxk1.size)))))
                ((first
                  | (go_at_call 36; refine (hcs _).mono ?_; rintro e v1 ⟨v, rfl, ho9, hx11⟩; have hxk1 : Ext w8 v1 := Ext.trans (by repeat (first | exact Ext.refl _ | with_reducible assumption | refine Ext.alloc ?_ _ | refine Ext.drew ?_ | (refine Ext.setOwn ?_ _ _ (by first | exact Nat.le_refl _ | exact hxk1.size)))) hx11; obtain ⟨so2, sc2, rfl, hSI2, hlow⟩ := ho9.intsShape; clear ho9; (first | (have hsp := ((Spot.new w8 26 (.slice none 0 0) (.int .i64 0)).ext ((Ext.refl _).drew)).ext hx11; obtain ⟨c0, hc0⟩ := Option.isSome_iff_exists.1 hsp.some0; obtain ⟨c1, hc1⟩ := Option.isSome_iff_exists.1 hsp.some1; have hf0 := hsp.free0; have hf1 := hsp.free1; have hspl := hsp.lt) | (have hsp := (Spot.new w8.drew 26 (.slice none 0 0) (.int .i64 0)).ext hx11; obtain ⟨c0, hc0⟩ := Option.isSome_iff_exists.1 hsp.some0; obtain ⟨c1, hc1⟩ := Option.isSome_iff_exists.1 hsp.some1; have hf0 := hsp.free0; have hf1 := hsp.free1; have hspl := hsp.lt) | skip))))
              · have hbx2 := PBox.new v1 26 (.slice so2 t.length sc2) u
                have hx10 : Ext v1 (v1.alloc (Obj.cells #[.slice so2 t.length sc2, .int .i64 u] 26)) := (Ext.refl _).alloc _
                obtain ⟨C, hC⟩ : ∃ C, C = v1.heap.size := ⟨_, rfl⟩
                generalize (v1.alloc (Obj.cells #[.slice so2 t.length sc2, .int .i64 u] 26)) = w10 at *
                rw [← hC] at hbx2 ⊢
                replace hSI2 := hSI2.ext hx10
                replace hx10 := hxk1.trans hx10
                clear hC hlow hx11 hxk1
                replace hSI := hSI.ext hx10
                replace hbt := hbt.ext hx10
                have hx010 := hx17.trans hx10
                obtain ⟨r0, r1, r2⟩ := id hbx2
                obtain ⟨s0, s1, s2⟩ := id hbt
                clear hxc0 hxc1 hxb
                have hpc := fun W h1 h2 => parts_calls W so2 so sc2 sc t t u u h1 h2 hll hll
                rw [show partsB u t u t = true by simp [partsB]] at hpc
                go_wp2_with fail
                refine (hpc _ hSI2 hSI).mono ?_
                rintro e w12 ⟨rfl, hx12⟩
                have hx0r := hx010.trans hx12
                clear r0 r1 r2 s0 s1 s2
                go_wp2_with fail
                refine (hA w _ hx0r).mono ?_
                rintro e w9 ⟨rfl, hx9⟩
                go_wp2_with fail
                go_ret
                exact ⟨rfl, hx9⟩
              · obtain ⟨z0, z1⟩ := hsp.put (.slice so2 t.length sc2) (.int .i64 u)
                have hlow2 : ∀ a, so2 = some a → w8.heap.size + 1 ≤ a.block := fun a ha => by have := (hlow a ha).1; simp at this; omega
                clear hlow
                have hx10 : Ext w8 ((v1.setCell ⟨w8.heap.size, 0, none⟩ (.slice so2 t.length sc2)).setCell ⟨w8.heap.size, 1, none⟩ (.int .i64 u)) := (hxk1.setOwn _ _ (Nat.le_refl _)).setOwn _ _ (Nat.le_refl _)
                have hbx2 : PBox ((v1.setCell ⟨w8.heap.size, 0, none⟩ (.slice so2 t.length sc2)).setCell ⟨w8.heap.size, 1, none⟩ (.int .i64 u)) w8.heap.size (.slice so2 t.length sc2) u := ⟨z0, z1, by simpa [World.setCell] using hspl⟩
                replace hSI2 := (hSI2.grown (grownBy_setCell _ ⟨w8.heap.size, 0, none⟩ (.slice so2 t.length sc2)) (fun a ha e => by have := hlow2 a ha; simp only [Option.some.injEq] at e; omega)).grown (grownBy_setCell _ ⟨w8.heap.size, 1, none⟩ (.int .i64 u)) (fun a ha e => by have := hlow2 a ha; simp only [Option.some.injEq] at e; omega)
                clear z0 z1 hsp hc0 hc1 hf0 hf1 hx11 hxk1 hlow2
                obtain ⟨C, hC⟩ : ∃ C, C = w8.heap.size := ⟨_, rfl⟩
                generalize ((v1.setCell ⟨w8.heap.size, 0, none⟩ (.slice so2 t.length sc2)).setCell ⟨w8.heap.size, 1, none⟩ (.int .i64 u)) = w10 at *
                rw [← hC] at hbx2 ⊢
                clear hC hspl
                replace hSI := hSI.ext hx10
                replace hbt := hbt.ext hx10
                have hx010 := hx17.trans hx10
                obtain ⟨r0, r1, r2⟩ := id hbx2
                obtain ⟨s0, s1, s2⟩ := id hbt
                clear hxc0 hxc1 hxb
                have hpc := fun W h1 h2 => parts_calls W so2 so sc2 sc t t u u h1 h2 hll hll
                rw [show partsB u t u t = true by simp [partsB]] at hpc
                go_wp2_with fail
                refine (hpc _ hSI2 hSI).mono ?_
                rintro e w12 ⟨rfl, hx12⟩
                have hx0r := hx010.trans hx12
                clear r0 r1 r2 s0 s1 s2
                go_wp2_with fail
                refine (hA w _ hx0r).mono ?_
                rintro e w9 ⟨rfl, hx9⟩
                go_wp2_with fail
                go_ret
                exact ⟨rfl, hx9⟩
            · have h2b : ((xs.length : Int) != 2) = true := by simp; omega
              go_wp2_with fail
              refine (hA w _ hx17).mono ?_
              rintro e w9 ⟨rfl, hx9⟩
              go_wp2_with fail
              go_ret
              exact ⟨rfl, hx9⟩
        · have := HF.out i j hij hj
          unfold offP at hoff
          rw [this] at hoff
          simp at hoff
end Go.Proofs.Ytcngecibljgndaa
