/- Inspect: Is: whether a saddle is one. -/
import Derived.Test.YtefmioppamdceaaDoorMKL
namespace Go.Proofs.YtefmioppamdceaaDoor
open Go.RowKit Go.Shelf

/-- A saddle as data. -/
structure Sadd where
  vn : Int
  vd : Int
  r : List Int
  rd : Int
  c : List Int
  cd : Int
/-- A saddle of a game, of all that may be asked. -/
structure IsSad (g : List (List Int)) (m : Nat) (s : Sadd) : Prop where
  mr : IsMix s.r s.rd g.length 2199023255552
  mc : IsMix s.c s.cd m 2199023255552
  pr : properB s.vn s.vd = true
  cols : ∀ j, j < m → ¬ payC g s.r j s.r.length * s.vd < s.vn * s.rd
  rows : ∀ i, i < g.length → ¬ s.vn * s.cd < payC (turnG g m) s.c i s.c.length * s.vd
open Classical in
noncomputable def sadB (g : List (List Int)) (s : Sadd) : Bool := decide (IsSad g (rowI g 0).length s)
theorem sadB_true {g : List (List Int)} {s : Sadd} : sadB g s = true ↔ IsSad g (rowI g 0).length s := by
  classical
  unfold sadB
  rw [decide_eq_true_eq]
def isV (g : List (List Int)) (b : Bool) : Value := .tuple #[.bool (gameB g && b), .int .i64 (if gameB g then 0 else 2)]
/-- What Is returns. -/
def IsRes (w : World) (g : List (List Int)) (s : Sadd) (e : Ending) (w' : World) : Prop := e = .returned (isV g (sadB g s)) ∧ Ext w w'
set_option maxRecDepth 100000 in
set_option maxHeartbeats 4000000 in
theorem isI_calls (w : World) (go ro co : Option Addr) (gc rc cc : Nat) (g : List (List Int)) (s : Sadd) (hG : GameIn w go g) (hl : g.length ≤ 1000) (hr : ∀ k, k < g.length → (rowI g k).length ≤ 1000) (hR : IntsIn w ro s.r) (hC : IntsIn w co s.c) (hrl : s.r.length ≤ 1000) (hcl : s.c.length ≤ 1000) :
    Calls Tryd.prog 25 #[.slice go g.length gc, .agg #[.int .i64 s.vn, .int .i64 s.vd, .slice ro s.r.length rc, .int .i64 s.rd, .slice co s.c.length cc, .int .i64 s.cd]] w (IsRes w g s) := by
  have hval := fun W (hxW : Ext w W) => valid_calls W go gc g (hG.ext hxW) hl hr
  cases hgb : gameB g with
  | false =>
    have HV : Hid (isV g (sadB g s) = .tuple #[.bool false, .int .i64 2]) := Lib.hid (by unfold isV; rw [hgb]; rfl)
    rw [hgb] at hval
    unfold IsRes
    rw [HV.out]
    clear hgb
    go_enter Tryd.func25, Tryd.ntmps25
    go_wp2_with fail
    refine (hval _ (by repeat (first | exact Ext.refl _ | assumption | refine Ext.alloc ?_ _ | refine Ext.drewN ?_ _ | refine Ext.drew ?_))).mono ?_
    rintro e w2 ⟨rfl, hx2⟩
    have hx02 : Ext w w2 := Ext.trans (by repeat (first | exact Ext.refl _ | assumption | refine Ext.alloc ?_ _ | refine Ext.drewN ?_ _ | refine Ext.drew ?_)) hx2
    go_wp2_with fail
    go_ret2
    exact ⟨rfl, hx02⟩
  | true =>
    have hIsG := (gameB_iff g).1 hgb
    obtain ⟨m, hm⟩ : ∃ m, m = (rowI g 0).length := ⟨_, rfl⟩
    rw [← hm] at hIsG
    have HVT : Hid (∀ b, sadB g s = b → isV g (sadB g s) = .tuple #[.bool b, .int .i64 0]) := Lib.hid (fun b h => by unfold isV; rw [hgb, h]; rfl)
    rw [hgb] at hval
    have HSB : Hid (sadB g s = true ↔ IsSad g m s) := Lib.hid (by rw [hm]; exact sadB_true)
    obtain ⟨gb, goff, so, sc, rfl, hgl, hg0, -, -⟩ := hG 0 (by have := hIsG.n1; omega)
    rw [← hm, Nat.add_zero] at hg0
    obtain ⟨vn, vd, r, rd, c, cd⟩ := s
    simp only at hR hC hrl hcl ⊢
    obtain ⟨n, hn⟩ : ∃ n, n = g.length := ⟨_, rfl⟩
    have hm1 : Hid (∀ W, Ext w W → Calls Tryd.prog 61 #[.agg #[.slice ro r.length rc, .int .i64 rd], .int .i64 g.length, .int .i64 2199023255552] W fun e w' => e = .returned (.bool (mixB r rd g.length 2199023255552)) ∧ Ext W w') := Lib.hid (fun W h => mixture_calls W ro rc r rd g.length 2199023255552 (hR.ext h) (by omega) (by omega))
    have hm2 : Hid (∀ W, Ext w W → Calls Tryd.prog 61 #[.agg #[.slice co c.length cc, .int .i64 cd], .int .i64 m, .int .i64 2199023255552] W fun e w' => e = .returned (.bool (mixB c cd m 2199023255552)) ∧ Ext W w') := Lib.hid (fun W h => mixture_calls W co cc c cd m 2199023255552 (hC.ext h) (by omega) (by omega))
    have hpr : Hid (∀ W, Calls Tryd.prog 62 #[.agg #[.int .i64 vn, .int .i64 vd]] W fun e w' => e = .returned (.bool (properB vn vd)) ∧ Ext W w') := Lib.hid (fun W => proper_calls W vn vd)
    have HG := Lib.hid hIsG
    have hz : (0 : Int) < (g.length : Int) := by have := hIsG.n1; omega
    clear hgb hm hr
    go_enter Tryd.func25, Tryd.ntmps25
    go_wp2_with fail
    obtain ⟨w1, hw1⟩ : ∃ w1, w1 = w.alloc (Obj.cells #[.int .i64 vn, .int .i64 vd, .slice ro r.length rc, .int .i64 rd, .slice co c.length cc, .int .i64 cd] 42) := ⟨_, rfl⟩
    obtain ⟨B, hB⟩ : ∃ B, B = w.heap.size := ⟨_, rfl⟩
    have hx1 : Ext w w1 := by rw [hw1]; exact (by repeat (first | exact Ext.refl _ | assumption | refine Ext.alloc ?_ _ | refine Ext.drewN ?_ _ | refine Ext.drew ?_))
    have k0 : w1.cell? ⟨B, 0, none⟩ = some (.int .i64 vn) := by rw [hw1, hB]; simp [go_sem]
    have k1 : w1.cell? ⟨B, 1, none⟩ = some (.int .i64 vd) := by rw [hw1, hB]; simp [go_sem]
    have k2 : w1.cell? ⟨B, 2, none⟩ = some (.slice ro r.length rc) := by rw [hw1, hB]; simp [go_sem]
    have k3 : w1.cell? ⟨B, 3, none⟩ = some (.int .i64 rd) := by rw [hw1, hB]; simp [go_sem]
    have k4 : w1.cell? ⟨B, 4, none⟩ = some (.slice co c.length cc) := by rw [hw1, hB]; simp [go_sem]
    have k5 : w1.cell? ⟨B, 5, none⟩ = some (.int .i64 cd) := by rw [hw1, hB]; simp [go_sem]
    have hBl : B < w1.heap.size := by rw [hw1, hB]; simp
    rw [← hw1, ← hB]
    clear hw1 hB
    refine (hval _ hx1).mono ?_
    rintro e w2 ⟨rfl, hx2⟩
    have hx02 := hx1.trans hx2
    have k0 := (hx2.cell (p := ⟨B, 0, none⟩) hBl).trans k0
    have k1 := (hx2.cell (p := ⟨B, 1, none⟩) hBl).trans k1
    have k2 := (hx2.cell (p := ⟨B, 2, none⟩) hBl).trans k2
    have k3 := (hx2.cell (p := ⟨B, 3, none⟩) hBl).trans k3
    have k4 := (hx2.cell (p := ⟨B, 4, none⟩) hBl).trans k4
    have k5 := (hx2.cell (p := ⟨B, 5, none⟩) hBl).trans k5
    have hBl := Nat.lt_of_lt_of_le hBl hx2.size
    have hg2 := (hx02.cell (p := ⟨gb, goff, none⟩) hgl).trans hg0
    have hgl2 := Nat.lt_of_lt_of_le hgl hx02.size
    clear hval hx1 hx2 hg0
    replace hm1 : Hid (∀ s : After w2, Calls Tryd.prog 61 #[.agg #[.slice ro r.length rc, .int .i64 rd], .int .i64 g.length, .int .i64 2199023255552] s.at_ fun e w' => e = .returned (.bool (mixB r rd g.length 2199023255552)) ∧ Ext s.at_ w') := Lib.hid (fun s => hm1.out _ (hx02.trans s.ext))
    replace hm2 : Hid (∀ s : After w2, Calls Tryd.prog 61 #[.agg #[.slice co c.length cc, .int .i64 cd], .int .i64 m, .int .i64 2199023255552] s.at_ fun e w' => e = .returned (.bool (mixB c cd m 2199023255552)) ∧ Ext s.at_ w') := Lib.hid (fun s => hm2.out _ (hx02.trans s.ext))
    have e0 := After.cell k0 hBl
    have e1 := After.cell k1 hBl
    have e2 := After.cell k2 hBl
    have e3 := After.cell k3 hBl
    have e4 := After.cell k4 hBl
    have e5 := After.cell k5 hBl
    have eg := After.cell hg2 hgl2
    cases h1 : mixB r rd g.length 2199023255552 with
    | false =>
      have HV := Lib.hid (HVT.out false (by
        cases e : sadB g ⟨vn, vd, r, rd, c, cd⟩ with
        | false => rfl
        | true => have := mixB_true.2 (HSB.out.1 e).mr; rw [h1] at this; cases this))
      rw [h1] at hm1
      go_wp2_with fail
      refine wp_region_after (by kernel_rfl) (by kernel_rfl) ?_
      intro hne
      repeat (go_big_quiet_step (first | (go_at_call 61; with_reducible exact Calls.after (hm1.out _)) | (go_at_call 61; with_reducible exact Calls.after (hm2.out _)) | (go_at_call 62; with_reducible exact Calls.after (hpr.out _))))
      refine wpQuiet_nil ?_
      intro w3 hx3
      clear e0 e1 e2 e3 e4 e5 eg hne
      go_wp2_with fail
      go_ret2
      exact ⟨by rw [HV.out]; rfl, hx02.trans hx3⟩
    | true =>
      rw [h1] at hm1
      cases h2 : mixB c cd m 2199023255552 with
      | false =>
        have HV := Lib.hid (HVT.out false (by
          cases e : sadB g ⟨vn, vd, r, rd, c, cd⟩ with
          | false => rfl
          | true => have := mixB_true.2 (HSB.out.1 e).mc; rw [h2] at this; cases this))
        rw [h2] at hm2
        go_wp2_with fail
        refine wp_region_after (by kernel_rfl) (by kernel_rfl) ?_
        intro hne
        repeat (go_big_quiet_step (first | (go_at_call 61; with_reducible exact Calls.after (hm1.out _)) | (go_at_call 61; with_reducible exact Calls.after (hm2.out _)) | (go_at_call 62; with_reducible exact Calls.after (hpr.out _))))
        refine wpQuiet_nil ?_
        intro w3 hx3
        clear e0 e1 e2 e3 e4 e5 eg hne
        go_wp2_with fail
        go_ret2
        exact ⟨by rw [HV.out]; rfl, hx02.trans hx3⟩
      | true =>
        rw [h2] at hm2
        cases h3 : properB vn vd with
        | false =>
          have HV := Lib.hid (HVT.out false (by
            cases e : sadB g ⟨vn, vd, r, rd, c, cd⟩ with
            | false => rfl
            | true => have := (HSB.out.1 e).pr; rw [h3] at this; cases this))
          rw [h3] at hpr
          go_wp2_with fail
          refine wp_region_after (by kernel_rfl) (by kernel_rfl) ?_
          intro hne
          repeat (go_big_quiet_step (first | (go_at_call 61; with_reducible exact Calls.after (hm1.out _)) | (go_at_call 61; with_reducible exact Calls.after (hm2.out _)) | (go_at_call 62; with_reducible exact Calls.after (hpr.out _))))
          refine wpQuiet_nil ?_
          intro w3 hx3
          clear e0 e1 e2 e3 e4 e5 eg hne
          go_wp2_with fail
          go_ret2
          exact ⟨by rw [HV.out]; rfl, hx02.trans hx3⟩
        | true =>
          rw [h3] at hpr
          have M1 := mixB_true.1 h1
          have M2 := mixB_true.1 h2
          have hp3 := h3
          unfold properB at hp3
          rw [decide_eq_true_eq] at hp3
          have HOK : Hid ((∀ j, j < m → ¬ payC g r j r.length * vd < vn * rd) → (∀ i, i < g.length → ¬ vn * cd < payC (turnG g m) c i c.length * vd) → isV g (sadB g ⟨vn, vd, r, rd, c, cd⟩) = .tuple #[.bool true, .int .i64 0]) := Lib.hid (fun a b => HVT.out true (HSB.out.2 ⟨M1, M2, h3, a, b⟩))
          have HBC : Hid (∀ j, j < m → payC g r j r.length * vd < vn * rd → isV g (sadB g ⟨vn, vd, r, rd, c, cd⟩) = .tuple #[.bool false, .int .i64 0]) := Lib.hid (fun j hj hlt => HVT.out false (by
            cases e : sadB g ⟨vn, vd, r, rd, c, cd⟩ with
            | false => rfl
            | true => exact absurd hlt ((HSB.out.1 e).cols j hj)))
          have HBR : Hid (∀ i, i < g.length → vn * cd < payC (turnG g m) c i c.length * vd → isV g (sadB g ⟨vn, vd, r, rd, c, cd⟩) = .tuple #[.bool false, .int .i64 0]) := Lib.hid (fun i hi hlt => HVT.out false (by
            cases e : sadB g ⟨vn, vd, r, rd, c, cd⟩ with
            | false => rfl
            | true => exact absurd hlt ((HSB.out.1 e).rows i hi)))
          clear h1 h2 h3 HVT HSB
          go_wp2_with fail
          refine wp_region_after (by kernel_rfl) (by kernel_rfl) ?_
          intro hne
          repeat (go_big_quiet_step (first | (go_at_call 61; with_reducible exact Calls.after (hm1.out _)) | (go_at_call 61; with_reducible exact Calls.after (hm2.out _)) | (go_at_call 62; with_reducible exact Calls.after (hpr.out _))))
          refine wpQuiet_nil ?_
          intro w3 hx3
          clear e0 e1 e2 e3 e4 e5 eg hne
          have hx03 := hx02.trans hx3
          have k0 := (hx3.cell (p := ⟨B, 0, none⟩) hBl).trans k0
          have k1 := (hx3.cell (p := ⟨B, 1, none⟩) hBl).trans k1
          have k2 := (hx3.cell (p := ⟨B, 2, none⟩) hBl).trans k2
          have k3 := (hx3.cell (p := ⟨B, 3, none⟩) hBl).trans k3
          have k4 := (hx3.cell (p := ⟨B, 4, none⟩) hBl).trans k4
          have k5 := (hx3.cell (p := ⟨B, 5, none⟩) hBl).trans k5
          have hBl := Nat.lt_of_lt_of_le hBl hx3.size
          have hg3 := (hx3.cell (p := ⟨gb, goff, none⟩) hgl2).trans hg2
          clear hm1 hm2 hpr hx02 hx3 hg2 hgl2
          have hrb : ∀ k, k < r.length → -2199023255552 ≤ ith r k ∧ ith r k ≤ 2199023255552 := fun k hk => by
            have a1 := M1.pos k hk
            have a2 := sm_ge_one r.length M1.pos hk
            have a3 := M1.sum
            have a4 := M1.denM
            omega
          have hcb : ∀ k, k < c.length → -2199023255552 ≤ ith c k ∧ ith c k ≤ 2199023255552 := fun k hk => by
            have a1 := M2.pos k hk
            have a2 := sm_ge_one c.length M2.pos hk
            have a3 := M2.sum
            have a4 := M2.denM
            omega
          have hrn : r.length = g.length := by have := M1.len; omega
          have hcm : c.length = m := by have := M2.len; omega
          have hn5 := HG.out.n5
          have hm5 := HG.out.m5
          have hn1 := HG.out.n1
          have HPC : Hid (∀ j, j < m → -1099511627776000000 ≤ payC g r j r.length ∧ payC g r j r.length ≤ 1099511627776000000) := Lib.hid (fun j hj => by
            have h := payC_bd (g := g) (l := r) (j := j) (B := 2199023255552) (by omega) hrb (fun i hi => HG.out.ent i j (by omega) hj) r.length (Nat.le_refl _)
            have : (r.length : Int) ≤ 5 := by omega
            have h2 : (r.length : Int) * (2199023255552 * 100) ≤ 5 * (2199023255552 * 100) := Int.mul_le_mul_of_nonneg_right this (by omega)
            omega)
          have HAG : Hid (∀ W (_ : Ext w W) j, j < m → Calls Tryd.prog 64 #[.slice (some ⟨gb, goff, none⟩) g.length gc, .slice ro r.length rc, .int .i64 j] W fun e w' => e = .returned (.int .i64 (payC g r j r.length)) ∧ Ext W w') := Lib.hid (fun W hW j hj =>
            against_calls W _ ro gc rc g r j (hG.ext hW) (hR.ext hW) (by omega) (by omega) (fun k hk => by rw [HG.out.row k (by omega)]; exact hj) hrb (fun i hi => HG.out.ent i j (by omega) hj))
          have hrdb := M1.den1
          have hrdm := M1.denM
          have hcdb := M2.den1
          have hcdm := M2.denM
          have HR := Lib.hid hR
          have HCC := Lib.hid hC
          have HGG := Lib.hid hG
          have HRC := Lib.hid (And.intro hrb hcb)
          have HLN := Lib.hid (And.intro hrn hcm)
          clear M1 M2 hrb hcb hrn hcm hR hC hG
          go_wp2_with fail
          go_loopw [38] (fun jv wr => ∃ j : Nat, j ≤ m ∧ jv = .int .i64 j ∧ Hid (∀ k, k < j → vn * rd ≤ payC g r k r.length * vd) ∧ Ext w3 wr) (fun jv _ => m - (intOf jv).toNat)
          case atStart => exact ⟨0, by omega, rfl, Lib.hid (fun k hk => by omega), Ext.refl _⟩
          case round =>
            obtain ⟨j, hj, rfl, HP, hx⟩ := hrel
            by_cases hlt : j < m
            · have b0 := (hx.cell (p := ⟨B, 0, none⟩) hBl).trans k0
              have b1 := (hx.cell (p := ⟨B, 1, none⟩) hBl).trans k1
              have b2 := (hx.cell (p := ⟨B, 2, none⟩) hBl).trans k2
              have b3 := (hx.cell (p := ⟨B, 3, none⟩) hBl).trans k3
              have hBr := Nat.lt_of_lt_of_le hBl hx.size
              have hpb := HPC.out j hlt
              obtain ⟨P, hP⟩ : ∃ P, P = payC g r j r.length := ⟨_, rfl⟩
              obtain ⟨z, hzd⟩ : ∃ z, z = cmpZ (P * vd) (vn * rd) := ⟨_, rfl⟩
              have hag : Hid (∀ s : After wr, Calls Tryd.prog 64 #[.slice (some ⟨gb, goff, none⟩) g.length gc, .slice ro r.length rc, .int .i64 j] s.at_ fun e w' => e = .returned (.int .i64 P) ∧ Ext s.at_ w') := Lib.hid (fun s => by rw [hP]; exact HAG.out s.at_ ((hx03.trans hx).trans s.ext) j hlt)
              rw [← hP] at hpb
              have hcp : Hid (∀ s : After wr, Calls Tryd.prog 63 #[.int .i64 P, .int .i64 rd, .agg #[.int .i64 vn, .int .i64 vd]] s.at_ fun e w' => e = .returned (.int .i64 z) ∧ Ext s.at_ w') := Lib.hid (fun s => by rw [hzd]; exact compareI_calls s.at_ P rd vn vd (by omega) (by omega) (by omega) (by omega))
              have HZ : Hid ((z < 0 → payC g r j r.length * vd < vn * rd) ∧ (¬ z < 0 → ¬ payC g r j r.length * vd < vn * rd)) := Lib.hid (by
                rw [← hP]
                rcases cmpZ_cases (P * vd) (vn * rd) with ⟨a1, a2⟩ | ⟨a1, a2⟩ | ⟨a1, a2⟩
                · exact ⟨fun _ => a1, fun h => by rw [hzd, a2] at h; omega⟩
                · exact ⟨fun h => by rw [hzd, a2] at h; omega, fun _ => by omega⟩
                · exact ⟨fun h => by rw [hzd, a2] at h; omega, fun _ => by omega⟩)
              have e0 := After.cell b0 hBr
              have e1 := After.cell b1 hBr
              have e2 := After.cell b2 hBr
              have e3 := After.cell b3 hBr
              clear hP hzd hpb
              by_cases hz0 : z < 0
              · have HV := Lib.hid (HBC.out j hlt (HZ.out.1 hz0))
                have hzb : decide (z < 0) = true := decide_eq_true hz0
                go_wp2_with fail
                refine wp_region_after (by kernel_rfl) (by kernel_rfl) ?_
                intro hne
                repeat (go_big_quiet_step (first | (go_at_call 64; with_reducible exact Calls.after (hag.out _)) | (go_at_call 63; with_reducible exact Calls.after (hcp.out _))))
                refine wpQuiet_nil ?_
                intro w4 hx4
                clear e0 e1 e2 e3 hne hag hcp
                go_wp2_with fail
                go_ret2
                exact ⟨by rw [HV.out]; rfl, (hx03.trans hx).trans hx4⟩
              · have HV := Lib.hid (HZ.out.2 hz0)
                have hzb : decide (z < 0) = false := decide_eq_false hz0
                go_wp2_with fail
                refine wp_region_after (by kernel_rfl) (by kernel_rfl) ?_
                intro hne
                repeat (go_big_quiet_step (first | (go_at_call 64; with_reducible exact Calls.after (hag.out _)) | (go_at_call 63; with_reducible exact Calls.after (hcp.out _))))
                refine wpQuiet_nil ?_
                intro w4 hx4
                clear e0 e1 e2 e3 hne hag hcp
                go_wp2_with fail
                exact ⟨⟨j + 1, by omega, by go_num, Lib.hid (fun k hk => by
                  by_cases e : k = j
                  · rw [e]; exact (by first | exact HV.out | exact Int.not_lt.1 HV.out)
                  · exact HP.out k (by omega)), hx.trans hx4⟩, by simp only [intOf]; omega⟩
            · obtain rfl : j = m := by omega
              obtain ⟨m, rfl⟩ : ∃ m, m = j := ⟨j, rfl⟩
              have hxr := hx03.trans hx
              have k0 := (hx.cell (p := ⟨B, 0, none⟩) hBl).trans k0
              have k1 := (hx.cell (p := ⟨B, 1, none⟩) hBl).trans k1
              have k4 := (hx.cell (p := ⟨B, 4, none⟩) hBl).trans k4
              have k5 := (hx.cell (p := ⟨B, 5, none⟩) hBl).trans k5
              have hBl := Nat.lt_of_lt_of_le hBl hx.size
              clear hlt hj HPC HAG k2 k3 hg3
              go_wp2_with fail
              refine (turned_calls wr _ gc g m (HGG.out.ext hxr) (by omega) (by omega) HG.out.row).mono ?_
              rintro e w5 ⟨O, rfl, hO, hGO, hx5⟩
              have hx05 := hxr.trans hx5
              have k0 := (hx5.cell (p := ⟨B, 0, none⟩) hBl).trans k0
              have k1 := (hx5.cell (p := ⟨B, 1, none⟩) hBl).trans k1
              have k4 := (hx5.cell (p := ⟨B, 4, none⟩) hBl).trans k4
              have k5 := (hx5.cell (p := ⟨B, 5, none⟩) hBl).trans k5
              have hBl := Nat.lt_of_lt_of_le hBl hx5.size
              have htl : (turnG g m).length = m := by simp [turnG]
              have htr : ∀ k, k < m → rowI (turnG g m) k = colI g g.length k := fun k hk => by simp [rowI, turnG, hk]
              have hte : ∀ k i, k < m → i < g.length → entI (turnG g m) k i = entI g i k := fun k i hk hi => by
                rw [entI, htr k hk]
                simp [ith, colI, List.getD_eq_getElem?_getD, hi]
              have HPC : Hid (∀ i, i < g.length → -1099511627776000000 ≤ payC (turnG g m) c i c.length ∧ payC (turnG g m) c i c.length ≤ 1099511627776000000) := Lib.hid (fun i hi => by
                have hln := HLN.out.2
                have h := payC_bd (g := turnG g m) (l := c) (j := i) (B := 2199023255552) (by omega) HRC.out.2 (fun k hk => by rw [hte k i (by omega) hi]; exact HG.out.ent i k hi (by omega)) c.length (Nat.le_refl _)
                have : (c.length : Int) ≤ 5 := by omega
                have h2 : (c.length : Int) * (2199023255552 * 100) ≤ 5 * (2199023255552 * 100) := Int.mul_le_mul_of_nonneg_right this (by omega)
                omega)
              have HAG : Hid (∀ W (_ : Ext w5 W) i, i < g.length → Calls Tryd.prog 64 #[.slice (some ⟨O, 0, none⟩) (turnG g m).length (turnG g m).length, .slice co c.length cc, .int .i64 i] W fun e w' => e = .returned (.int .i64 (payC (turnG g m) c i c.length)) ∧ Ext W w') := Lib.hid (fun W hW i hi => by
                have hln := HLN.out.2
                exact against_calls W _ co (turnG g m).length cc (turnG g m) c i (hGO.ext hW) (HCC.out.ext (hx05.trans hW)) (by omega) (by omega) (fun k hk => by rw [htr k (by omega)]; simp [colI]; exact hi) HRC.out.2 (fun k hk => by rw [hte k i (by omega) hi]; exact HG.out.ent i k hi (by omega)))
              clear hx hxr hx5 hGO htl htr hte hO
              obtain ⟨tl, htl⟩ : ∃ t, t = (turnG g m).length := ⟨_, rfl⟩
              rw [← htl] at HAG ⊢
              clear htl
              go_wp2_with fail
              go_loopw [59] (fun iv wr => ∃ i : Nat, i ≤ g.length ∧ iv = .int .i64 i ∧ Hid (∀ k, k < i → payC (turnG g m) c k c.length * vd ≤ vn * cd) ∧ Ext w5 wr) (fun iv _ => g.length - (intOf iv).toNat)
              case atStart => exact ⟨0, by omega, rfl, Lib.hid (fun k hk => by omega), Ext.refl _⟩
              case round =>
                obtain ⟨i, hi, rfl, HQ, hx⟩ := hrel
                by_cases hlt : i < g.length
                · have b0 := (hx.cell (p := ⟨B, 0, none⟩) hBl).trans k0
                  have b1 := (hx.cell (p := ⟨B, 1, none⟩) hBl).trans k1
                  have b2 := (hx.cell (p := ⟨B, 4, none⟩) hBl).trans k4
                  have b3 := (hx.cell (p := ⟨B, 5, none⟩) hBl).trans k5
                  have hBr := Nat.lt_of_lt_of_le hBl hx.size
                  have hpb := HPC.out i hlt
                  obtain ⟨P, hP⟩ : ∃ P, P = payC (turnG g m) c i c.length := ⟨_, rfl⟩
                  obtain ⟨z, hzd⟩ : ∃ z, z = cmpZ (P * vd) (vn * cd) := ⟨_, rfl⟩
                  have hag : Hid (∀ s : After wr, Calls Tryd.prog 64 #[.slice (some ⟨O, 0, none⟩) tl tl, .slice co c.length cc, .int .i64 i] s.at_ fun e w' => e = .returned (.int .i64 P) ∧ Ext s.at_ w') := Lib.hid (fun s => by rw [hP]; exact HAG.out s.at_ (hx.trans s.ext) i hlt)
                  rw [← hP] at hpb
                  have hcp : Hid (∀ s : After wr, Calls Tryd.prog 63 #[.int .i64 P, .int .i64 cd, .agg #[.int .i64 vn, .int .i64 vd]] s.at_ fun e w' => e = .returned (.int .i64 z) ∧ Ext s.at_ w') := Lib.hid (fun s => by rw [hzd]; exact compareI_calls s.at_ P cd vn vd (by omega) (by omega) (by omega) (by omega))
                  have HZ : Hid ((0 < z → vn * cd < payC (turnG g m) c i c.length * vd) ∧ (¬ 0 < z → payC (turnG g m) c i c.length * vd ≤ vn * cd)) := Lib.hid (by
                    rw [← hP]
                    rcases cmpZ_cases (P * vd) (vn * cd) with ⟨a1, a2⟩ | ⟨a1, a2⟩ | ⟨a1, a2⟩
                    · exact ⟨fun h => by rw [hzd, a2] at h; omega, fun _ => by omega⟩
                    · exact ⟨fun h => by rw [hzd, a2] at h; omega, fun _ => by omega⟩
                    · exact ⟨fun _ => a1, fun h => by rw [hzd, a2] at h; omega⟩)
                  have e0 := After.cell b0 hBr
                  have e1 := After.cell b1 hBr
                  have e2 := After.cell b2 hBr
                  have e3 := After.cell b3 hBr
                  clear hP hzd hpb
                  by_cases hz0 : 0 < z
                  · have HV := Lib.hid (HBR.out i hlt (HZ.out.1 hz0))
                    have hzb : decide (z > 0) = true := decide_eq_true hz0
                    go_wp2_with fail
                    refine wp_region_after (by kernel_rfl) (by kernel_rfl) ?_
                    intro hne
                    repeat (go_big_quiet_step (first | (go_at_call 64; with_reducible exact Calls.after (hag.out _)) | (go_at_call 63; with_reducible exact Calls.after (hcp.out _))))
                    refine wpQuiet_nil ?_
                    intro w4 hx4
                    clear e0 e1 e2 e3 hne hag hcp
                    go_wp2_with fail
                    go_ret2
                    exact ⟨by rw [HV.out]; rfl, (hx05.trans hx).trans hx4⟩
                  · have HV := Lib.hid (HZ.out.2 hz0)
                    have hzb : decide (z > 0) = false := decide_eq_false hz0
                    go_wp2_with fail
                    refine wp_region_after (by kernel_rfl) (by kernel_rfl) ?_
                    intro hne
                    repeat (go_big_quiet_step (first | (go_at_call 64; with_reducible exact Calls.after (hag.out _)) | (go_at_call 63; with_reducible exact Calls.after (hcp.out _))))
                    refine wpQuiet_nil ?_
                    intro w4 hx4
                    clear e0 e1 e2 e3 hne hag hcp
                    go_wp2_with fail
                    exact ⟨⟨i + 1, by omega, by go_num, Lib.hid (fun k hk => by
                      by_cases e : k = i
                      · rw [e]; exact HV.out
                      · exact HQ.out k (by omega)), hx.trans hx4⟩, by simp only [intOf]; omega⟩
                · obtain rfl : i = g.length := by omega
                  have HV := Lib.hid (HOK.out (fun k hk => by first | exact HP.out k hk | exact Int.not_lt.2 (HP.out k hk)) (fun k hk => by first | exact HQ.out k hk | exact Int.not_lt.2 (HQ.out k hk)))
                  have hxx := hx05.trans hx
                  clear HOK HP HQ
                  go_wp2_with fail
                  go_ret2
                  exact ⟨by rw [HV.out]; rfl, hxx⟩
end Go.Proofs.YtefmioppamdceaaDoor
