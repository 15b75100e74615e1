/- ready, of all tableaus: the walk. -/
import Derived.Test.YtcngecibljgndaaMQX
namespace Go.Proofs.Ytcngecibljgndaa
open Go.RowKit Go.Shelf Go.Sort

/-- ready's loop, of all tableaus. -/
def readyG : Nat → Nat → Tab → Option Tab
  | 0, _, _ => none
  | f + 1, i, T => if T.sm = true then (if i < T.rows.length then (if ith T.basis i < T.sets then readyG f (i + 1) T
      else if firstI nzB ((T.row i).take T.sets) < 0 then (if 2 ≤ T.rows.length then readyG f i (dropI T i) else none)
      else if T.ent i (firstI nzB ((T.row i).take T.sets)).toNat < 0 then readyG f (i + 1) (pivotP (negP T i) i (firstI nzB ((T.row i).take T.sets)).toNat) else readyG f (i + 1) (pivotP T i (firstI nzB ((T.row i).take T.sets)).toNat)) else some T) else none
/-- ready: none where the fuel does not do; no tableau where there are no weights. -/
def readyQ (f : Nat) (T : Tab) : Option (Option Tab) := match runP (T.sets + T.n) f T with | none => none | some T1 => if T1.sets = T.sets ∧ T1.n = T.n ∧ T1.sm = true then (if ith T1.goal (T.sets + T.n) = 0 then (readyG f 0 T1).map some else some none) else none
/-- What ready returns. -/
def ReadyG (w0 : World) (B : Nat) (A : Ats) (o : Option Tab) (e : Ending) (w' : World) : Prop :=
  (o = none ∧ e = .returned (.bool false) ∧ Ext w0 w') ∨ ∃ T rb, o = some T ∧ e = .returned (.bool true) ∧ TabAt w' B { A with rb := rb } T ∧ Ext w0 w'
set_option maxRecDepth 100000 in
set_option maxHeartbeats 4000000 in
theorem readyQ_calls (w0 w : World) (B : Nat) (A : Ats) (T0 : Tab) (o : Option Tab) (f : Nat) (hT0 : TabAt w B A T0) (hx0 : Ext w0 w) (h0 : w0.heap.size ≤ B) (hse : T0.sets ≤ 1000) (hsn : T0.n ≤ 100) (hr : readyQ f T0 = some o) :
    Calls Try.prog 67 #[.pointer (some ⟨A.t, 0, none⟩)] w (ReadyG w0 B A o) := by
  have hent := enters_nz
  have h1 := hT0.c0
  have h2 := hT0.c1
  have hw1 : IntKind.i64.wrap ((T0.sets : Int) + (T0.n : Int)) = (T0.sets : Int) + (T0.n : Int) := by rw [IntKind.wrap_i64]; omega
  unfold readyQ at hr
  cases hrun : runP (T0.sets + T0.n) f T0 with
  | none => rw [hrun] at hr; simp at hr
  | some T1 =>
    rw [hrun] at hr
    simp only [] at hr
    by_cases hcnd : T1.sets = T0.sets ∧ T1.n = T0.n ∧ T1.sm = true
    · rw [if_pos hcnd] at hr
      obtain ⟨hq1, hq2, hq3⟩ := hcnd
      have HR := Lib.hid hr
      have HRUN := Lib.hid hrun
      have HQ := Lib.hid (And.intro hq1 hq2)
      have HS1 := Lib.hid (Tab.sm_iff hq3)
      clear hr hrun hq1 hq2 hq3
      go_enter Try.func67, Try.ntmps67
      go_wp2_with fail
      go_region
      go_wp2_with fail
      have hT0d := hT0.ext ((Ext.refl w).drew)
      have hx0d := hx0.drew
      generalize w.drew = w1 at *
      clear h1 h2 hT0 hx0
      rw [show (T0.sets : Int) + (T0.n : Int) = ((T0.sets + T0.n : Nat) : Int) by simp]
      refine (run_calls w0 w1 B A T0 T1 (T0.sets + T0.n) f hT0d hx0d h0 (Nat.le_refl _) HRUN.out).mono ?_
      rintro e w2 ⟨⟨v, rfl⟩, hT2, hx2⟩
      have hlw : T0.sets + T0.n < T1.wide := by unfold Tab.wide; have := HQ.out; omega
      have h3 := hT2.c3
      have h4 := (hT2.goalC _ hlw).1
      have hg2 := hT2.gbIn.2
      have ht2 := hT2.tIn.2
      generalize hL : T0.sets + T0.n = last at *
      have HLL := Lib.hid hL
      have hlwz : (last : Int) < (T1.wide : Int) := by omega
      clear hL hw1 hT0d hx0d
      have hR1 := HR.out
      obtain ⟨gv, hgv⟩ : ∃ gv, ith T1.goal last = gv := ⟨_, rfl⟩
      rw [hgv] at h4 hR1
      clear hgv HR
      by_cases hg0 : gv = 0
      case neg =>
        rw [if_neg hg0] at hR1
        have HO := Lib.hid (Option.some.inj hR1)
        have hgb : (gv != 0) = true := by simp [hg0]
        clear hR1
        go_wp2_with fail
        go_ret
        exact .inl ⟨HO.out.symm, rfl, hx2⟩
      rw [if_pos hg0] at hR1
      cases hrg : readyG f 0 T1 with
      | none => rw [hrg] at hR1; simp at hR1
      | some T' =>
      rw [hrg] at hR1
      have HO := Lib.hid (Option.some.inj hR1)
      have HR := Lib.hid hrg
      subst hg0
      clear hR1 hrg
      go_wp2_with fail
      clear h3 h4
      go_loopg [4] f (fun q iv wr => ∃ (i : Nat) (T : Tab) (rb : Nat → Nat), iv = .int .i64 i ∧ TabAt wr B { A with rb := rb } T ∧ Ext w0 wr ∧ Hid (readyG q i T = some T') ∧ i ≤ 1000)
      case atStart => exact ⟨0, T1, A.rb, rfl, hT2, hx2, HR, by omega⟩
      case round =>
        obtain ⟨i, T, rb, rfl, hT, hx, HG, hi1000⟩ := hrel
        obtain ⟨A', hA'⟩ : ∃ A' : Ats, A' = { A with rb := rb } := ⟨_, rfl⟩
        rw [← hA'] at hT
        have hAt : A.t = A'.t := by rw [hA']
        rw [hAt]
        have HA := Lib.hid hA'
        clear hAt hA' hT2
        obtain ⟨q, rfl⟩ : ∃ q, gk = q + 1 := by
          cases gk with
          | zero => have := HG.out; simp [readyG] at this
          | succ q => exact ⟨q, rfl⟩
        have hG := HG.out
        rw [readyG] at hG
        by_cases hsm : T.sm = true
        · rw [if_pos hsm] at hG
          have hS := Lib.hid (Tab.sm_iff hsm)
          have hmany := hS.out.many
          have hc2 := hT.c2
          clear HG hsm
          by_cases hi : i < T.rows.length
          · rw [if_pos hi] at hG
            have hc4 := hT.c4
            have hc0 := hT.c0
            have hbi := (hT.basC i hi).1
            have hbl := hT.bgIn.2
            have htl := hT.tIn.2
            have hiz : (i : Int) < (T.rows.length : Int) := by omega
            have hi0 : (0 : Int) ≤ (i : Int) := by omega
            by_cases hbs : ith T.basis i < T.sets
            · rw [if_pos hbs] at hG
              have HGX := Lib.hid hG
              clear hG
              go_wp2_with fail
              go_region
              go_wp2_with fail
              obtain rfl := HA.out
              go_roundg q
              case measure => omega
              case rel => exact ⟨i + 1, T, rb, by simp, hT.ext (Ext.refl _).drew, hx.drew, HGX, by omega⟩
            · rw [if_neg hbs] at hG
              have HGX := Lib.hid hG
              clear hG
              go_wp2_with fail
              go_region
              go_wp2_with fail
              have hTd := hT.ext (Ext.refl _).drew
              have hxd := hx.drew
              generalize wr.drew = w3 at *
              clear hc2 hc4 hc0 hbi hbl htl hT hx
              have hwd : T.sets ≤ T.wide := by unfold Tab.wide; omega
              have hwz : (T.sets : Int) ≤ (T.wide : Int) := by omega
              have hz0 : (0 : Int) ≤ (T.sets : Int) := by omega
              have hrow : IntsIn w3 (some ⟨A'.rb i, 0, none⟩) ((T.row i).take T.sets) := by
                intro k hk
                rw [List.length_take, (hS.out.row i hi).len] at hk
                rw [ith_take _ _ _ (by omega)]
                exact ⟨A'.rb i, 0, rfl, (hTd.rbIn i hi).2, by rw [Nat.zero_add]; exact (hTd.entC i k hi (by omega)).1⟩
              have hrl : ((T.row i).take T.sets).length = T.sets := by rw [List.length_take, (hS.out.row i hi).len]; omega
              have hsets := hS.out.sets
              have hidx := fun s : After w3 => indexFunc_calls s.at_ (some ⟨A'.rb i, 0, none⟩) T.wide ((T.row i).take T.sets) 104 #[] nzB (hrow.ext s.ext) (by omega) (pred_nz _)
              rw [hrl] at hidx
              have a1 := After.cell hTd.c2 hTd.tIn.2
              have a2 := After.cell hTd.c0 hTd.tIn.2
              have a3 := After.cell (hTd.rowC i hi).1 hTd.rgIn.2
              go_wp2_with fail
              refine wp_region_after (by kernel_rfl) (by kernel_rfl) ?_
              intro hne
              repeat (go_big_quiet_step ((go_at_call 103; exact Calls.after (hidx _))))
              refine wpQuiet_nil ?_
              intro w4 hx4
              have hT4 := hTd.ext hx4
              have hx04 := hxd.trans hx4
              clear a1 a2 a3 hidx hrow hTd hxd
              by_cases hneg : firstI nzB ((T.row i).take T.sets) < 0
              · have hG := HGX.out
                rw [if_pos hneg] at hG
                by_cases hn2 : 2 ≤ T.rows.length
                · rw [if_pos hn2] at hG
                  have HGY := Lib.hid hG
                  clear hG HGX
                  have hne1 := hT4.ap
                  have htl := hT4.tIn.2
                  have hrl4 := hT4.rgIn.2
                  have hbl4 := hT4.bgIn.2
                  have hcaps := hT4.caps
                  obtain ⟨hR0, hB0⟩ : (∀ q, q < T.rows.length → w4.cell? ⟨A'.rg, q, none⟩ = some (.slice (some ⟨A'.rb q, 0, none⟩) T.wide T.wide) ∧ w4.frozen? ⟨A'.rg, q, none⟩ = false) ∧ (∀ q, q < T.rows.length → w4.cell? ⟨A'.bg, q, none⟩ = some (.int .i64 (ith T.basis q)) ∧ w4.frozen? ⟨A'.bg, q, none⟩ = false) := ⟨hT4.rowC, hT4.basC⟩
                  have hdR : ∀ W : World, (∀ q, q < T.rows.length → W.cell? ⟨A'.rg, q, none⟩ = w4.cell? ⟨A'.rg, q, none⟩ ∧ W.frozen? ⟨A'.rg, q, none⟩ = w4.frozen? ⟨A'.rg, q, none⟩) →
                      Calls Try.prog 105 #[.slice (some ⟨A'.rg, 0, none⟩) T.rows.length A'.rc, .int .i64 i, .int .i64 ((i : Int) + 1)] W (DropG W A'.rg T.rows.length A'.rc i) := by
                    intro W hW
                    have := delRows_gen W A'.rg T.rows.length A'.rc T.wide i A'.rb (fun q hq => ⟨(hW q hq).1.trans (hR0 q hq).1, (hW q hq).2.trans (hR0 q hq).2⟩) hi hcaps.1 hcaps.2.1
                    simpa using this
                  have hdB : ∀ W : World, (∀ q, q < T.rows.length → W.cell? ⟨A'.bg, q, none⟩ = w4.cell? ⟨A'.bg, q, none⟩ ∧ W.frozen? ⟨A'.bg, q, none⟩ = w4.frozen? ⟨A'.bg, q, none⟩) →
                      Calls Try.prog 106 #[.slice (some ⟨A'.bg, 0, none⟩) T.rows.length A'.bc, .int .i64 i, .int .i64 ((i : Int) + 1)] W (DropG W A'.bg T.rows.length A'.bc i) := by
                    intro W hW
                    have := delInts_gen W A'.bg T.rows.length A'.bc i T.basis hS.out.bas (fun q hq => ⟨(hW q hq).1.trans (hB0 q hq).1, (hW q hq).2.trans (hB0 q hq).2⟩) hi hcaps.2.2.1 hcaps.2.2.2
                    simpa using this
                  have hw5 : IntKind.i64.wrap ((i : Int) + 1) = (i : Int) + 1 := by rw [IntKind.wrap_i64]; omega
                  have b2 := hT4.c2
                  have b4 := hT4.c4
                  have bf2 := hT4.free 2 (by omega) (by omega)
                  have bf4 := hT4.free 4 (by omega) (by omega)
                  have HR0 := Lib.hid hR0
                  have HB0 := Lib.hid hB0
                  clear hR0 hB0
                  go_wp2_with fail
                  have r1 : ∀ (W : World) (v : Value) (o q : Nat), (W.setCell ⟨A'.t, o, none⟩ v).cell? ⟨A'.bg, q, none⟩ = W.cell? ⟨A'.bg, q, none⟩ := fun W v o q => World.cell?_setCell_other _ _ _ _ (fun e => hne1.2.1 (by simp only [Addr.mk.injEq] at e; exact e.1))
                  have r2 : ∀ (W : World) (v : Value) (o q : Nat), (W.setCell ⟨A'.t, o, none⟩ v).cell? ⟨A'.rg, q, none⟩ = W.cell? ⟨A'.rg, q, none⟩ := fun W v o q => World.cell?_setCell_other _ _ _ _ (fun e => hne1.1 (by simp only [Addr.mk.injEq] at e; exact e.1))
                  have r3 : ∀ (W : World) (v : Value), (W.setCell ⟨A'.t, 2, none⟩ v).cell? ⟨A'.t, 4, none⟩ = W.cell? ⟨A'.t, 4, none⟩ := fun W v => World.cell?_setCell_other _ _ _ _ (by simp)
                  have r4 : ∀ (W : World) (v : Value), (W.setCell ⟨A'.t, 4, none⟩ v).cell? ⟨A'.t, 2, none⟩ = W.cell? ⟨A'.t, 2, none⟩ := fun W v => World.cell?_setCell_other _ _ _ _ (by simp)
                  go_region_with ((first
                    | (go_at_call 105; refine (hdR _ (by intro q hq; first | exact ⟨rfl, rfl⟩ | (constructor <;> simp [*]))).mono ?_; rintro e wR ⟨rfl, hgR, hcR⟩; have hszR := hgR.size; (try simp only [World.size_drew] at hszR); have ltR : A'.t < wR.heap.size := (by omega); have ltRg : A'.rg < wR.heap.size := (by omega); have ltRb : A'.bg < wR.heap.size := (by omega)
                       have cR : ∀ o, wR.cell? ⟨A'.t, o, none⟩ = _ := fun o => grownBy_cell hgR (p := ⟨A'.t, o, none⟩) (by show A'.t < _; first | omega | (simp <;> omega) | (simp only [World.size_drew, size_set] <;> omega)) (fun e => hne1.1 (by simpa using e))
                       have fR : ∀ o, wR.frozen? ⟨A'.t, o, none⟩ = _ := fun o => grownBy_frozen hgR (p := ⟨A'.t, o, none⟩) (by show A'.t < _; first | omega | (simp <;> omega) | (simp only [World.size_drew, size_set] <;> omega)) (fun e => hne1.1 (by simpa using e))
                       have cRb : ∀ o, wR.cell? ⟨A'.bg, o, none⟩ = _ := fun o => grownBy_cell hgR (p := ⟨A'.bg, o, none⟩) (by show A'.bg < _; first | omega | (simp <;> omega) | (simp only [World.size_drew, size_set] <;> omega)) (fun e => hne1.2.2.2.1 (by simpa using e.symm))
                       have fRb : ∀ o, wR.frozen? ⟨A'.bg, o, none⟩ = _ := fun o => grownBy_frozen hgR (p := ⟨A'.bg, o, none⟩) (by show A'.bg < _; first | omega | (simp <;> omega) | (simp only [World.size_drew, size_set] <;> omega)) (fun e => hne1.2.2.2.1 (by simpa using e.symm))
                       have HcR := Lib.hid hcR; have HgR := Lib.hid hgR; clear hcR hgR)
                    | (go_at_call 106; refine (hdB _ (by intro q hq; first | exact ⟨rfl, rfl⟩ | (constructor <;> simp [*]))).mono ?_; rintro e wB ⟨rfl, hgB, hcB⟩; have hszB := hgB.size; (try simp only [World.size_drew, size_set] at hszB); have ltB : A'.t < wB.heap.size := (by omega); have ltBg : A'.rg < wB.heap.size := (by omega); have ltBb : A'.bg < wB.heap.size := (by omega)
                       have cB : ∀ o, wB.cell? ⟨A'.t, o, none⟩ = _ := fun o => grownBy_cell hgB (p := ⟨A'.t, o, none⟩) (by show A'.t < _; first | omega | (simp <;> omega) | (simp only [World.size_drew, size_set] <;> omega)) (fun e => hne1.2.1 (by simpa using e))
                       have fB : ∀ o, wB.frozen? ⟨A'.t, o, none⟩ = _ := fun o => grownBy_frozen hgB (p := ⟨A'.t, o, none⟩) (by show A'.t < _; first | omega | (simp <;> omega) | (simp only [World.size_drew, size_set] <;> omega)) (fun e => hne1.2.1 (by simpa using e))
                       have cBr : ∀ o, wB.cell? ⟨A'.rg, o, none⟩ = _ := fun o => grownBy_cell hgB (p := ⟨A'.rg, o, none⟩) (by show A'.rg < _; first | omega | (simp <;> omega) | (simp only [World.size_drew, size_set] <;> omega)) (fun e => hne1.2.2.2.1 (by simpa using e))
                       have fBr : ∀ o, wB.frozen? ⟨A'.rg, o, none⟩ = _ := fun o => grownBy_frozen hgB (p := ⟨A'.rg, o, none⟩) (by show A'.rg < _; first | omega | (simp <;> omega) | (simp only [World.size_drew, size_set] <;> omega)) (fun e => hne1.2.2.2.1 (by simpa using e))
                       have HcB := Lib.hid hcB; have HgB := Lib.hid hgB; clear hcB hgB)))
                  all_goals
                    have hT5 := hT4.struck hi HgR.out HgB.out HcR.out HcB.out
                    have hx5 := (((hx04.drew.onto HgR.out (fun k hk => by simp only [Option.some.injEq] at hk; have := hT4.rgIn.1; omega)).onto HgB.out (fun k hk => by simp only [Option.some.injEq] at hk; have := hT4.bgIn.1; omega)).setOwn ⟨A'.t, 2, none⟩ (.slice (some ⟨A'.rg, 0, none⟩) (T.rows.length - 1) A'.rc) (by have := hT4.tIn.1; simp; omega)).setOwn ⟨A'.t, 4, none⟩ (.slice (some ⟨A'.bg, 0, none⟩) (T.rows.length - 1) A'.bc) (by have := hT4.tIn.1; simp; omega)
                    clear r1 r2 r3 r4 hdR hdB b2 b4 bf2 bf4
                    go_wp2_with fail
                    obtain rfl := HA.out
                    go_roundg q
                    case measure => omega
                    case rel => exact ⟨i, dropI T i, fun q => rb (skip i q), by simp, hT5, hx5, HGY, hi1000⟩
                · rw [if_neg hn2] at hG
                  simp at hG
              · obtain ⟨c, hcf, hcl⟩ := firstI_bounds nzB _ hneg
                have hG := HGX.out
                rw [if_neg hneg, hcf] at hG
                simp only [Int.toNat_natCast] at hG
                rw [hrl] at hcl
                have hcw : c < T.wide := by omega
                by_cases hen : T.ent i c < 0
                · rw [if_pos hen] at hG
                  have HGY := Lib.hid hG
                  rw [hcf]
                  clear hG HGX hneg hcf
                  have b1 := hT4.c2
                  have b2 := (hT4.rowC i hi).1
                  have b3 := (hT4.entC i c hi hcw).1
                  have b4 := hT4.tIn.2
                  have b5 := hT4.rgIn.2
                  have b6 := (hT4.rbIn i hi).2
                  have hwide : T.wide ≤ 2000 := by unfold Tab.wide; have := hS.out.sets; have := hS.out.n; omega
                  have hrw : (T.row i).length = T.wide := (hS.out.row i hi).len
                  have HRW := Lib.hid hrw
                  clear hrw
                  go_wp2_with fail
                  go_loopg [106, 6] T.wide (fun p kv uv wx => ∃ k : Nat, k ≤ T.wide ∧ kv = .int .i64 k ∧ p + k = T.wide ∧ TabAt wx B A' (negTo T i k) ∧ Ext w0 wx)
                  case atStart => exact ⟨0, by omega, rfl, by omega, by rw [negTo_zero]; exact hT4, hx04⟩
                  case round =>
                    rename World => wx
                    obtain ⟨k, hk, rfl, hpk, hTk, hxk⟩ := hrel
                    clear b1 b2 b3 b4 b5 b6
                    by_cases hkl : k < T.wide
                    · have d1 := hTk.c2
                      have hil : i < (negTo T i k).rows.length := by rw [negTo_len]; exact hi
                      have d2 := (hTk.rowC i hil).1
                      have d3 := hTk.entC i k hil hkl
                      have d4 := hTk.tIn.2
                      have d5 := hTk.rgIn.2
                      have d6 := (hTk.rbIn i hil).2
                      have hew : (negTo T i k).wide = T.wide := rfl
                      have hel : (negTo T i k).rows.length = T.rows.length := negTo_len T i k
                      have hee : (negTo T i k).ent i k = T.ent i k := by rw [negTo_ent _ _ _ _ hi (by rw [HRW.out]; exact hkl), if_neg (by omega)]
                      rw [hew] at d2
                      rw [hel] at d1
                      rw [hee] at d3
                      obtain ⟨d3, d7⟩ := d3
                      have hbn := (hS.out.row i hi).ent k hkl
                      obtain ⟨x, hx0⟩ : ∃ x, T.ent i k = x := ⟨_, rfl⟩
                      have hbx : -1000000000 ≤ x ∧ x ≤ 1000000000 := by rw [← hx0]; exact hbn
                      rw [hx0] at d3
                      have HX := Lib.hid hx0
                      clear hx0 hbn hee hew hel
                      have hwx : IntKind.i64.wrap (-x) = -x := by rw [IntKind.wrap_i64]; omega
                      have z0 : (0 : Int) ≤ (k : Int) := by omega
                      have z1 : (k : Int) < (T.wide : Int) := by omega
                      have z2 : (0 : Int) ≤ (i : Int) := by omega
                      have z3 : (i : Int) < (T.rows.length : Int) := by omega
                      go_wp2_with fail
                      go_region
                      go_wp2_with fail
                      go_roundg (T.wide - (k + 1))
                      case measure => omega
                      case rel =>
                        refine ⟨k + 1, by omega, by simp, by omega, ?_, hxk.drew.setOwn _ _ (by have := (hTk.rbIn i hil).1; simp; omega)⟩
                        refine (hTk.ext ((Ext.refl _).drew)).setRow (negTo_one T i k) hil (grownBy_setCell _ ⟨A'.rb i, k, none⟩ (.int .i64 (-x))) (fun j hj => ?_)
                        have hj2 : j < T.wide := hj
                        have hc0 := (hTk.ext ((Ext.refl _).drew)).entC i j hil hj
                        rw [negTo_ent _ _ _ _ hi (by rw [HRW.out]; exact hj2)]
                        change (((wx.drew).setCell ⟨A'.rb i, k, none⟩ (Value.int .i64 (-x))).cell? ⟨A'.rb i, j, none⟩ = _ ∧ ((wx.drew).setCell ⟨A'.rb i, k, none⟩ (Value.int .i64 (-x))).frozen? ⟨A'.rb i, j, none⟩ = _)
                        by_cases e : j = k
                        · subst e
                          rw [if_pos (by omega), HX.out]
                          exact ⟨World.cell?_setCell_same _ _ _ hc0.1, by rw [World.frozen?_setCell]; exact hc0.2⟩
                        · rw [World.cell?_setCell_other _ _ _ _ (fun e2 => e (by simp only [Addr.mk.injEq, and_true, true_and] at e2; exact e2.symm)), World.frozen?_setCell]
                          rw [negTo_ent _ _ _ _ hi (by rw [HRW.out]; exact hj2)] at hc0
                          have hlt : (j < k) ↔ (j < k + 1) := by omega
                          simp only [hlt] at hc0
                          exact hc0
                    · obtain rfl : k = T.wide := by omega
                      have hTn : TabAt wx B A' (negP T i) := hTk
                      go_wp2_with fail
                      refine (pivot_calls w0 wx B A' (negP T i) i c hTn (negTo_small hS.out hi _) hxk h0 (by rw [negP, negTo_len]; exact hi) hcw).mono ?_
                      rintro e w5 ⟨⟨v, rfl⟩, hT5, hx5⟩
                      go_wp2_with fail
                      obtain rfl := HA.out
                      go_roundg q
                      case measure => omega
                      case rel => exact ⟨i + 1, pivotP (negP T i) i c, rb, by simp, hT5, hx5, HGY, by omega⟩
                · rw [if_neg hen] at hG
                  have HGY := Lib.hid hG
                  rw [hcf]
                  clear hG HGX hneg hcf
                  have b1 := hT4.c2
                  have b2 := (hT4.rowC i hi).1
                  have b3 := (hT4.entC i c hi hcw).1
                  have b4 := hT4.tIn.2
                  have b5 := hT4.rgIn.2
                  have b6 := (hT4.rbIn i hi).2
                  go_wp2_with fail
                  refine (pivot_calls w0 w4 B A' T i c hT4 hS.out hx04 h0 hi hcw).mono ?_
                  rintro e w5 ⟨⟨v, rfl⟩, hT5, hx5⟩
                  go_wp2_with fail
                  obtain rfl := HA.out
                  go_roundg q
                  case measure => omega
                  case rel => exact ⟨i + 1, pivotP T i c, rb, by simp, hT5, hx5, HGY, by omega⟩
          · rw [if_neg hi] at hG
            have hTT := Lib.hid (Option.some.inj hG)
            clear hG
            go_wp2_with fail
            go_ret
            obtain rfl := HA.out
            refine .inr ⟨T', rb, HO.out.symm, rfl, ?_, hx⟩
            rw [← hTT.out]
            exact hT
        · rw [if_neg hsm] at hG
          simp at hG
    · rw [if_neg hcnd] at hr
      simp at hr
end Go.Proofs.Ytcngecibljgndaa
