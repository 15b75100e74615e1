/- Balanced: the walk. -/
import Derived.Test.YtcngecibljgndaaMLA
import Derived.Test.YtcngecibljgndaaMQPD
import Derived.Test.YtcngecibljgndaaMBK
import Derived.Test.YtcngecibljgndaaMQTA
import Derived.Test.YtcngecibljgndaaMQT
import Derived.BigRegion
import Derived.Test.YtcngecibljgndaaMRPB
import Derived.Test.YtcngecibljgndaaMBD
namespace Go.Proofs.Ytcngecibljgndaa
open Go.RowKit Go.Shelf
/-- A list of numbers that may be written. -/
def CellsF (w : World) (Q N : Nat) (f : Nat → Int) : Prop := ∀ j, j < N → w.cell? ⟨Q, j, none⟩ = some (.int .i64 (f j)) ∧ w.frozen? ⟨Q, j, none⟩ = false
theorem CellsF.ext {w w' : World} {Q N : Nat} {f : Nat → Int} (h : CellsF w Q N f) (hQ : Q < w.heap.size) (hx : Ext w w') : CellsF w' Q N f := fun j hj =>
  ⟨(hx.cell (p := ⟨Q, j, none⟩) hQ).trans (h j hj).1, (hx.frozen (p := ⟨Q, j, none⟩) hQ).trans (h j hj).2⟩
theorem CellsF.put {w : World} {Q N : Nat} {f g : Nat → Int} (h : CellsF w Q N f) {i : Nat} (hi : i < N) (u : Int) (hg : ∀ j, j < N → g j = if j = i then u else f j) : CellsF (w.setCell ⟨Q, i, none⟩ (.int .i64 u)) Q N g := fun j hj => by
  rw [World.frozen?_setCell, hg j hj]
  refine ⟨?_, (h j hj).2⟩
  by_cases e : j = i
  · subst e
    rw [if_pos rfl]; exact World.cell?_setCell_same _ _ _ (h j hj).1
  · rw [if_neg e, World.cell?_setCell_other _ _ _ _ (fun e2 => e (by simp only [Addr.mk.injEq, and_true, true_and] at e2; exact e2.symm))]
    exact (h j hj).1
end Go.Proofs.Ytcngecibljgndaa

/- The specification's run: the walk. -/
namespace Go.Proofs.Ytcngecibljgndaa
open Go.RowKit Go.Shelf

theorem IntsIn.takeN {w : World} {ao : Option Addr} {L : List Int} (h : IntsIn w ao L) (k : Nat) : IntsIn w ao (L.take k) := fun j hj => by
  rw [List.length_take] at hj
  obtain ⟨b, off, h1, h2, h3⟩ := h j (by omega)
  exact ⟨b, off, h1, h2, by rw [ith_take _ _ _ (by omega)]; exact h3⟩
theorem IntsIn.dropN {w : World} {b off : Nat} {L : List Int} (h : IntsIn w (some ⟨b, off, none⟩) L) (k : Nat) : IntsIn w (some ⟨b, off + k, none⟩) (L.drop k) := fun j hj => by
  rw [List.length_drop] at hj
  obtain ⟨b', off', h1, h2, h3⟩ := h (k + j) (by omega)
  simp only [Option.some.injEq, Addr.mk.injEq, and_true] at h1
  obtain ⟨rfl, rfl⟩ := h1
  exact ⟨b, off + k, rfl, h2, by rw [show ith (L.drop k) j = ith L (k + j) by unfold ith; simp [List.getElem?_drop], Nat.add_assoc]; exact h3⟩
theorem fact_720 {k : Nat} (h : k ≤ 6) : fact k ≤ 720 := by
  have key : ∀ j : Fin 7, fact j.val ≤ 720 := by decide
  exact key ⟨k, by omega⟩
/-- What run leaves. -/
def RunRes (w : World) (Q n : Nat) (g : Nat → Int) (e : Ending) (w' : World) : Prop := e = .returned (.tuple #[]) ∧ w.grownBy w' (some Q) ∧ CellsF w' Q n g
set_option maxRecDepth 100000 in
set_option maxHeartbeats 4000000 in
theorem qrun_calls (xs : List Int) (hn : xs.length ≤ 7) (hu : Upto 100000 xs) : ∀ (f : Nat) (w : World) (E : Int) (ao lo : Option Addr) (cap lcap scap Q : Nat) (came : List Bool) (S : Nat → Int), IntsIn w ao xs → (∀ a, ao = some a → a.block ≠ Q) → came.length = xs.length → wait came xs.length = f →
    IntsIn w lo (lftI came xs.length) → (∀ a, lo = some a → a.block ≠ Q) → f ≤ lcap → CellsF w Q xs.length S → Q < w.heap.size → (0 ≤ E ∧ E ≤ 100000) → (∀ i, i < xs.length → 0 ≤ S i ∧ S i + gets xs f E came i ≤ 1000000000000) →
    Calls Try.prog 95 #[.int .i64 E, .slice ao xs.length cap, .slice lo f lcap, .slice (some ⟨Q, 0, none⟩) xs.length scap] w (RunRes w Q xs.length (fun i => S i + gets xs f E came i))
  | 0, w, E, ao, lo, cap, lcap, scap, Q, came, S, hI, hIQ, hl, hw, hL, hLQ, hc, hS, hQ, hE, hB => by
    have HS : Hid (CellsF w Q xs.length (fun i => S i + gets xs 0 E came i)) := Lib.hid (fun j hj => by
      have := hS j hj
      simp only [gets, Int.add_zero]
      exact this)
    clear hS hB hI hL
    go_enter Try.func95, Try.ntmps95
    go_wp2_with fail
    refine bodyPost_ret (v := .tuple #[]) (by simp [results, Try.results95, go_sem]) rfl ?_
    exact ⟨rfl, (Ext.refl _).grown _, HS.out⟩
  | f + 1, w, E, ao, lo, cap, lcap, scap, Q, came, S, hI, hIQ, hl, hw, hL, hLQ, hc, hS, hQ, hE, hB => by
    have ih := qrun_calls xs hn hu f
    have h0 : ∀ i, i < xs.length → 0 ≤ ith xs i := fun i hi => (hu.at_ i hi).1
    have HB := Lib.hid hB
    have HS := Lib.hid hS
    have HIH := Lib.hid ih
    have HW := Lib.hid hw
    have HH := Lib.hid h0
    have hlen : (lft came xs.length).length = f + 1 := hw
    have HLEN := Lib.hid hlen
    have hfn : f + 1 ≤ 7 := by
      have : (lft came xs.length).length ≤ xs.length := by unfold lft; exact Nat.le_trans (List.length_filter_le _ _) (by simp)
      omega
    have hlI : (lftI came xs.length).length = f + 1 := by rw [lftI_length]; exact hw
    have HLI := Lib.hid hlI
    clear hB hS ih hw h0 hlen hlI
    obtain ⟨i0, hi, hz0, hz1, hz2⟩ := info_parts info_int
    go_enter Try.func95, Try.ntmps95
    have hf720 := fact_720 (k := f) (by omega)
    have hfp := fact_pos f
    have hf0 : ((f : Int) + 1 == 0) = false := by simp; omega
    go_wp2_with fail
    go_loopw [8, 9] (fun mv iv wr => ∃ k : Nat, 1 ≤ k ∧ k ≤ max 1 f ∧ iv = .int .i64 ((k : Int) + 1) ∧ mv = .int .i64 (fact k : Nat) ∧ Ext w wr) (fun _ iv _ => f + 2 - (intOf iv).toNat)
    case atStart => exact ⟨1, by omega, by omega, rfl, rfl, Ext.refl _⟩
    case round =>
      obtain ⟨k, hk1, hk2, rfl, rfl, hx⟩ := hrel
      by_cases hlt : k < f
      · have h720 := fact_720 (k := k + 1) (by omega)
        have h721 := fact_720 (k := k) (by omega)
        have hfs : ((fact k : Nat) : Int) * ((k : Int) + 1) = ((fact (k + 1) : Nat) : Int) := by rw [fact]; simp; grind
        have hw1 : IntKind.i64.wrap (((fact k : Nat) : Int) * ((k : Int) + 1)) = ((fact (k + 1) : Nat) : Int) := by rw [hfs, IntKind.wrap_i64]; omega
        have hc1 : decide ((k : Int) + 1 < ((f + 1 : Nat) : Int)) = true := by simp; omega
        go_wp2_with fail
        exact ⟨⟨k + 1, by omega, by omega, by simp, rfl, hx⟩, by simp only [intOf]; omega⟩
      · have hc1 : decide ((k : Int) + 1 < ((f + 1 : Nat) : Int)) = false := by simp; omega
        have hkf : fact k = fact f := by
          by_cases h : f = 0
          · have : k = 1 := by omega
            subst h; subst this; rfl
          · have : k = f := by omega
            rw [this]
        rw [hkf]
        clear hkf
        replace hI := hI.ext hx
        replace hL := hL.ext hx
        have HS1 := Lib.hid (HS.out.ext hQ hx)
        have hQ1 : Q < wr.heap.size := Nat.lt_of_lt_of_le hQ hx.size
        rename World => w1
        obtain ⟨mf, hmf⟩ : ∃ mf : Nat, mf = fact f := ⟨_, rfl⟩
        rw [← hmf] at hf720 hfp ⊢
        have HMF := Lib.hid hmf
        clear hmf
        go_wp2_with fail
        clear hc1 hlt
        go_loopw [10] (fun iv wz => ∃ k : Nat, k ≤ f + 1 ∧ iv = .int .i64 k ∧ w1.grownBy wz (some Q) ∧ Hid (CellsF wz Q xs.length (fun i => S i + runTo xs f E came k i))) (fun iv _ => f + 2 - (intOf iv).toNat)
        case atStart => exact ⟨0, by omega, rfl, (Ext.refl _).grown _, Lib.hid (fun j hj => by
          have := HS1.out j hj
          simp only [runTo_zero, Int.add_zero]
          exact this)⟩
        case round =>
          rename World => wz
          obtain ⟨p, hp, rfl, hgz, HCZ⟩ := hrel
          by_cases hlt : p < f + 1
          · have hpl : p < (lft came xs.length).length := by rw [HLEN.out]; exact hlt
            obtain ⟨a, ha⟩ : ∃ a, (lft came xs.length)[p] = a := ⟨_, rfl⟩
            have ham := (lft_mem came xs.length a).1 (ha ▸ List.getElem_mem _)
            obtain ⟨han, hca⟩ := ham
            have hIz := hI.grown hgz (fun b hb e => hIQ b hb (by simpa using e))
            have hLz := hL.grown hgz (fun b hb e => hLQ b hb (by simpa using e))
            obtain ⟨cb, cf, rfl, hcb, hcc⟩ := hIz a han
            obtain ⟨lb, lf, rfl, hlb, hlc⟩ := hLz p (by rw [HLI.out]; exact hlt)
            rw [lftI_at _ _ _ hpl, ha] at hlc
            obtain ⟨z1, z2⟩ := HCZ.out a han
            have hQz : Q < wz.heap.size := Nat.lt_of_lt_of_le hQ1 hgz.size
            have hxa := hu.at_ a han
            simp only [] at z1
            have HRS := Lib.hid (fun i => runTo_succ xs f E came p i a hl hpl ha)
            have HRA : Hid (runTo xs f E came (p + 1) a = runTo xs f E came p a + min (ith xs a) E * fact f) := Lib.hid (by
              have h1 := HRS.out a
              rw [if_pos rfl, gets_came xs f _ _ a (by simp [hl]) (by rw [bth_set _ _ _ _ (by omega), if_pos rfl])] at h1
              omega)
            have HRL := Lib.hid (fun k i => runTo_le xs HH.out f E came hE.1 k i)
            have hba := HB.out a han
            have hr1 := (HRL.out p a).1
            have hr2 := (HRL.out (p + 1) a).2
            rw [HRA.out, ← HMF.out] at hr2
            obtain ⟨t, ht⟩ : ∃ t, t = min (ith xs a) E := ⟨_, rfl⟩
            have HT := Lib.hid ht
            rw [← ht] at hr2
            have ht1 : 0 ≤ t ∧ t ≤ E := by omega
            have htm : 0 ≤ t * (mf : Int) := Int.mul_nonneg ht1.1 (by omega)
            have hmin : min E (ith xs a) = t := by omega
            obtain ⟨R, hR⟩ : ∃ R, R = S a + runTo xs f E came p a := ⟨_, rfl⟩
            rw [← hR] at z1
            have HR := Lib.hid hR
            have hR0 : 0 ≤ R ∧ R + t * (mf : Int) ≤ 1000000000000 := by omega
            clear hR hba hr1 hr2
            have hwm : IntKind.i64.wrap (t * (mf : Int)) = t * (mf : Int) := by rw [IntKind.wrap_i64]; omega
            have hws : IntKind.i64.wrap (R + t * (mf : Int)) = R + t * (mf : Int) := by rw [IntKind.wrap_i64]; omega
            have ha0 : (0 : Int) ≤ (a : Int) := by omega
            have hal : (a : Int) < (xs.length : Int) := by omega
            have HC5 : Hid (CellsF (wz.setCell ⟨Q, a, none⟩ (.int .i64 (R + t * (mf : Int)))) Q xs.length (fun i => S i + runTo xs f E came p i + if i = a then min (ith xs a) E * fact f else 0)) := Lib.hid (HCZ.out.put han _ (fun j _ => by
              by_cases e : j = a
              · subst e; rw [if_pos rfl, if_pos rfl, HR.out, HT.out, HMF.out]
              · rw [if_neg e, if_neg e]; omega))
            have hg5' := grownBy_setCell wz ⟨Q, a, none⟩ (.int .i64 (R + t * (mf : Int)))
            have hI5 := hIz.grown hg5' (fun b hb e => hIQ b hb (by simpa using e))
            have hL5 := hLz.grown hg5' (fun b hb e => hLQ b hb (by simpa using e))
            have hQ5 : Q < (wz.setCell ⟨Q, a, none⟩ (.int .i64 (R + t * (mf : Int)))).heap.size := by simpa [World.setCell] using hQz
            clear ht
            go_upto_region 12 with fail
            generalize (wz.setCell ⟨Q, a, none⟩ (.int .i64 (R + t * (mf : Int)))) = w4 at *
            clear z1 z2 hlc hcc hwm hws
            have htk : ((lftI came xs.length).take p).length = p := by rw [List.length_take, HLI.out]; omega
            have hdr : ((lftI came xs.length).drop (p + 1)).length = f - p := by rw [List.length_drop, HLI.out]; omega
            have hTK := hL5.takeN p
            have hDR := hL5.dropN (p + 1)
            have HSET := Lib.hid (lftI_set hl hpl ha)
            have HWS : Hid (wait (came.set a true) xs.length = f) := Lib.hid (by
              have := wait_set came a (by omega) hca xs.length
              rw [if_pos han, HW.out] at this; omega)
            obtain ⟨TK, hTKe⟩ : ∃ TK, TK = (lftI came xs.length).take p := ⟨_, rfl⟩
            obtain ⟨DR, hDRe⟩ : ∃ DR, DR = (lftI came xs.length).drop (p + 1) := ⟨_, rfl⟩
            rw [← hTKe] at htk hTK HSET
            rw [← hDRe] at hdr hDR HSET
            clear hTKe hDRe
            have hq1 : (0 : Int) ≤ (p : Int) := by omega
            have hq2 : (p : Int) ≤ (lcap : Int) := by omega
            have hq3 : (p : Int) + 1 ≤ (f : Int) + 1 := by omega
            have hq4 : ((p : Int) + 1).toNat = p + 1 := by omega
            by_cases hcap : p + 1 = lcap
            · have hfp2 : f = p := by omega
              subst hfp2
              have hDR0 : DR = [] := List.length_eq_zero_iff.1 (by omega)
              subst hDR0
              have hfp3 : f - f = 0 := by omega
              have hcz : lcap - (f + 1) = 0 := by omega
              subst hcap
              go_wp2_with (first
                | (at_builtin; refine wpList_append_ints _ rfl _ _ 22 rfl 3 i0 Try.underlying22 hi hz0 hz1 hz2 w4.heap.size _ TK rfl ho5' hx45.size (some ⟨lb, lf, none⟩) _ [] (by rfl) (fun k hk => by simp at hk) (by omega) (by first | omega | simp) ?_; intro v6 w6 ho6 hg6 hb6)
                | (at_builtin; refine wpList_append_ints _ rfl _ _ 22 rfl 3 i0 Try.underlying22 hi hz0 hz1 hz2 w4.heap.size _ [] rfl (Own.nil _ _ _) (Nat.le_refl _) (some ⟨lb, lf, none⟩) _ TK (by rw [htk]; rfl) hTK (by simp) (by omega) ?_; intro v5 w5 ho5 hg5 hb5; have hx45 : Ext w4 w5 := Ext.ofGrown hg5; have ho5' : Own w5 w4.heap.size 1 v5 (ints TK) := by simpa using ho5))
              have hg6' : w5.grownBy w6 v5.ownBlock := hg6
              have hx46 : Ext w4 w6 := hx45.onto hg6' (fun q hq => by have := (ho5'.lt q hq).1; omega)
              rw [← HSET.out] at ho6
              have hln : (lftI (came.set a true) xs.length).length = f := by rw [lftI_length]; exact HWS.out
              obtain ⟨no, nc, hv6, hNI, hNlow⟩ := ho6.intsShape
              obtain ⟨bo, bn, bc, hv7, hbc⟩ := ho6.shapeCap
              rw [hln] at hv6
              subst hv6
              simp only [Value.slice.injEq] at hv7
              obtain ⟨rfl, rfl, rfl⟩ := hv7
              have HCALL := HIH.out w6 (E - t) (some ⟨cb, cf, none⟩) no cap nc scap Q (came.set a true) (fun i => S i + runTo xs f E came f i + if i = a then min (ith xs a) E * fact f else 0) (hI5.ext hx46) hIQ (by simp [hl]) HWS.out hNI (fun b hb => by have := (hNlow b hb).1; omega) hbc (HC5.out.ext hQ5 hx46) (Nat.lt_of_lt_of_le hQ5 hx46.size) (by omega) (fun i hi => by
                have h1 := HB.out i hi
                have h2 := (HRL.out f i).1
                have h3 := (HRL.out (f + 1) i).2
                have h4 := HRS.out i
                rw [← HT.out] at h4 ⊢
                have h5 : 0 ≤ (if i = a then t * ((fact f : Nat) : Int) else 0) := by
                  split
                  · rw [← HMF.out]; exact htm
                  · exact Int.le_refl _
                omega)
              refine HCALL.mono ?_
              rintro e w7 ⟨rfl, hg7, hc7⟩
              have HC8 : Hid (CellsF w7 Q xs.length (fun i => S i + runTo xs f E came (f + 1) i)) := Lib.hid (fun j hj => by
                have h1 := hc7 j hj
                have h2 := HRS.out j
                rw [← HT.out] at h2
                show w7.cell? ⟨Q, j, none⟩ = some (.int .i64 (S j + runTo xs f E came (f + 1) j)) ∧ _
                rw [h2]
                simp only [← HT.out] at h1
                rw [← Int.add_assoc, ← Int.add_assoc]
                exact h1)
              have hg8 := grownBy_trans (grownBy_ext (grownBy_trans hgz hg5') hx46) hg7
              clear HCALL hc7
              go_wp2_with fail
              exact ⟨⟨f + 1, by omega, rfl, hg8, HC8⟩, by simp only [intOf]; omega⟩
            · have hq5 : (p : Int) + 1 < (lcap : Int) := by omega
              have hq6 : p + 1 < lcap := by omega
              go_wp2_with (first
                | (at_builtin; refine wpList_append_ints _ rfl _ _ 22 rfl 3 i0 Try.underlying22 hi hz0 hz1 hz2 w4.heap.size _ TK rfl ho5' hx45.size (some ⟨lb, lf + (p + 1), none⟩) _ DR (by rw [hdr]; rfl) (hDR.ext hx45) (by omega) (by first | omega | simp) ?_; intro v6 w6 ho6 hg6 hb6)
                | (at_builtin; refine wpList_append_ints _ rfl _ _ 22 rfl 3 i0 Try.underlying22 hi hz0 hz1 hz2 w4.heap.size _ [] rfl (Own.nil _ _ _) (Nat.le_refl _) (some ⟨lb, lf, none⟩) _ TK (by rw [htk]; rfl) hTK (by simp) (by omega) ?_; intro v5 w5 ho5 hg5 hb5; have hx45 : Ext w4 w5 := Ext.ofGrown hg5; have ho5' : Own w5 w4.heap.size 1 v5 (ints TK) := by simpa using ho5))
              have hg6' : w5.grownBy w6 v5.ownBlock := hg6
              have hx46 : Ext w4 w6 := hx45.onto hg6' (fun q hq => by have := (ho5'.lt q hq).1; omega)
              rw [← HSET.out] at ho6
              have hln : (lftI (came.set a true) xs.length).length = f := by rw [lftI_length]; exact HWS.out
              obtain ⟨no, nc, hv6, hNI, hNlow⟩ := ho6.intsShape
              obtain ⟨bo, bn, bc, hv7, hbc⟩ := ho6.shapeCap
              rw [hln] at hv6
              subst hv6
              simp only [Value.slice.injEq] at hv7
              obtain ⟨rfl, rfl, rfl⟩ := hv7
              have HCALL := HIH.out w6 (E - t) (some ⟨cb, cf, none⟩) no cap nc scap Q (came.set a true) (fun i => S i + runTo xs f E came p i + if i = a then min (ith xs a) E * fact f else 0) (hI5.ext hx46) hIQ (by simp [hl]) HWS.out hNI (fun b hb => by have := (hNlow b hb).1; omega) hbc (HC5.out.ext hQ5 hx46) (Nat.lt_of_lt_of_le hQ5 hx46.size) (by omega) (fun i hi => by
                have h1 := HB.out i hi
                have h2 := (HRL.out p i).1
                have h3 := (HRL.out (p + 1) i).2
                have h4 := HRS.out i
                rw [← HT.out] at h4 ⊢
                have h5 : 0 ≤ (if i = a then t * ((fact f : Nat) : Int) else 0) := by
                  split
                  · rw [← HMF.out]; exact htm
                  · exact Int.le_refl _
                omega)
              refine HCALL.mono ?_
              rintro e w7 ⟨rfl, hg7, hc7⟩
              have HC8 : Hid (CellsF w7 Q xs.length (fun i => S i + runTo xs f E came (p + 1) i)) := Lib.hid (fun j hj => by
                have h1 := hc7 j hj
                have h2 := HRS.out j
                rw [← HT.out] at h2
                show w7.cell? ⟨Q, j, none⟩ = some (.int .i64 (S j + runTo xs f E came (p + 1) j)) ∧ _
                rw [h2]
                simp only [← HT.out] at h1
                rw [← Int.add_assoc, ← Int.add_assoc]
                exact h1)
              have hg8 := grownBy_trans (grownBy_ext (grownBy_trans hgz hg5') hx46) hg7
              clear HCALL hc7
              go_wp2_with fail
              exact ⟨⟨p + 1, by omega, rfl, hg8, HC8⟩, by simp only [intOf]; omega⟩
          · obtain rfl : p = f + 1 := by omega
            have HE : Hid (CellsF wz Q xs.length (fun i => S i + gets xs (f + 1) E came i)) := Lib.hid (fun j hj => by
              have := HCZ.out j hj
              simp only [runTo_all xs f E came (f + 1) j (by rw [HLEN.out]; omega)] at this
              exact this)
            have hgg := (grownBy_trans (hx.grown (some Q)) hgz)
            clear HCZ hI hL
            go_wp2_with fail
            exact bodyPost_end (v := .tuple #[]) (by simp [results, Try.results95, go_sem]) rfl ⟨rfl, hgg, HE.out⟩
end Go.Proofs.Ytcngecibljgndaa
