/- run of a tableau: the walk. -/
import Derived.Test.YtcngecibljgndaaQK
namespace Go.Proofs.Ytcngecibljgndaa
open Go.RowKit Go.Shelf

/-- Is row i better than row o, to be taken out? -/
def betterB (T : Tab) (c i o : Nat) : Bool := decide (T.ent i (T.sets + T.n) * T.ent o c < T.ent o (T.sets + T.n) * T.ent i c) || (decide (T.ent i (T.sets + T.n) * T.ent o c = T.ent o (T.sets + T.n) * T.ent i c) && decide (ith T.basis i < ith T.basis o))
def pickP (T : Tab) (c : Nat) (out : Option Nat) (i : Nat) : Option Nat :=
  if T.ent i c ≤ 0 then out else match out with | none => some i | some o => if betterB T c i o = true then some i else out
def outP (T : Tab) (c k : Nat) : Option Nat := (List.range k).foldl (pickP T c) none
theorem outP_succ (T : Tab) (c k : Nat) : outP T c (k + 1) = pickP T c (outP T c k) k := by simp [outP, List.range_succ, List.foldl_append]
theorem outP_lt (T : Tab) (c : Nat) : ∀ (k o : Nat), outP T c k = some o → o < k
  | 0, o, h => by simp [outP] at h
  | k + 1, o, h => by
    rw [outP_succ] at h
    unfold pickP at h
    split at h
    · have := outP_lt T c k o h; omega
    · split at h
      · simp at h; omega
      · rename_i o' he
        split at h
        · simp at h; omega
        · have := outP_lt T c k o h
          omega
def outV : Option Nat → Int
  | none => -1
  | some o => o
def negB (n : Int) : Bool := decide (n < 0)
def runP (cols : Nat) : Nat → Tab → Option Tab
  | 0, _ => none
  | f + 1, T => if T.sm = true then (if firstI negB (T.goal.take cols) < 0 then some T else match outP T (firstI negB (T.goal.take cols)).toNat T.rows.length with | none => none | some o => runP cols f (pivotP T o (firstI negB (T.goal.take cols)).toNat)) else none

theorem neg_calls (w : World) (n : Int) : Calls Try.prog 124 #[.int .i64 n] w fun e w' => e = .returned (.bool (negB n)) ∧ Ext w w' := by
  go_enter Try.func124, Try.ntmps124
  go_wp2_with fail
  go_ret
  exact ⟨rfl, Ext.refl _⟩
theorem enters_neg : ∀ args w, (callFunc 124 args).run Try.prog w = .ok (.enter 124 args) w := enters_of Try.func124 (by kernel_rfl) rfl
theorem pred_neg (w : World) : PredI w 124 #[] negB := ⟨fun args w' => enters_neg args w', fun w' x _ => neg_calls w' x⟩

theorem TabAt.goalIn {w : World} {B : Nat} {A : Ats} {T : Tab} (h : TabAt w B A T) (hs : T.Sm) (cols : Nat) : IntsIn w (some ⟨A.gb, 0, none⟩) (T.goal.take cols) := by
  intro k hk
  rw [List.length_take, hs.goal.len] at hk
  refine ⟨A.gb, 0, rfl, h.gbIn.2, ?_⟩
  have e : ith (T.goal.take cols) k = ith T.goal k := by
    simp only [ith, List.getD_eq_getElem?_getD, List.getElem?_take]
    rw [if_pos (by omega)]
  rw [Nat.zero_add, e]
  exact (h.goalC k (by omega)).1
theorem firstI_bounds (p : Int → Bool) (L : List Int) (h : ¬ firstI p L < 0) : ∃ c : Nat, firstI p L = (c : Int) ∧ c < L.length := by
  unfold firstI at h ⊢
  cases hf : L.findIdx? p with
  | none => rw [hf] at h; simp at h
  | some k =>
    rw [List.findIdx?_eq_some_iff_getElem] at hf
    exact ⟨k, rfl, hf.1⟩

set_option maxRecDepth 100000 in
set_option maxHeartbeats 4000000 in
theorem runX_calls (X : Nat → Prop) (w0 w : World) (B : Nat) (A : Ats) (T0 T' : Tab) (cols f : Nat) (hT0 : TabAt w B A T0) (hx0 : ExtX X w0 w) (h0 : OnX X w0.heap.size A T0.rows.length) (hc : cols ≤ T0.sets + T0.n) (hr : runP cols f T0 = some T') :
    Calls Try.prog 102 #[.pointer (some ⟨A.t, 0, none⟩), .int .i64 cols] w (TabResX X w0 B A T') := by
  have HR := Lib.hid hr
  have hent := enters_neg
  have hsm : T0.sm = true := by
    cases f with
    | zero => simp [runP] at hr
    | succ f =>
      rw [runP] at hr
      split at hr
      · assumption
      · simp at hr
  have hS0 := Tab.sm_iff hsm
  have hse := hS0.sets
  have hsn := hS0.n
  have h1 := hT0.c0
  have h2 := hT0.c1
  have hw1 : IntKind.i64.wrap ((T0.sets : Int) + (T0.n : Int)) = (T0.sets : Int) + (T0.n : Int) := by rw [IntKind.wrap_i64]; omega
  clear hsm hS0 hr
  go_enter Try.func102, Try.ntmps102
  go_wp2_with fail
  go_region
  go_wp2_with fail
  have hT0d := hT0.ext ((Ext.refl w).drew)
  have hx0d := hx0.drew
  generalize w.drew = w1 at *
  clear h1 h2 hT0 hx0
  rw [show (T0.sets : Int) + (T0.n : Int) = ((T0.sets + T0.n : Nat) : Int) by simp]
  have HL0 := Lib.hid (show T0.sets + T0.n = T0.sets + T0.n from rfl)
  generalize hL : T0.sets + T0.n = last at hc HL0 ⊢
  have HLL := Lib.hid hL
  clear hL hw1 HL0
  go_loopg [] f (fun q wr => ∃ T : Tab, TabAt wr B A T ∧ Hid (T.sets + T.n = last ∧ T.rows.length = T0.rows.length) ∧ ExtX X w0 wr ∧ Hid (runP cols q T = some T'))
  case atStart => exact ⟨T0, hT0d, Lib.hid ⟨HLL.out, rfl⟩, hx0d, HR⟩
  case round =>
    obtain ⟨T, hT, HLT, hx, HG⟩ := hrel
    have HW : Hid (T.wide = last + 1) := Lib.hid (by unfold Tab.wide; have := HLT.out.1; omega)
    obtain ⟨q, rfl⟩ : ∃ q, gk = q + 1 := by
      cases gk with
      | zero => have := HG.out; simp [runP] at this
      | succ q => exact ⟨q, rfl⟩
    have hG := HG.out
    rw [runP] at hG
    by_cases hsm : T.sm = true
    · rw [if_pos hsm] at hG
      have hS := Lib.hid (Tab.sm_iff hsm)
      have hgl : (T.goal.take cols).length = cols := by rw [List.length_take, hS.out.goal.len]; have := HW.out; omega
      have h3 := hT.c3
      have ht2 := hT.tIn.2
      have hwd : T.wide ≤ 2000 := by unfold Tab.wide; have := hS.out.sets; have := hS.out.n; omega
      have hcw : cols ≤ T.wide := by have := HW.out; omega
      have hgi := hT.goalIn hS.out cols
      have HGG := Lib.hid hG
      clear hG hsm HG
      have hic := indexFunc_calls wr (some ⟨A.gb, 0, none⟩) T.wide (T.goal.take cols) 124 #[] negB hgi (by omega) (pred_neg wr)
      rw [hgl] at hic
      go_wp2_with fail
      refine hic.mono ?_
      rintro e w2 ⟨rfl, hx2⟩
      have hT2 := hT.ext hx2
      have hx02 := hx.trans hx2
      clear hic hgi h3
      by_cases hneg : firstI negB (T.goal.take cols) < 0
      · have hG := HGG.out
        rw [if_pos hneg] at hG
        have hTT := Lib.hid (Option.some.inj hG)
        clear hG HGG
        go_wp2_with fail
        go_end0
        rw [← hTT.out]
        exact ⟨⟨_, rfl⟩, hT2, hx02⟩
      · obtain ⟨c, hcf, hcl⟩ := firstI_bounds negB _ hneg
        have hG := HGG.out
        rw [if_neg hneg, hcf] at hG
        rw [hcf]
        rw [hgl] at hcl
        have HGX := Lib.hid hG
        clear hG HGG hneg hcf
        have h2c := hT2.c2
        have hmany := hS.out.many
        have hcw2 : c < T.wide := by omega
        go_wp2_with fail
        go_loopw [6, 32] (fun ov i ws => ∃ k : Nat, k ≤ T.rows.length ∧ i = .int .i64 k ∧ ov = .int .i64 (outV (outP T c k)) ∧ Ext w2 ws) (fun _ i _ => T.rows.length - (intOf i).toNat)
        case atStart => exact ⟨0, by omega, rfl, rfl, Ext.refl _⟩
        case round =>
          rename World => ws
          obtain ⟨k, hk, rfl, rfl, hx3⟩ := hrel
          have hT3 := hT2.ext hx3
          by_cases hlt : k < T.rows.length
          · have hrk := (hT3.rowC k hlt).1
            have hek := (hT3.entC k c hlt hcw2).1
            have hsk := hS.out.row k hlt
            have hbk := hsk.ent c hcw2
            have hrg3 := hT3.rgIn.2
            have hrb3 := (hT3.rbIn k hlt).2
            by_cases he0 : T.ent k c ≤ 0
            · have HO : Hid (outP T c (k + 1) = outP T c k) := Lib.hid (by rw [outP_succ, pickP.eq_def, if_pos he0])
              go_wp2_with fail
              exact ⟨⟨k + 1, by omega, rfl, by rw [HO.out], hx3⟩, by simp only [intOf]; omega⟩
            · cases ho : outP T c k with
              | none =>
                have HO : Hid (outP T c (k + 1) = some k) := Lib.hid (by rw [outP_succ, pickP.eq_def, if_neg he0, ho])
                simp only [outV]
                clear ho
                go_wp2_with fail
                refine wp_region_after (by kernel_rfl) (by kernel_rfl) ?_
                intro hne
                repeat (go_big_quiet_step (fail))
                refine wpQuiet_nil ?_
                intro w9 hx9
                go_wp2_with fail
                exact ⟨⟨k + 1, by omega, rfl, by rw [HO.out], hx3.trans hx9⟩, by simp only [intOf]; omega⟩
              | some o =>
                have hok : o < k := outP_lt T c k o ho
                have hol : o < T.rows.length := by omega
                have hlw : last < T.wide := by have := HW.out; omega
                have hlw2 : (last : Int) < (T.wide : Int) := by omega
                have hol2 : (o : Int) < (T.rows.length : Int) := by omega
                have hkl2 : (k : Int) < (T.rows.length : Int) := by omega
                have hcl2 : (c : Int) < (T.wide : Int) := by omega
                have hno : ((o : Int) < 0) = False := by simp
                have hz1 : (0 : Int) ≤ (o : Int) := by omega
                have hz2 : (0 : Int) ≤ (k : Int) := by omega
                have hz3 : (0 : Int) ≤ (c : Int) := by omega
                have hz4 : (0 : Int) ≤ (last : Int) := by omega
                have ht3 := hT3.tIn.2
                have hb3 := hT3.bgIn.2
                have hro3 := (hT3.rbIn o hol).2
                have a1 := After.cell (hT3.entC k last hlt hlw).1 hrb3
                have a2 := After.cell hT3.c2 ht3
                have a3 := After.cell (hT3.rowC o hol).1 hrg3
                have a4 := After.cell (hT3.entC o c hol hcw2).1 hro3
                have a5 := After.cell (hT3.entC o last hol hlw).1 hro3
                have a6 := After.cell hek hrb3
                have a7 := After.cell hT3.c4 ht3
                have a8 := After.cell (hT3.basC k hlt).1 hb3
                have a9 := After.cell (hT3.basC o hol).1 hb3
                have b1 := mul_small (hsk.ent last hlw) ((hS.out.row o hol).ent c hcw2)
                have b2 := mul_small ((hS.out.row o hol).ent last hlw) (hsk.ent c hcw2)
                have hw1 : IntKind.i64.wrap (T.ent k last * T.ent o c) = T.ent k last * T.ent o c := by rw [IntKind.wrap_i64]; unfold Tab.ent; omega
                have hw2 : IntKind.i64.wrap (T.ent o last * T.ent k c) = T.ent o last * T.ent k c := by rw [IntKind.wrap_i64]; unfold Tab.ent; omega
                have HBT : Hid (betterB T c k o = (decide (T.ent k last * T.ent o c < T.ent o last * T.ent k c) || (decide (T.ent k last * T.ent o c = T.ent o last * T.ent k c) && decide (ith T.basis k < ith T.basis o)))) := Lib.hid (by unfold betterB; rw [HLT.out.1])
                have HP : Hid (outP T c (k + 1) = if betterB T c k o = true then some k else some o) := Lib.hid (by rw [outP_succ, pickP.eq_def, if_neg he0, ho])
                simp only [outV]
                clear b1 b2 ho
                cases hd1 : decide (T.ent k last * T.ent o c < T.ent o last * T.ent k c) with
                | true =>
                  have HO : Hid (outP T c (k + 1) = some k) := Lib.hid (by rw [HP.out, HBT.out, hd1]; rfl)
                  go_wp2_with fail
                  refine wp_region_after (by kernel_rfl) (by kernel_rfl) ?_
                  intro hne
                  repeat (go_big_quiet_step (fail))
                  refine wpQuiet_nil ?_
                  intro w9 hx9
                  go_wp2_with fail
                  exact ⟨⟨k + 1, by omega, rfl, by rw [HO.out], hx3.trans hx9⟩, by simp only [intOf]; omega⟩
                | false =>
                  cases hd2 : (T.ent k last * T.ent o c == T.ent o last * T.ent k c) with
                  | true =>
                    have hd2' : decide (T.ent k last * T.ent o c = T.ent o last * T.ent k c) = true := by simpa using hd2
                    cases hd3 : decide (ith T.basis k < ith T.basis o) with
                    | true =>
                      have HO : Hid (outP T c (k + 1) = some k) := Lib.hid (by rw [HP.out, HBT.out, hd1, hd2', hd3]; rfl)
                      go_wp2_with fail
                      refine wp_region_after (by kernel_rfl) (by kernel_rfl) ?_
                      intro hne
                      repeat (go_big_quiet_step (fail))
                      refine wpQuiet_nil ?_
                      intro w9 hx9
                      go_wp2_with fail
                      exact ⟨⟨k + 1, by omega, rfl, by rw [HO.out], hx3.trans hx9⟩, by simp only [intOf]; omega⟩
                    | false =>
                      have HO : Hid (outP T c (k + 1) = some o) := Lib.hid (by rw [HP.out, HBT.out, hd1, hd2', hd3]; rfl)
                      go_wp2_with fail
                      refine wp_region_after (by kernel_rfl) (by kernel_rfl) ?_
                      intro hne
                      repeat (go_big_quiet_step (fail))
                      refine wpQuiet_nil ?_
                      intro w9 hx9
                      go_wp2_with fail
                      exact ⟨⟨k + 1, by omega, rfl, by rw [HO.out], hx3.trans hx9⟩, by simp only [intOf]; omega⟩
                  | false =>
                    have hd2' : decide (T.ent k last * T.ent o c = T.ent o last * T.ent k c) = false := by simpa using hd2
                    have HO : Hid (outP T c (k + 1) = some o) := Lib.hid (by rw [HP.out, HBT.out, hd1, hd2']; rfl)
                    go_wp2_with fail
                    refine wp_region_after (by kernel_rfl) (by kernel_rfl) ?_
                    intro hne
                    repeat (go_big_quiet_step (fail))
                    refine wpQuiet_nil ?_
                    intro w9 hx9
                    go_wp2_with fail
                    exact ⟨⟨k + 1, by omega, rfl, by rw [HO.out], hx3.trans hx9⟩, by simp only [intOf]; omega⟩
          · obtain rfl : k = T.rows.length := by omega
            have hG := HGX.out
            simp only [Int.toNat_natCast] at hG
            cases ho : outP T c T.rows.length with
            | none => rw [ho] at hG; simp at hG
            | some o =>
              rw [ho] at hG
              have hol := outP_lt T c _ _ ho
              have HGY := Lib.hid hG
              simp only [outV]
              clear hG HGX ho
              go_wp2_with fail
              refine (pivotX_calls X w0 ws B A T o c hT3 hS.out (hx02.trans hx3) (by rw [HLT.out.2]; exact h0) hol hcw2).mono ?_
              rintro e w4 ⟨⟨v, rfl⟩, hT4, hx4⟩
              go_wp2_with fail
              go_roundg q
              case measure => omega
              case rel => exact ⟨pivotP T o c, hT4, Lib.hid ⟨HLT.out.1, (stepTo_len T o c _).trans HLT.out.2⟩, hx4, HGY⟩
    · rw [if_neg hsm] at hG
      simp at hG
theorem run_calls (w0 w : World) (B : Nat) (A : Ats) (T0 T' : Tab) (cols f : Nat) (hT0 : TabAt w B A T0) (hx0 : Ext w0 w) (h0 : w0.heap.size ≤ B) (hc : cols ≤ T0.sets + T0.n) (hr : runP cols f T0 = some T') :
    Calls Try.prog 102 #[.pointer (some ⟨A.t, 0, none⟩), .int .i64 cols] w (TabRes w0 B A T') :=
  (runX_calls (fun _ => False) w0 w B A T0 T' cols f hT0 (ExtX.of _ hx0) (OnX.of _ hT0 h0) hc hr).mono fun _ _ h => h.toRes
end Go.Proofs.Ytcngecibljgndaa
