/- Balanced: the walk. -/
import Derived.Test.YtcngecibljgndaaMLH
import Derived.Test.YtcngecibljgndaaMNB
import Derived.BigRegion
namespace Go.Proofs.Ytcngecibljgndaa
open Go.RowKit Go.Shelf

theorem rows_run (cols : Nat) : ∀ (f : Nat) (T T' : Tab), runP cols f T = some T' → T'.rows.length = T.rows.length
  | 0, T, T', hr => by simp [runP] at hr
  | f + 1, T, T', hr => by
    unfold runP at hr
    by_cases hs : T.sm = true
    · rw [if_pos hs] at hr
      by_cases hn : firstI negB (T.goal.take cols) < 0
      · rw [if_pos hn, Option.some.injEq] at hr
        subst hr; rfl
      · rw [if_neg hn] at hr
        cases ho : outP T (firstI negB (T.goal.take cols)).toNat T.rows.length with
        | none => rw [ho] at hr; simp at hr
        | some o =>
          rw [ho] at hr
          exact (rows_run cols f _ T' hr).trans (stepTo_len T o _ _)
    · rw [if_neg hs] at hr; simp at hr
theorem rows_great {f s : Nat} {T T' : Tab} {ws : List Int} (h : greatestP f s T = some (T', ws)) : T'.rows.length = T.rows.length := by
  unfold greatestP at h
  cases hrun : runP T.sets f { T with goal := goal0 T s } with
  | none => rw [hrun] at h; simp at h
  | some T2 =>
    rw [hrun] at h
    simp only [] at h
    split at h
    · simp only [Option.some.injEq, Prod.mk.injEq] at h
      obtain ⟨rfl, -⟩ := h
      exact rows_run T.sets f { T with goal := goal0 T s } _ hrun
    · simp at h
/-- Is a number no set? -/
def outS (n : Nat) (s : Int) : Bool := decide (s < 1 ∨ 2 ^ n ≤ s)
theorem outS_calls (w : World) (n B : Nat) (hn : n ≤ 7) (hB : w.cell? ⟨B, 0, none⟩ = some (.int .i64 n)) (_ : B < w.heap.size) (s : Int) :
    Calls Try.prog 78 #[.int .i64 s, .pointer (some ⟨B, 0, none⟩)] w fun e w' => e = .returned (.bool (outS n s)) ∧ Ext w w' := by
  obtain ⟨N, hN, HN, hNb⟩ : ∃ N : Nat, (2 : Int) ^ n = N ∧ Hid (N = 2 ^ n) ∧ N ≤ 128 := by
    refine ⟨2 ^ n, by simp, Lib.hid rfl, ?_⟩
    have : 2 ^ n ≤ 2 ^ 7 := Nat.pow_le_pow_right (by omega) hn
    omega
  have HO : Hid (outS n s = decide (s < 1 ∨ (N : Int) ≤ s)) := Lib.hid (by unfold outS; rw [hN])
  by_cases h0 : s < 1
  · go_enter Try.func78, Try.ntmps78
    go_wp2_with fail
    go_ret
    exact ⟨ret_bool (by rw [HO.out]; simp [h0]), (by repeat (first | exact Ext.refl _ | assumption | refine Ext.alloc ?_ _ | refine Ext.drewN ?_ _ | refine Ext.drew ?_))⟩
  · by_cases h1 : (N : Int) ≤ s
    · go_enter Try.func78, Try.ntmps78
      go_wp2_with fail
      go_ret
      exact ⟨ret_bool (by rw [HO.out]; simp [h1]), (by repeat (first | exact Ext.refl _ | assumption | refine Ext.alloc ?_ _ | refine Ext.drewN ?_ _ | refine Ext.drew ?_))⟩
    · go_enter Try.func78, Try.ntmps78
      go_wp2_with fail
      go_ret
      exact ⟨ret_bool (by rw [HO.out]; simp [h0, h1]), (by repeat (first | exact Ext.refl _ | assumption | refine Ext.alloc ?_ _ | refine Ext.drewN ?_ _ | refine Ext.drew ?_))⟩
theorem enters_outS : ∀ args w, (callFunc 78 args).run Try.prog w = .ok (.enter 78 args) w := enters_of Try.func78 (by kernel_rfl) rfl
theorem pred_outS (w : World) (n B : Nat) (hn : n ≤ 7) (hB : w.cell? ⟨B, 0, none⟩ = some (.int .i64 n)) (hl : B < w.heap.size) : PredI w 78 #[.pointer (some ⟨B, 0, none⟩)] (outS n) :=
  ⟨fun args w' => enters_outS args w', fun w' x hx => outS_calls w' n B hn ((hx.cell (p := ⟨B, 0, none⟩) hl).trans hB) (Nat.lt_of_lt_of_le hl hx.size) x⟩
theorem any_outS (n : Nat) (ss : List Int) : ss.any (outS n) = false ↔ In1 n ss := by
  simp only [List.any_eq_false, outS, decide_eq_true_eq, In1]
  constructor
  · intro h x hx; have := h x hx; omega
  · intro h x hx; have := h x hx; omega
/-- What Balanced returns. -/
def BalRes (w : World) (n : Int) (ss : List Int) (e : Ending) (w' : World) : Prop :=
  (¬ GoodS n ss ∧ e = .returned (.tuple #[.agg #[.slice none 0 0, .int .i64 0], .int .i64 2]) ∧ Ext w w') ∨
  (GoodS n ss ∧ ¬ Bal n.toNat ss ∧ e = .returned (.tuple #[.agg #[.slice none 0 0, .int .i64 0], .int .i64 10]) ∧ Ext w w') ∨
  (GoodS n ss ∧ Bal n.toNat ss ∧ ∃ v l d, Weighs n.toNat ss l d ∧ e = .returned (.tuple #[.agg #[v, .int .i64 d], .int .i64 0]) ∧ Own w' w.heap.size 1 v (ints l) ∧ Ext w w')
theorem Weighs.bal {n : Nat} {ss l : List Int} {d : Int} (h : Weighs n ss l d) : Bal n ss :=
  ⟨h.some_, fun k hk => ⟨ith l, d, ⟨h.den.1, fun k hk => by have := h.num k hk; omega, h.all⟩, (h.num k hk).1⟩⟩
/-- The blocks of a tableau are not that block. -/
structure OffQ (Q : Nat) (A : Ats) (m : Nat) : Prop where
  t : A.t ≠ Q
  rg : A.rg ≠ Q
  bg : A.bg ≠ Q
  gb : A.gb ≠ Q
  rb : ∀ i, i < m → A.rb i ≠ Q
theorem OffQ.on {Q B N : Nat} {w : World} {A : Ats} {T : Tab} (h : OffQ Q A T.rows.length) (hT : TabAt w B A T) : OnX (fun k => B ≤ k ∧ k ≠ Q) N A T.rows.length :=
  ⟨.inr ⟨hT.tIn.1, h.t⟩, .inr ⟨hT.rgIn.1, h.rg⟩, .inr ⟨hT.bgIn.1, h.bg⟩, .inr ⟨hT.gbIn.1, h.gb⟩, fun i hi => .inr ⟨(hT.rbIn i hi).1, h.rb i hi⟩⟩
theorem OffQ.of {Q B : Nat} {w : World} {A : Ats} {T : Tab} (hT : TabAt w B A T) (hQ : w.heap.size ≤ Q) : OffQ Q A T.rows.length :=
  ⟨by have := hT.tIn.2; omega, by have := hT.rgIn.2; omega, by have := hT.bgIn.2; omega, by have := hT.gbIn.2; omega, fun i hi => by have := (hT.rbIn i hi).2; omega⟩
/-- A list of numbers that may be written. -/
def CellsF (w : World) (Q N : Nat) (f : Nat → Int) : Prop := ∀ j, j < N → w.cell? ⟨Q, j, none⟩ = some (.int .i64 (f j)) ∧ w.frozen? ⟨Q, j, none⟩ = false
theorem CellsF.ext {w w' : World} {Q N : Nat} {f : Nat → Int} (h : CellsF w Q N f) (hQ : Q < w.heap.size) (hx : Ext w w') : CellsF w' Q N f := fun j hj =>
  ⟨(hx.cell (p := ⟨Q, j, none⟩) hQ).trans (h j hj).1, (hx.frozen (p := ⟨Q, j, none⟩) hQ).trans (h j hj).2⟩
theorem CellsF.extX {X : Nat → Prop} {w w' : World} {Q N : Nat} {f : Nat → Int} (h : CellsF w Q N f) (hQ : Q < w.heap.size) (hX : ¬ X Q) (hx : ExtX X w w') : CellsF w' Q N f := fun j hj =>
  ⟨(hx.cell (p := ⟨Q, j, none⟩) hQ hX).trans (h j hj).1, (hx.frozen (p := ⟨Q, j, none⟩) hQ hX).trans (h j hj).2⟩
theorem CellsF.put {w : World} {Q N : Nat} {f g : Nat → Int} (h : CellsF w Q N f) {i : Nat} (hi : i < N) (u : Int) (hg : ∀ j, j < N → g j = if j = i then u else f j) : CellsF (w.setCell ⟨Q, i, none⟩ (.int .i64 u)) Q N g := fun j hj => by
  rw [World.frozen?_setCell, hg j hj]
  refine ⟨?_, (h j hj).2⟩
  by_cases e : j = i
  · subst e
    rw [if_pos rfl]; exact World.cell?_setCell_same _ _ _ (h j hj).1
  · rw [if_neg e, World.cell?_setCell_other _ _ _ _ (fun e2 => e (by simp only [Addr.mk.injEq, and_true, true_and] at e2; exact e2.symm))]
    exact (h j hj).1
theorem GoodS.of {m : Nat} {ss : List Int} (h1 : 1 ≤ m) (h7 : m ≤ 7) (hl : ss.length ≤ 128) (hs : In1 m ss) : GoodS m ss := ⟨by omega, hl, fun x hx => by simpa using hs x hx⟩
theorem GoodS.in1 {m : Nat} {ss : List Int} (h : GoodS m ss) : In1 m ss := fun x hx => by simpa using h.sets x hx
/-- What the sums of a round are. -/
def mixF (tot ws : Nat → Int) (c e : Nat) (i : Nat) (j : Nat) : Int := if j < i then tot j * c + ws j * e else tot j
theorem mixF_succ (tot ws : Nat → Int) (c e i j : Nat) : mixF tot ws c e (i + 1) j = if j = i then tot i * c + ws i * e else mixF tot ws c e i j := by
  unfold mixF
  by_cases h : j = i
  · subst h; rw [if_pos (by omega), if_pos rfl]
  · rw [if_neg h]
    by_cases h2 : j < i
    · rw [if_pos (by omega), if_pos h2]
    · rw [if_neg (by omega), if_neg h2]
set_option maxRecDepth 100000 in
set_option maxHeartbeats 4000000 in
theorem balancedG_calls (w : World) (m : Nat) (ao : Option Addr) (cap : Nat) (ss : List Int) (hI : IntsIn w ao ss) (hm : 1 ≤ m ∧ m ≤ 7) (hl : ss.length ≤ 128) :
    Calls Try.prog 40 #[.int .i64 m, .slice ao ss.length cap] w (BalRes w m ss) := by
  have hent := enters_outS
  obtain ⟨hm1, hm7⟩ := hm
  go_enter Try.func40, Try.ntmps40
  go_wp2_with fail
  obtain ⟨w1, hw1⟩ : ∃ w1, w1 = ((w.alloc (Obj.cells #[.int .i64 m] 3)).alloc (Obj.cells #[.slice none 0 0, .int .i64 0] 26)) := ⟨_, rfl⟩
  have hx1 : Ext w w1 := by rw [hw1]; exact (by repeat (first | exact Ext.refl _ | assumption | refine Ext.alloc ?_ _ | refine Ext.drewN ?_ _ | refine Ext.drew ?_))
  have hn1 : w1.cell? ⟨w.heap.size, 0, none⟩ = some (.int .i64 m) := by rw [hw1]; simp [go_sem]
  have hs1 : Spot w1 (w.heap.size + 1) := by
    have := Spot.new (w.alloc (Obj.cells #[.int .i64 m] 3)) 26 (.slice none 0 0) (.int .i64 0)
    rw [show (w.alloc (Obj.cells #[.int .i64 m] 3)).heap.size = w.heap.size + 1 by simp] at this
    rw [hw1]; exact this
  rw [← hw1]
  clear hw1
  obtain ⟨BN, hBN⟩ : ∃ BN, BN = w.heap.size := ⟨_, rfl⟩
  rw [← hBN] at hn1 hs1 ⊢
  obtain ⟨R, hR⟩ : ∃ R, R = BN + 1 := ⟨_, rfl⟩
  rw [← hR] at hs1 ⊢
  have hRw : w.heap.size ≤ R := by omega
  have hBl : BN < w1.heap.size := by have := hs1.lt; omega
  clear hBN hR
  refine (containsFunc_calls _ ao cap ss 78 #[.pointer (some ⟨BN, 0, none⟩)] (outS m) (hI.ext hx1) (by omega) (pred_outS w1 m BN hm7 hn1 hBl)).mono ?_
  rintro e w2 ⟨rfl, hx2⟩
  have hx02 := hx1.trans hx2
  have hs2 := hs1.ext hx2
  cases ha : ss.any (outS m) with
  | true =>
    have HNG : Hid (¬ GoodS m ss) := Lib.hid (fun h => by rw [(any_outS m ss).2 h.in1] at ha; simp at ha)
    clear ha
    have hsb := hs2
    obtain ⟨c0, hc0⟩ := Option.isSome_iff_exists.1 hsb.some0
    obtain ⟨c1, hc1⟩ := Option.isSome_iff_exists.1 hsb.some1
    have hf0 := hsb.free0
    have hf1 := hsb.free1
    go_wp2_with fail
    obtain ⟨q0, q1⟩ := hsb.put (.slice none 0 0) (.int .i64 0)
    refine bodyPost_ret (v := .tuple #[.agg #[.slice none 0 0, .int .i64 0], .int .i64 2]) (by simp [results, Try.results40, go_sem, q0, q1]) rfl ?_
    have hxe := (hx02.setOwn ⟨R, 0, none⟩ (.slice none 0 0) hRw).setOwn ⟨R, 1, none⟩ (.int .i64 0) hRw
    exact (.inl ⟨HNG.out, rfl, hxe⟩)
  | false =>
    have HIN := Lib.hid ((any_outS m ss).1 ha)
    have HGS : Hid (GoodS m ss) := Lib.hid (GoodS.of hm1 hm7 hl HIN.out)
    clear ha
    have hn2 := (hx2.cell (p := ⟨BN, 0, none⟩) hBl).trans hn1
    have hBl2 : BN < w2.heap.size := Nat.lt_of_lt_of_le hBl hx2.size
    obtain ⟨f, o, HRD, HRS, HRT⟩ : ∃ f o, Hid (readyQ f (tabK m ss m) = some o) ∧ Hid ((∃ w D, IsW m ss w D) ↔ o ≠ none) ∧ Hid (∀ T, o = some T → ∃ e H, Std m ss e H T) := by
      obtain ⟨f, o, a1, a2, a3⟩ := readyQ_spec m ss ⟨hm1, hm7⟩ hl
      exact ⟨f, o, Lib.hid a1, Lib.hid a2, Lib.hid a3⟩
    have htc := tabled_calls w2 m ao cap ss (hI.ext hx02) (by omega) ⟨hm1, hm7⟩ (HIN.out.upto hm7)
    go_wp2_with fail
    refine htc.mono ?_
    rintro e w9 ⟨A, rfl, hTA, hx9⟩
    have hse : (tabK m ss m).sets ≤ 1000 := by show ss.length ≤ 1000; omega
    have hsn : (tabK m ss m).n ≤ 100 := by show m ≤ 100; omega
    clear htc hn2 hn1
    go_wp2_with fail
    refine (readyQ_calls w2 w9 w2.heap.size A (tabK m ss m) o f hTA hx9 (Nat.le_refl _) hse hsn HRD.out).mono ?_
    rintro e w10 (⟨hnone, rfl, hx10⟩ | ⟨T, rb, hT, rfl, hT10, hx10⟩)
    · have HNB : Hid (¬ Bal m ss) := Lib.hid (fun h => by
        obtain ⟨w', D, hw', -⟩ := h.2 0 h.1
        exact absurd hnone (HRS.out.1 ⟨w', D, hw'⟩))
      have hs10 := hs2.ext hx10
      have hx010 := hx02.trans hx10
      clear hTA hse hsn hnone
      have hsb := hs10
      obtain ⟨c0, hc0⟩ := Option.isSome_iff_exists.1 hsb.some0
      obtain ⟨c1, hc1⟩ := Option.isSome_iff_exists.1 hsb.some1
      have hf0 := hsb.free0
      have hf1 := hsb.free1
      go_wp2_with fail
      obtain ⟨q0, q1⟩ := hsb.put (.slice none 0 0) (.int .i64 0)
      refine bodyPost_ret (v := .tuple #[.agg #[.slice none 0 0, .int .i64 0], .int .i64 10]) (by simp [results, Try.results40, go_sem, q0, q1]) rfl ?_
      have hxe := (hx010.setOwn ⟨R, 0, none⟩ (.slice none 0 0) hRw).setOwn ⟨R, 1, none⟩ (.int .i64 0) hRw
      exact (.inr (.inl ⟨HGS.out, by simpa using HNB.out, rfl, hxe⟩))
    · have HW : Hid (∃ w D, IsW m ss w D) := Lib.hid (HRS.out.2 (by rw [hT]; simp))
      have hpos : 0 < ss.length := by
        obtain ⟨w', D, hw'⟩ := HW.out
        refine Nat.pos_of_ne_zero (fun h0 => ?_)
        have h1 := hw'.all 0 (by omega)
        rw [h0] at h1
        have h2 := hw'.pos
        simp only [sm] at h1
        omega
      obtain ⟨e0, H0, hStd⟩ := HRT.out T hT
      have HSTD : Hid (∃ e H, Std m ss e H T) := Lib.hid ⟨_, _, hStd⟩
      clear hTA hse hsn hT hStd HRS HRT HRD HW
      have hmk := make_ints ss.length (by omega)
      have hnw : ∀ j, j < ss.length → (w10.alloc (.cells (Array.replicate ss.length (.int .i64 0)) 3)).cell? ⟨w10.heap.size, j, none⟩ = some (.int .i64 0) ∧ (w10.alloc (.cells (Array.replicate ss.length (.int .i64 0)) 3)).frozen? ⟨w10.heap.size, j, none⟩ = false := fun j hj => ⟨by simp [go_sem, hj], by simp [go_sem]⟩
      have hCF : CellsF (w10.alloc (.cells (Array.replicate ss.length (.int .i64 0)) 3)) w10.heap.size ss.length (fun _ => 0) := hnw
      have hsz : (w10.alloc (.cells (Array.replicate ss.length (.int .i64 0)) 3)).heap.size = w10.heap.size + 1 := by simp
      have hx11 : Ext w2 (w10.alloc (.cells (Array.replicate ss.length (.int .i64 0)) 3)) := hx10.alloc _
      have hT11 := hT10.ext ((Ext.refl w10).alloc (.cells (Array.replicate ss.length (.int .i64 0)) 3))
      have hOff := OffQ.of hT10 (Nat.le_refl w10.heap.size)
      clear hnw
      go_wp2_with fail
      generalize (w10.alloc (.cells (Array.replicate ss.length (.int .i64 0)) 3)) = w11 at *
      obtain ⟨Q, hQ⟩ : ∃ Q, Q = w10.heap.size := ⟨_, rfl⟩
      rw [← hQ] at hCF hsz hOff ⊢
      have hQ2 : w2.heap.size ≤ Q := by have := hx10.size; omega
      clear hQ hT10 hx10 hmk
      go_loopw [8, 43] (fun dv iv wy => ∃ (k : Nat) (A2 : Ats) (T2 : Tab) (D : Nat) (tot : Nat → Int), k ≤ ss.length ∧ iv = .int .i64 k ∧ dv = .int .i64 D ∧ A2.t = A.t ∧ TabAt wy w2.heap.size A2 T2 ∧ Ext w2 wy ∧ Q < wy.heap.size ∧ Hid (CellsF wy Q ss.length tot) ∧ Hid (OffQ Q A2 T2.rows.length) ∧ Hid ((∃ e H, Std m ss e H T2) ∧ BalTo m ss k tot D)) (fun _ iv _ => ss.length - (intOf iv).toNat)
      case atStart => exact ⟨0, { A with rb := rb }, T, 1, fun _ => 0, by omega, rfl, rfl, rfl, hT11, hx11, by omega, Lib.hid hCF, Lib.hid hOff, Lib.hid ⟨HSTD.out, BalTo.zero m ss⟩⟩
      case round =>
        rename World => wy
        clear hT11 hx11 hCF hOff hsz
        obtain ⟨k, A2, T2, D, tot, hk, rfl, rfl, hAt, hTy, hxy, hQy, HC, HOF, HG2⟩ := hrel
        by_cases hlt : k < ss.length
        · obtain ⟨f3, T3, HGP, HSM2, HST2, H3, HMX⟩ : ∃ f3 T3, Hid (greatestP f3 k T2 = some (T3, weighP T3 T3.rows.length)) ∧ Hid T2.Sm ∧ Hid (T2.sets = ss.length) ∧ Hid (∃ e H, Std m ss e H T3) ∧ Hid (∀ w D, IsW m ss w D → w k * T3.den ≤ ith (weighP T3 T3.rows.length) k * D) := by
            obtain ⟨⟨e1, H1, hs1⟩, -⟩ := HG2.out
            obtain ⟨f3, T3, H2, g1, g2, g3⟩ := great_spec hs1 hlt (HIN.out.bit hlt)
            obtain ⟨s0, c0, hR0⟩ := hs1.rep
            exact ⟨f3, T3, Lib.hid g1, Lib.hid (hs1.sub.small hR0), Lib.hid (hs1.sub.sets.trans hs1.sets), Lib.hid ⟨_, _, g2⟩, Lib.hid g3⟩
          have hwl : (weighP T3 T3.rows.length).length = ss.length := by
            obtain ⟨e1, H1, hs1⟩ := H3.out
            rw [weighP_length]; exact hs1.sub.sets.trans hs1.sets
          have HIW : Hid (IsW m ss (ith (weighP T3 T3.rows.length)) T3.den ∧ 1 ≤ T3.den ∧ T3.den ≤ 32) := Lib.hid (by
            obtain ⟨e1, H1, hs1⟩ := H3.out
            exact ⟨hs1.weigh.2.1, hs1.den32 ⟨hm1, hm7⟩⟩)
          have HRL : Hid (T3.rows.length = T2.rows.length) := Lib.hid (rows_great HGP.out)
          obtain ⟨ws, hws⟩ : ∃ ws, ws = weighP T3 T3.rows.length := ⟨_, rfl⟩
          rw [← hws] at HGP hwl HMX HIW
          clear hws
          obtain ⟨b, hb⟩ : ∃ b : Nat, T3.den = b := ⟨T3.den.toNat, by have := HIW.out.2.1; omega⟩
          have hgc := greatestX_calls (fun q => w2.heap.size ≤ q ∧ q ≠ Q) wy wy w2.heap.size A2 T2 T3 ws f3 k hTy HSM2.out (ExtX.of _ (Ext.refl wy)) (HOF.out.on hTy) hxy.size (by rw [HST2.out]; exact hlt) HGP.out
          rw [hAt] at hgc
          go_wp2_with fail
          refine hgc.mono ?_
          rintro e w12 ⟨gb, g, off, wcap, rfl, hT12, hWS, hgbn, hgn, hxX⟩
          have hx12 : Ext w2 w12 := hxX.below hxy (fun q hq => hq.1)
          have hC12 := Lib.hid (HC.out.extX hQy (fun h => h.2 rfl) hxX)
          have hQ12 : Q < w12.heap.size := Nat.lt_of_lt_of_le hQy hxX.size
          have hO12 : Hid (OffQ Q { A2 with gb := gb } T3.rows.length) := Lib.hid ⟨HOF.out.t, HOF.out.rg, HOF.out.bg, by show gb ≠ Q; omega, fun i hi => HOF.out.rb i (by rw [← HRL.out]; exact hi)⟩
          have hWS' : ∀ j, j < ss.length → g < w12.heap.size ∧ w12.cell? ⟨g, off + j, none⟩ = some (.int .i64 (ith ws j)) := fun j hj => by
            obtain ⟨b9, f9, hb9, hb9l, hb9c⟩ := hWS j (by omega)
            simp only [Option.some.injEq, Addr.mk.injEq, and_true] at hb9
            obtain ⟨rfl, rfl⟩ := hb9
            exact ⟨hb9l, hb9c⟩
          have hgQ : g ≠ Q := by omega
          rw [hb, hwl]
          rw [hb] at HIW HMX
          clear hwl hgc hWS hgn hgbn hxX
          have hwk := (hWS' k hlt).2
          have hgl := (hWS' k hlt).1
          cases hz : (ith ws k == 0) with
          | true =>
            have HNB : Hid (¬ Bal m ss) := Lib.hid (fun h => by
              obtain ⟨w', D', hw', h0⟩ := h.2 k hlt
              have h1 := HMX.out w' D' hw'
              have h2 : ith ws k = 0 := by simpa using hz
              rw [h2, Int.zero_mul] at h1
              have := Int.mul_pos h0 (show 0 < (b : Int) by have := HIW.out.2.1; omega)
              omega)
            have hs12 := hs2.ext hx12
            have hx012 := hx02.trans hx12
            clear hWS'
            have hsb := hs12
            obtain ⟨c0, hc0⟩ := Option.isSome_iff_exists.1 hsb.some0
            obtain ⟨c1, hc1⟩ := Option.isSome_iff_exists.1 hsb.some1
            have hf0 := hsb.free0
            have hf1 := hsb.free1
            go_wp2_with fail
            obtain ⟨q0, q1⟩ := hsb.put (.slice none 0 0) (.int .i64 0)
            refine bodyPost_ret (v := .tuple #[.agg #[.slice none 0 0, .int .i64 0], .int .i64 10]) (by simp [results, Try.results40, go_sem, q0, q1]) rfl ?_
            have hxe := (hx012.setOwn ⟨R, 0, none⟩ (.slice none 0 0) hRw).setOwn ⟨R, 1, none⟩ (.int .i64 0) hRw
            exact (.inr (.inl ⟨HGS.out, by simpa using HNB.out, rfl, hxe⟩))
          | false =>
            obtain ⟨c, e, M, hM1, HM2, HM3, hc0, he0, HBT⟩ : ∃ c e M : Nat, D / Nat.gcd D b * b = M ∧ Hid (M = D * c) ∧ Hid (M = b * e) ∧ 0 < c ∧ 0 < e ∧ Hid (BalTo m ss (k + 1) (fun i => tot i * c + ith ws i * e) M) := by
              have hwle : ∀ i, i < ss.length → ith ws i ≤ b := fun i hi => HIW.out.1.le hi (HIN.out.bit hi)
              obtain ⟨c, e, M, a1, a2, a3, a4, a5, a6⟩ := HG2.out.2.step hlt (by have := HIW.out.2; omega) HIW.out.1 hwle (by
                have h1 := HIW.out.1.low k hlt
                have h2 : ith ws k ≠ 0 := by simpa using hz
                omega)
              exact ⟨c, e, M, a1, Lib.hid a2, Lib.hid a3, a4, a5, Lib.hid a6⟩
            have hDs := HG2.out.2.small
            have hDp := HG2.out.2.pos
            have hMs := HBT.out.small
            have hMp := HBT.out.pos
            obtain ⟨hb1, hb32⟩ : 1 ≤ b ∧ b ≤ 32 := by have := HIW.out.2; omega
            obtain ⟨gg, hgg⟩ : ∃ gg, gg = Nat.gcd D b := ⟨_, rfl⟩
            have hggp : 0 < gg := by rw [hgg]; exact Nat.gcd_pos_of_pos_left _ hDp
            obtain ⟨x, hx⟩ : ∃ x, x = D / gg := ⟨_, rfl⟩
            have htd : (D : Int).tdiv (gg : Int) = (x : Int) := by rw [Int.tdiv_eq_ediv_of_nonneg (by omega), hx]; simp
            have hxD : x ≤ D := by rw [hx]; exact Nat.div_le_self _ _
            have hxm : (x : Int) * (b : Int) = (M : Int) := by rw [← hM1, hx, hgg]; simp
            have hw1 : IntKind.i64.wrap ((x : Int) * (b : Int)) = (M : Int) := by rw [hxm, IntKind.wrap_i64]; omega
            have HGG := Lib.hid hgg
            have htc : (M : Int).tdiv (D : Int) = (c : Int) := by
              rw [Int.tdiv_eq_ediv_of_nonneg (by omega), HM2.out, Int.natCast_mul]
              exact Int.mul_ediv_cancel_left _ (by omega)
            have hte : (M : Int).tdiv (b : Int) = (e : Int) := by
              rw [Int.tdiv_eq_ediv_of_nonneg (by omega), HM3.out, Int.natCast_mul]
              exact Int.mul_ediv_cancel_left _ (by omega)
            have HLOW : Hid (∀ i, i < ss.length → 0 ≤ tot i * c ∧ 0 ≤ ith ws i * e ∧ tot i * c + ith ws i * e ≤ 18483654770380800) := Lib.hid (fun i hi => by
              have h1 := (HBT.out.low i hi).2
              have h2 : (M : Int) * ((k + 1 : Nat) : Int) ≤ 144403552893600 * 128 := Int.mul_le_mul (by omega) (by omega) (by omega) (by omega)
              exact ⟨Int.mul_nonneg (HG2.out.2.low i hi).1 (by omega), Int.mul_nonneg (HIW.out.1.low i hi) (by omega), by omega⟩)
            have hcM : c ≤ M := by rw [HM2.out]; exact Nat.le_mul_of_pos_left _ hDp
            have heM : e ≤ M := by rw [HM3.out]; exact Nat.le_mul_of_pos_left _ (by omega)
            have hDz : (D : Int) ≠ 0 := by omega
            have hbz : (b : Int) ≠ 0 := by omega
            have hgz : (gg : Int) ≠ 0 := by omega
            clear hM1 hx hgg hxm hb
            go_wp2_with fail
            clear hz hwk hgl
            refine (gcd_calls _ (D : Int) (b : Int) (by omega) (by omega)).mono ?_
            rintro e' w13 ⟨rfl, hx13⟩
            rw [show ((Int.gcd (D : Int) (b : Int) : Nat) : Int) = (gg : Int) by rw [HGG.out, Int.gcd_natCast_natCast]]
            have hT13 := hT12.ext hx13
            have hx213 := hx12.trans hx13
            have hC13 := Lib.hid (hC12.out.ext hQ12 hx13)
            have hQ13 : Q < w13.heap.size := Nat.lt_of_lt_of_le hQ12 hx13.size
            have hWS13 : ∀ j, j < ss.length → g < w13.heap.size ∧ w13.cell? ⟨g, off + j, none⟩ = some (.int .i64 (ith ws j)) := fun j hj => ⟨Nat.lt_of_lt_of_le (hWS' j hj).1 hx13.size, (hx13.cell (p := ⟨g, off + j, none⟩) (hWS' j hj).1).trans (hWS' j hj).2⟩
            clear hT12 hC12 hWS' hx12 hx13 hQ12
            go_wp2_with fail
            go_loopw [67] (fun iv wz => ∃ i : Nat, i ≤ ss.length ∧ iv = .int .i64 i ∧ w13.grownBy wz (some Q) ∧ Hid (CellsF wz Q ss.length (mixF tot (ith ws) c e i))) (fun iv _ => ss.length - (intOf iv).toNat)
            case atStart => exact ⟨0, by omega, rfl, (Ext.refl _).grown _, Lib.hid (fun j hj => by
              have := hC13.out j hj
              unfold mixF
              rw [if_neg (by omega)]; exact this)⟩
            case round =>
              rename World => wz
              obtain ⟨i, hi, rfl, hgz', HCZ⟩ := hrel
              by_cases hlt2 : i < ss.length
              · obtain ⟨z1, z2⟩ := HCZ.out i hlt2
                rw [show mixF tot (ith ws) c e i i = tot i by unfold mixF; rw [if_neg (by omega)]] at z1
                have z3 := (grownBy_cell (p := ⟨g, off + i, none⟩) hgz' (hWS13 i hlt2).1 (by simp only [ne_eq, Option.some.injEq]; exact hgQ)).trans (hWS13 i hlt2).2
                have z4 : g < wz.heap.size := Nat.lt_of_lt_of_le (hWS13 i hlt2).1 hgz'.size
                have z5 : Q < wz.heap.size := Nat.lt_of_lt_of_le hQ13 hgz'.size
                obtain ⟨l1, l2, l3⟩ := HLOW.out i hlt2
                have hwa : IntKind.i64.wrap (tot i * (c : Int)) = tot i * (c : Int) := by rw [IntKind.wrap_i64]; omega
                have hwb : IntKind.i64.wrap (ith ws i * (e : Int)) = ith ws i * (e : Int) := by rw [IntKind.wrap_i64]; omega
                have hwc : IntKind.i64.wrap (tot i * (c : Int) + ith ws i * (e : Int)) = tot i * (c : Int) + ith ws i * (e : Int) := by rw [IntKind.wrap_i64]; omega
                have hva : wrap64 (tot i * (c : Int)) = tot i * (c : Int) := by unfold wrap64; omega
                have hvb : wrap64 (ith ws i * (e : Int)) = ith ws i * (e : Int) := by unfold wrap64; omega
                have hvc : wrap64 (tot i * (c : Int) + ith ws i * (e : Int)) = tot i * (c : Int) + ith ws i * (e : Int) := by unfold wrap64; omega
                have hv1 : wrap64 (c : Int) = (c : Int) := by unfold wrap64; omega
                have hv2 : wrap64 (e : Int) = (e : Int) := by unfold wrap64; omega
                have hiz : (i : Int) < (ss.length : Int) := by omega
                have hi0 : (0 : Int) ≤ (i : Int) := by omega
                have hgq := grownBy_ext (grownBy_trans hgz' (grownBy_setCell wz ⟨Q, i, none⟩ (.int .i64 (tot i * (c : Int) + ith ws i * (e : Int))))) ((Ext.refl _).drew)
                have HCQ : Hid (CellsF ((wz.setCell ⟨Q, i, none⟩ (.int .i64 (tot i * (c : Int) + ith ws i * (e : Int)))).drew) Q ss.length (mixF tot (ith ws) c e (i + 1))) := Lib.hid ((HCZ.out.put hlt2 _ (fun j _ => mixF_succ tot (ith ws) c e i j)).ext (by simpa [World.setCell] using z5) ((Ext.refl _).drew))
                clear hWS13
                go_wp2_with fail
                go_region
                go_wp2_with fail
                exact ⟨⟨i + 1, by omega, rfl, hgq, HCQ⟩, by simp only [intOf]; omega⟩
              · obtain rfl : i = ss.length := by omega
                have hTz := hT13.grown hgz' (fun q hq => by
                  simp only [Option.some.injEq] at hq
                  subst hq
                  exact ⟨Ne.symm hO12.out.t, Ne.symm hO12.out.rg, Ne.symm hO12.out.bg, Ne.symm hO12.out.gb, fun i hi => Ne.symm (hO12.out.rb i hi)⟩)
                have hxz := hx213.onto hgz' (fun q hq => by simp only [Option.some.injEq] at hq; omega)
                have HCE : Hid (CellsF wz Q ss.length (fun i => tot i * c + ith ws i * e)) := Lib.hid (fun j hj => by
                  have := HCZ.out j hj
                  unfold mixF at this
                  rw [if_pos hj] at this; exact this)
                have z5 : Q < wz.heap.size := Nat.lt_of_lt_of_le hQ13 hgz'.size
                go_wp2_with fail
                exact ⟨⟨k + 1, { A2 with gb := gb }, T3, M, _, by omega, rfl, rfl, hAt, hTz, hxz, z5, HCE, hO12, Lib.hid ⟨H3.out, HBT.out⟩⟩, by simp only [intOf]; omega⟩
        · obtain rfl : k = ss.length := by omega
          obtain ⟨xs, hxl, hxe⟩ : ∃ xs : List Int, xs.length = ss.length ∧ ∀ i, i < ss.length → ith xs i = tot i := ⟨(List.range ss.length).map tot, by simp, fun i hi => ith_map_range _ _ _ hi⟩
          have hXI : IntsIn wy (some ⟨Q, 0, none⟩) xs := fun i hi => ⟨Q, 0, rfl, hQy, by rw [Nat.zero_add, hxe i (by omega)]; exact (HC.out i (by omega)).1⟩
          have hWG := HG2.out.2.done hpos hl hxl hxe
          have hDs := HG2.out.2.small
          have hDp := HG2.out.2.pos
          have hDN1 : (D : Int) * ss.length ≤ 144403552893600 * 128 := Int.mul_le_mul (by omega) (by omega) (by omega) (by omega)
          have hDN0 : 0 < (D : Int) * ss.length := Int.mul_pos (by omega) (by omega)
          have hlc := lowest_calls wy (some ⟨Q, 0, none⟩) ss.length xs ((D : Int) * ss.length) hXI (by omega) (by omega) (fun i hi => by
            have := HG2.out.2.low i (by omega)
            rw [hxe i (by omega)]; omega)
          rw [hxl] at hlc
          have hw1 : IntKind.i64.wrap ((D : Int) * (ss.length : Int)) = (D : Int) * (ss.length : Int) := by rw [IntKind.wrap_i64]; omega
          have hs3 := hs2.ext hxy
          have hx03 := hx02.trans hxy
          obtain ⟨DN, hDN⟩ : ∃ DN, DN = (D : Int) * (ss.length : Int) := ⟨_, rfl⟩
          rw [← hDN] at hWG hlc
          replace hw1 : IntKind.i64.wrap ((D : Int) * (ss.length : Int)) = DN := hw1.trans hDN.symm
          have HWG := Lib.hid hWG
          clear hDN hWG hxl hxe hXI hDN1 hDN0
          go_wp2_with fail
          refine hlc.mono ?_
          rintro e w14 ⟨v, rfl, ho, hx14⟩
          have hx09 := hx03.trans hx14
          have hsb := hs3.ext hx14
          obtain ⟨vo, vn, vc, rfl, -⟩ := ho.shapeCap
          obtain ⟨c0, hc0⟩ := Option.isSome_iff_exists.1 hsb.some0
          obtain ⟨c1, hc1⟩ := Option.isSome_iff_exists.1 hsb.some1
          have hf0 := hsb.free0
          have hf1 := hsb.free1
          have hR3 := hs3.lt
          clear hlc
          go_wp2_with fail
          obtain ⟨q0, q1⟩ := hsb.put (.slice vo vn vc) (.int .i64 (DN / gcdL DN xs))
          refine bodyPost_ret (v := .tuple #[.agg #[.slice vo vn vc, .int .i64 (DN / gcdL DN xs)], .int .i64 0]) (by simp [results, Try.results40, go_sem, q0, q1]) rfl ?_
          have ho2 := (ho.keep (grownBy_setCell _ ⟨R, 0, none⟩ (.slice vo vn vc)) (by right; intro e; have := (ho.lt R e).1; omega)).keep (grownBy_setCell _ ⟨R, 1, none⟩ (.int .i64 (DN / gcdL DN xs))) (by right; intro e; have := (ho.lt R e).1; omega)
          refine .inr (.inr ⟨HGS.out, by rw [Int.toNat_natCast]; exact HWG.out.bal, .slice vo vn vc, xs.map (· / (gcdL DN xs : Int)), DN / gcdL DN xs, by rw [Int.toNat_natCast]; exact HWG.out, rfl, ho2.rebase (by have := hx03.size; omega), (hx09.setOwn _ _ hRw).setOwn _ _ hRw⟩)
set_option maxRecDepth 100000 in
set_option maxHeartbeats 1000000 in
theorem balanced_calls (w : World) (n : Int) (ao : Option Addr) (cap : Nat) (ss : List Int) (hI : IntsIn w ao ss) (hlen : ss.length ≤ 1000000) :
    Calls Try.prog 40 #[.int .i64 n, .slice ao ss.length cap] w (BalRes w n ss) := by
  by_cases hg : 1 ≤ n ∧ n ≤ 7 ∧ ss.length ≤ 128
  · obtain ⟨m, rfl⟩ : ∃ m : Nat, n = (m : Int) := ⟨n.toNat, by omega⟩
    exact balancedG_calls w m ao cap ss hI (by omega) hg.2.2
  · have HNG : Hid (¬ GoodS n ss) := Lib.hid (fun h => hg ⟨h.n1.1, h.n1.2, h.len⟩)
    by_cases h1 : n < 1
    · clear hg
      go_enter Try.func40, Try.ntmps40
      go_wp2_with fail
      refine bodyPost_ret (v := .tuple #[.agg #[.slice none 0 0, .int .i64 0], .int .i64 2]) (by simp [results, Try.results40, go_sem]) rfl ?_
      exact .inl ⟨HNG.out, rfl, (by repeat (first | exact Ext.refl _ | assumption | refine Ext.alloc ?_ _ | refine Ext.drewN ?_ _ | refine Ext.drew ?_))⟩
    · by_cases h2 : 7 < n
      · clear hg
        go_enter Try.func40, Try.ntmps40
        go_wp2_with fail
        refine bodyPost_ret (v := .tuple #[.agg #[.slice none 0 0, .int .i64 0], .int .i64 2]) (by simp [results, Try.results40, go_sem]) rfl ?_
        exact .inl ⟨HNG.out, rfl, (by repeat (first | exact Ext.refl _ | assumption | refine Ext.alloc ?_ _ | refine Ext.drewN ?_ _ | refine Ext.drew ?_))⟩
      · have h3 : 128 < ss.length := by omega
        clear hg
        go_enter Try.func40, Try.ntmps40
        go_wp2_with fail
        refine bodyPost_ret (v := .tuple #[.agg #[.slice none 0 0, .int .i64 0], .int .i64 2]) (by simp [results, Try.results40, go_sem]) rfl ?_
        exact .inl ⟨HNG.out, rfl, (by repeat (first | exact Ext.refl _ | assumption | refine Ext.alloc ?_ _ | refine Ext.drewN ?_ _ | refine Ext.drew ?_))⟩
end Go.Proofs.Ytcngecibljgndaa
