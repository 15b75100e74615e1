/- The specification's equal division: the walk. -/
import Derived.Test.YtcngecibljgndaaMRQC
import Derived.Test.YtcngecibljgndaaMQW
import Derived.Deep.DeepCutAuto
import Derived.BigQuiet
namespace Go.Proofs.Ytcngecibljgndaa
open Go.RowKit Go.Shelf

theorem e4 {w w' : World} {B : Nat} {u v x y : Value} (h : QBox w B u v x y) (hx : Ext w w') : (w'.cell? ⟨B, 0, none⟩ = some u) ∧ (w'.cell? ⟨B, 1, none⟩ = some v) ∧ (w'.cell? ⟨B, 2, none⟩ = some x) ∧ (w'.cell? ⟨B, 3, none⟩ = some y) :=
  ⟨(h.ext hx).c0, (h.ext hx).c1, (h.ext hx).c2, (h.ext hx).c3⟩

/-- Digits do not lie in any of three blocks. -/
def QV.off3 (x : QV) (E O N : Nat) : Prop := x.off E ∧ x.off O ∧ x.off N
/-- The memory of an equal division. -/
structure EqW (w0 wr : World) (E O N n : Nat) (es : List QV) (done : List Bool) (out : Nat → Rat) (e : Rat) : Prop where
  ext : Ext w0 wr
  est : ∃ x : QV, BoxQ wr E e x.nb x.zo x.A x.zc x.mb x.yo x.B x.yc ∧ x.off3 E O N
  own : Own wr w0.heap.size 4 (.slice (some ⟨O, 0, none⟩) n n) (qvals es)
  len : es.length = n
  got : ∀ k, k < n → bth done k = true → (qe es k).is wr (out k) ∧ (qe es k).off3 E O N
  flags : ∀ k, k < n → wr.cell? ⟨N, k, none⟩ = some (.bool (bth done k)) ∧ wr.frozen? ⟨N, k, none⟩ = false
  lo : w0.heap.size ≤ E ∧ w0.heap.size ≤ O ∧ w0.heap.size ≤ N
  lt : E < wr.heap.size ∧ O < wr.heap.size ∧ N < wr.heap.size
  ne : E ≠ O ∧ E ≠ N ∧ O ≠ N
section
variable {w0 wr : World} {E O N n : Nat} {es : List QV} {done : List Bool} {out : Nat → Rat} {e : Rat}
theorem EqW.on (h : EqW w0 wr E O N n es done out e) {w' : World} (hx : Ext wr w') : EqW w0 w' E O N n es done out e := by
  obtain ⟨x, hb, ho⟩ := h.est
  have hs := hx.size
  have := h.lt
  exact ⟨h.ext.trans hx, ⟨x, hb.ext hx, ho⟩, h.own.ext hx, h.len, fun k hk hd => ⟨isExt (h.got k hk hd).1 hx, (h.got k hk hd).2⟩,
    fun k hk => ⟨(hx.cell (p := ⟨N, k, none⟩) h.lt.2.2).trans (h.flags k hk).1, (hx.frozen (p := ⟨N, k, none⟩) h.lt.2.2).trans (h.flags k hk).2⟩, h.lo, by omega, h.ne⟩
theorem BoxQ.farG {w w' : World} {C R : Nat} {q : Rat} {nb mb : Bool} {zo yo : Option Addr} {A zc B yc : Nat} (h : BoxQ w C q nb zo A zc mb yo B yc) (hg : w.grownBy w' (some R)) (hne : C ≠ R) (hz : Off zo A R) (hy : Off yo B R) : BoxQ w' C q nb zo A zc mb yo B yc := by
  have hl := h.box.lt
  have hc : ∀ j, w'.cell? ⟨C, j, none⟩ = w.cell? ⟨C, j, none⟩ := fun j => grownBy_cell (p := ⟨C, j, none⟩) hg hl (by simpa using hne)
  exact ⟨⟨(hc 0).trans h.box.c0, (hc 1).trans h.box.c1, (hc 2).trans h.box.c2, (hc 3).trans h.box.c3, Nat.lt_of_lt_of_le hl hg.size⟩, h.spot.grown hg (by simpa using hne), h.num.far hg hz hy⟩
theorem EqW.setOut (h : EqW w0 wr E O N n es done out e) {a : Nat} (ha : a < n) (hd : bth done a = false) {x : QV} {q : Rat} (hx : x.is wr q) (ho : x.off3 E O N) :
    EqW w0 (putQ wr O (a * 4) x) E O N n (es.set a x) done (fun i => if i = a then q else out i) e ∧ x.is (putQ wr O (a * 4) x) q := by
  have hg := grown_putQ wr O (a * 4) x
  have hs := hg.size
  have hlt := h.lt
  have hne := h.ne
  have hlo := h.lo
  have hxq : x.is (putQ wr O (a * 4) x) q := isFar hx hg (fun C hC => by simp only [Option.some.injEq] at hC; subst hC; exact ho.2.1)
  obtain ⟨y, hb, hy⟩ := h.est
  refine ⟨⟨h.ext.onto hg (fun k hk => by simp only [Option.some.injEq] at hk; omega), ⟨y, hb.farG hg hne.1 hy.2.1.1 hy.2.1.2, hy⟩, ?_, by simp [h.len], fun k hk hdk => ?_, fun k hk => ?_, hlo, by omega, hne⟩, hxq⟩
  · have := own_putQ h.own h.len ha x
    rw [Nat.zero_add] at this
    exact this
  · have hka : k ≠ a := fun e1 => by rw [e1, hd] at hdk; simp at hdk
    rw [qe_set _ _ _ _ (by rw [h.len]; exact ha), if_neg hka]
    simp only [if_neg hka]
    exact ⟨isFar (h.got k hk hdk).1 hg (fun C hC => by simp only [Option.some.injEq] at hC; subst hC; exact (h.got k hk hdk).2.2.1), (h.got k hk hdk).2⟩
  · exact ⟨(grownBy_cell (p := ⟨N, k, none⟩) hg hlt.2.2 (by simp; omega)).trans (h.flags k hk).1, (grownBy_frozen (p := ⟨N, k, none⟩) hg hlt.2.2 (by simp; omega)).trans (h.flags k hk).2⟩
theorem EqW.setDone (h : EqW w0 wr E O N n es done out e) (hdl : done.length = n) {a : Nat} (ha : a < n) (hx : (qe es a).is wr (out a)) (ho : (qe es a).off3 E O N) :
    EqW w0 (wr.setCell ⟨N, a, none⟩ (.bool true)) E O N n es (done.set a true) out e := by
  have hg := grownBy_setCell wr ⟨N, a, none⟩ (.bool true)
  have hs := hg.size
  have hlt := h.lt
  have hne := h.ne
  have hlo := h.lo
  obtain ⟨y, hb, hy⟩ := h.est
  have far : ∀ {x : QV} {q : Rat}, x.is wr q → x.off3 E O N → x.is (wr.setCell ⟨N, a, none⟩ (.bool true)) q := fun hx ho => isFar hx hg (fun C hC => by simp only [Option.some.injEq] at hC; subst hC; exact ho.2.2)
  refine ⟨h.ext.onto hg (fun k hk => by simp only [Option.some.injEq] at hk; omega), ⟨y, hb.farG hg hne.2.1 hy.2.2.1 hy.2.2.2, hy⟩, h.own.keep hg (by right; simp [Value.ownBlock]; omega), h.len, fun k hk hdk => ?_, fun k hk => ?_, hlo, by omega, hne⟩
  · rw [bth_set _ _ _ _ (by omega)] at hdk
    by_cases e1 : k = a
    · subst e1; exact ⟨far hx ho, ho⟩
    · rw [if_neg e1] at hdk
      exact ⟨far (h.got k hk hdk).1 (h.got k hk hdk).2, (h.got k hk hdk).2⟩
  · rw [World.frozen?_setCell, bth_set _ _ _ _ (by omega)]
    refine ⟨?_, (h.flags k hk).2⟩
    by_cases e1 : k = a
    · subst e1
      rw [if_pos rfl]; exact World.cell?_setCell_same _ _ _ (h.flags k hk).1
    · rw [if_neg e1, World.cell?_setCell_other _ _ _ _ (by simp only [ne_eq, Addr.mk.injEq, and_true, true_and]; omega)]
      exact (h.flags k hk).1
theorem EqW.fillE (h : EqW w0 wr E O N n es done out e) {x : QV} {q : Rat} (hx : x.is wr q) (ho : x.off3 E O N) :
    EqW w0 (put4 wr E (.bool x.nb) (.slice x.zo x.A x.zc) (.bool x.mb) (.slice x.yo x.B x.yc)) E O N n es done out q := by
  have hg := grown_put4 wr E (.bool x.nb) (.slice x.zo x.A x.zc) (.bool x.mb) (.slice x.yo x.B x.yc)
  have hs := hg.size
  have hlt := h.lt
  have hne := h.ne
  have hlo := h.lo
  obtain ⟨y, hb, hy⟩ := h.est
  refine ⟨h.ext.onto hg (fun k hk => by simp only [Option.some.injEq] at hk; omega), ⟨x, BoxQ.put hb.spot hx ho.1.1 ho.1.2, ho⟩, h.own.keep hg (by right; simp [Value.ownBlock]; omega), h.len, fun k hk hdk => ?_, fun k hk => ?_, hlo, ⟨Nat.lt_of_lt_of_le hlt.1 hs, Nat.lt_of_lt_of_le hlt.2.1 hs, Nat.lt_of_lt_of_le hlt.2.2 hs⟩, hne⟩
  · exact ⟨isFar (h.got k hk hdk).1 hg (fun C hC => by simp only [Option.some.injEq] at hC; subst hC; exact (h.got k hk hdk).2.1), (h.got k hk hdk).2⟩
  · exact ⟨(grownBy_cell (p := ⟨N, k, none⟩) hg hlt.2.2 (by simp; omega)).trans (h.flags k hk).1, (grownBy_frozen (p := ⟨N, k, none⟩) hg hlt.2.2 (by simp; omega)).trans (h.flags k hk).2⟩
theorem EqW.cellsAt (h : EqW w0 wr E O N n es done out e) {a : Nat} (ha : a < n) :
    (wr.cell? ⟨O, a * 4, none⟩ = some (.bool (qe es a).nb) ∧ wr.frozen? ⟨O, a * 4, none⟩ = false) ∧ (wr.cell? ⟨O, a * 4 + 1, none⟩ = some (.slice (qe es a).zo (qe es a).A (qe es a).zc) ∧ wr.frozen? ⟨O, a * 4 + 1, none⟩ = false) ∧
    (wr.cell? ⟨O, a * 4 + 2, none⟩ = some (.bool (qe es a).mb) ∧ wr.frozen? ⟨O, a * 4 + 2, none⟩ = false) ∧ (wr.cell? ⟨O, a * 4 + 3, none⟩ = some (.slice (qe es a).yo (qe es a).B (qe es a).yc) ∧ wr.frozen? ⟨O, a * 4 + 3, none⟩ = false) := by
  obtain ⟨n', hn, h1 | ⟨g, o, c, e1, hb, hlt, hnc, hcm, hcc, hxx⟩⟩ := h.own
  · simp at h1
  · simp only [Value.slice.injEq, Option.some.injEq, Addr.mk.injEq, and_true] at e1
    obtain ⟨⟨rfl, rfl⟩, rfl, rfl⟩ := e1
    have key : ∀ j, j < 4 → wr.cell? ⟨O, a * 4 + j, none⟩ = (qe es a).vals[j]? ∧ wr.frozen? ⟨O, a * 4 + j, none⟩ = false := fun j hj => by
      have h1 := hxx (a * 4 + j) (by omega)
      have h2 := (hcc (a * 4 + j) (by omega)).2
      rw [Nat.zero_add] at h1 h2
      exact ⟨h1.trans (qvals_at es a j (by rw [h.len]; exact ha) hj), h2⟩
    exact ⟨key 0 (by omega), key 1 (by omega), key 2 (by omega), key 3 (by omega)⟩
end
/-- The place of the least that is left, among the first ones; -1: none yet. -/
def LeastTo (C : Nat → Int) (done : List Bool) (k : Nat) (o : Option Nat) : Prop :=
  (o = none ∧ ∀ j, j < k → bth done j = true) ∨ ∃ a, o = some a ∧ a < k ∧ bth done a = false ∧ ∀ j, j < k → bth done j = false → C a ≤ C j
def atV : Option Nat → Int
  | none => -1
  | some a => a
theorem LeastTo.skip {C : Nat → Int} {done : List Bool} {k : Nat} {o : Option Nat} (h : LeastTo C done k o) (hd : bth done k = true) : LeastTo C done (k + 1) o := by
  have key : ∀ j, j < k + 1 → j < k ∨ bth done j = true := fun j hj => by
    by_cases e : j = k
    · exact .inr (e ▸ hd)
    · exact .inl (by omega)
  rcases h with ⟨h1, h2⟩ | ⟨a, h1, h2, h3, h4⟩
  · exact .inl ⟨h1, fun j hj => (key j hj).elim (h2 j) id⟩
  · refine .inr ⟨a, h1, by omega, h3, fun j hj hdj => ?_⟩
    rcases key j hj with h5 | h5
    · exact h4 j h5 hdj
    · rw [hdj] at h5; simp at h5
theorem LeastTo.first {C : Nat → Int} {done : List Bool} {k : Nat} (h : LeastTo C done k none) (hd : bth done k = false) : LeastTo C done (k + 1) (some k) := by
  rcases h with ⟨-, h2⟩ | ⟨a, h1, -⟩
  · refine .inr ⟨k, rfl, by omega, hd, fun j hj hdj => ?_⟩
    by_cases e : j = k
    · rw [e]; exact Int.le_refl _
    · rw [h2 j (by omega)] at hdj; simp at hdj
  · simp at h1
theorem LeastTo.take {C : Nat → Int} {done : List Bool} {k a : Nat} (h : LeastTo C done k (some a)) (hd : bth done k = false) (hl : C k < C a) : LeastTo C done (k + 1) (some k) := by
  rcases h with ⟨h1, -⟩ | ⟨b, h1, h2, h3, h4⟩
  · simp at h1
  · obtain rfl := Option.some.inj h1
    refine .inr ⟨k, rfl, by omega, hd, fun j hj hdj => ?_⟩
    by_cases e : j = k
    · rw [e]; exact Int.le_refl _
    · have := h4 j (by omega) hdj; omega
theorem LeastTo.stay {C : Nat → Int} {done : List Bool} {k a : Nat} (h : LeastTo C done k (some a)) (hl : ¬ C k < C a) : LeastTo C done (k + 1) (some a) := by
  rcases h with ⟨h1, -⟩ | ⟨b, h1, h2, h3, h4⟩
  · simp at h1
  · obtain rfl := Option.some.inj h1
    refine .inr ⟨_, rfl, by omega, h3, fun j hj hdj => ?_⟩
    by_cases e : j = k
    · rw [e]; omega
    · exact h4 j (by omega) hdj
set_option maxRecDepth 100000 in
set_option maxHeartbeats 4000000 in
theorem qequal_calls (w : World) (nb mb : Bool) (zo yo : Option Addr) (A zc B yc : Nat) (ao : Option Addr) (cap : Nat) (C : Nat → Int) (n : Nat) (F : Int) (hP : QNum w (Rat.divInt F 2) nb zo A mb yo B) (hQ : QsIn w ao ((List.range n).map fun i => Rat.divInt (C i) 2))
    (hn : 1 ≤ n ∧ n ≤ 7) (hF : 0 ≤ F ∧ F ≤ 10000000) (hC : ∀ i, i < n → 0 ≤ C i ∧ C i ≤ 10000000) (hS : F ≤ sm n C) :
    Calls Try.prog 90 #[.agg #[.bool nb, .slice zo A zc, .bool mb, .slice yo B yc], .slice ao n cap] w (fun e w' => ∃ v es qs, e = .returned v ∧ QOn w' w.heap.size v es qs ∧ qs.length = n ∧ (∃ f m, EqIs C n F (qth qs) f m) ∧ Ext w w') := by
  have HC := Lib.hid hC
  have HS := Lib.hid hS
  obtain ⟨hn1, hn7⟩ := hn
  clear hC hS
  have hmk1 := make_qs n (by omega)
  have hmk2 := make_bools n (by omega)
  go_enter Try.func90, Try.ntmps90
  go_wp2_with fail
  obtain ⟨w1, hw1⟩ : ∃ w1, w1 = (((w.alloc (Obj.cells #[.bool nb, .slice zo A zc, .bool mb, .slice yo B yc] 41)).alloc (.cells (madeCells (Value.agg #[.bool false, .slice none 0 0, .bool false, .slice none 0 0]).cells (n * 4)) 41)).alloc (.cells (Array.replicate n (.bool false)) 4)) := ⟨_, rfl⟩
  have hW : EqW w w1 w.heap.size (w.heap.size + 1) (w.heap.size + 1 + 1) n (List.replicate n QV.zero) (List.replicate n false) (fun _ => 0) (Rat.divInt F 2) := by
    have hd0 : ∀ i, bth (List.replicate n false) i = false := fun i => by
      unfold bth
      by_cases h : i < n <;> simp [h]
    have hbox := BoxQ.made (zc := zc) (yc := yc) 41 hP
    have hown := own_made n (by omega) (w.alloc (Obj.cells #[.bool nb, .slice zo A zc, .bool mb, .slice yo B yc] 41))
    rw [World.size_alloc] at hown
    have hoff : ∀ X, w.heap.size ≤ X → QV.off ⟨nb, zo, A, zc, mb, yo, B, yc⟩ X := fun X hX => QV.off_new (w := w) (q := Rat.divInt F 2) (show QV.is ⟨nb, zo, A, zc, mb, yo, B, yc⟩ w _ from hP) hX
    rw [hw1]
    refine ⟨(by repeat (first | exact Ext.refl _ | assumption | refine Ext.alloc ?_ _ | refine Ext.drewN ?_ _ | refine Ext.drew ?_)), ⟨⟨nb, zo, A, zc, mb, yo, B, yc⟩, hbox.ext (((Ext.refl _).alloc _).alloc _), hoff _ (by omega), hoff _ (by omega), hoff _ (by omega)⟩, (hown.ext ((Ext.refl _).alloc _)).rebase (by omega), by simp, fun k hk hd => ?_, fun k hk => ?_, by omega, ?_, by omega⟩
    · rw [hd0] at hd; simp at hd
    · rw [hd0]
      have e2 : ((w.alloc (Obj.cells #[.bool nb, .slice zo A zc, .bool mb, .slice yo B yc] 41)).alloc (.cells (madeCells (Value.agg #[.bool false, .slice none 0 0, .bool false, .slice none 0 0]).cells (n * 4)) 41)).heap.size = w.heap.size + 1 + 1 := by rw [World.size_alloc, World.size_alloc]
      rw [← e2]
      generalize ((w.alloc (Obj.cells #[.bool nb, .slice zo A zc, .bool mb, .slice yo B yc] 41)).alloc (.cells (madeCells (Value.agg #[.bool false, .slice none 0 0, .bool false, .slice none 0 0]).cells (n * 4)) 41)) = w2
      exact ⟨by simp [go_sem, hk], by simp [go_sem]⟩
    · rw [World.size_alloc, World.size_alloc, World.size_alloc]; omega
  rw [show (Value.agg #[.bool false, .slice none 0 0, .bool false, .slice none 0 0]).cells = #[.bool false, .slice none 0 0, .bool false, .slice none 0 0] by rfl] at hw1
  rw [← hw1]
  clear hw1 hmk1 hmk2
  obtain ⟨E, hE⟩ : ∃ E, E = w.heap.size := ⟨_, rfl⟩
  rw [← hE] at hW ⊢
  clear hE
  obtain ⟨O, hO⟩ : ∃ O, O = E + 1 := ⟨_, rfl⟩
  rw [← hO] at hW ⊢
  clear hO
  obtain ⟨N, hN⟩ : ∃ N, N = O + 1 := ⟨_, rfl⟩
  rw [← hN] at hW ⊢
  clear hN hP
  have hfC : ∀ i, i < n → Fine (Rat.divInt (C i) 2) := fun i hi => fine_small (by omega) (by have := HC.out i hi; omega) (by omega)
  have HFC := Lib.hid hfC
  clear hfC
  have hcl : ∀ i, i < n → qth ((List.range n).map fun i => Rat.divInt (C i) 2) i = Rat.divInt (C i) 2 := fun i hi => by simp [qth, hi]
  have HCL := Lib.hid hcl
  clear hcl
  have HQ := Lib.hid hQ
  go_loopg [7] n (fun q mv wr => ∃ es done out e, mv = .int .i64 q ∧ q ≤ n ∧ EqW w wr E O N n es done out e ∧ Hid (EqSt C n F done q out e))
  case atStart => exact ⟨_, _, _, _, rfl, Nat.le_refl _, hW, Lib.hid (EqSt.start hF.1)⟩
  case round =>
    clear hW
    obtain ⟨es, done, out, e, rfl, hq, hWr, HST⟩ := hrel
    cases gk with
    | zero =>
      have hall := wait_zero HST.out.cnt
      have hres : QOn wr w.heap.size (.slice (some ⟨O, 0, none⟩) n n) es ((List.range n).map out) := by
        refine ⟨by simp [hWr.len], hWr.own, fun k hk => ?_, fun k hk Cb hCb => ?_⟩
        · have hk' : k < n := by simpa using hk
          have : qth ((List.range n).map out) k = out k := by simp [qth, hk']
          rw [this]; exact (hWr.got k hk' (hall k hk')).1
        · have hk' : k < n := by simpa using hk
          simp only [Value.ownBlock, Option.some.injEq] at hCb
          subst hCb
          exact (hWr.got k hk' (hall k hk')).2.2.1
      have hfin : ∃ f m, EqIs C n F (qth ((List.range n).map out)) f m := by
        obtain ⟨f, m, h1⟩ := HST.out.done (fun i hi => (HC.out i hi).1) HS.out
        exact ⟨f, m, h1.m1, h1.low, fun i hi => by rw [← h1.got i hi]; simp [qth, hi], h1.sum⟩
      have HR := Lib.hid hres
      have HFI := Lib.hid hfin
      clear hres hfin hall
      go_wp2_with fail
      go_ret
      exact ⟨_, es, _, rfl, HR.out, by simp, HFI.out, hWr.ext⟩
    | succ q =>
      have hmq : (0 : Int) < ((q + 1 : Nat) : Int) := by omega
      have hfine := HST.out.fine (by omega) hF HC.out
      obtain ⟨fe, fp⟩ := hfine
      have fp2 := fp (by omega)
      obtain ⟨x, hbE, hoE⟩ := hWr.est
      obtain ⟨x0, x1, x2, x3, xl⟩ := id hbE.box
      have fk : Fine (Rat.divInt ((q + 1 : Nat) : Int) 1) := fine_small (by omega) (by omega) (by omega)
      have hdn : (Rat.divInt ((q + 1 : Nat) : Int) 1).num ≠ 0 := by
        rw [low_num (n' := ((q + 1 : Nat) : Int)) (by omega) (by simp)]; simp; omega
      have hdc := fun W nb2 mb2 zo2 yo2 A2 zc2 B2 yc2 h h' => div_calls W x.nb x.mb nb2 mb2 x.zo x.yo zo2 yo2 x.A x.zc x.B x.yc A2 zc2 B2 yc2 e (Rat.divInt ((q + 1 : Nat) : Int) 1) h h' fe fk hdn
      obtain ⟨k1, hk1⟩ : ∃ k1 : Int, k1 = ((q + 1 : Nat) : Int) := ⟨_, rfl⟩
      have HK1 := Lib.hid hk1
      rw [← hk1] at hdc fk hdn fp2 hmq ⊢
      have hkb : k1 ≤ 7 := by omega
      clear hk1 x0 x1 x2 x3
      go_wp2_with fail
      go_cut [8] (fun s8 wx => ∃ P, s8 = .pointer (some ⟨P, 0, none⟩) ∧ OneQ wr wx P (e / Rat.divInt k1 1))
      case first =>
        go_region_held3 (fun w' => (w'.cell? ⟨E, 0, none⟩ = some (.bool x.nb)) ∧ (w'.cell? ⟨E, 1, none⟩ = some (.slice x.zo x.A x.zc)) ∧ (w'.cell? ⟨E, 2, none⟩ = some (.bool x.mb)) ∧ (w'.cell? ⟨E, 3, none⟩ = some (.slice x.yo x.B x.yc)))
          (exact e4 hbE.box (by repeat (with_reducible first | exact Ext.refl _ | assumption | refine Ext.alloc ?_ _ | refine Ext.drew ?_ | (refine Ext.setOwn ?_ _ _ (by first | exact Nat.le_refl _ | exact hxk1.size | exact hxk2.size)))))
          ((first
            | (go_at_call 93; refine (hdc _ nb2 mb2 zo2 yo2 A2 zc2 B2 yc2 (hbE.num.ext (hxk1.trans (by repeat (with_reducible first | exact Ext.refl _ | assumption | refine Ext.alloc ?_ _ | refine Ext.drew ?_)))) (hR2.ext (by repeat (with_reducible first | exact Ext.refl _ | assumption | refine Ext.alloc ?_ _ | refine Ext.drew ?_)))).mono ?_; rintro e' v2 ⟨nb, zo', A', zc', mb, yo', B', yc', rfl, hR, hbk, hbm, hx12⟩; have hxv2 : Ext v1 v2 := Ext.trans (by repeat (with_reducible first | exact Ext.refl _ | assumption | refine Ext.alloc ?_ _ | refine Ext.drew ?_)) hx12; have hxk2 : Ext wr v2 := hxk1.trans hxv2; (first | (have spc := ((Spot4.new v1 41).ext ((Ext.refl _).drew)).ext hx12; obtain ⟨c0XX, hc0XX⟩ := Option.isSome_iff_exists.1 spc.some0; obtain ⟨c1XX, hc1XX⟩ := Option.isSome_iff_exists.1 spc.some1; obtain ⟨c2XX, hc2XX⟩ := Option.isSome_iff_exists.1 spc.some2; obtain ⟨c3XX, hc3XX⟩ := Option.isSome_iff_exists.1 spc.some3; have hf0XX := spc.free0; have hf1XX := spc.free1; have hf2XX := spc.free2; have hf3XX := spc.free3; have hl0XX := spc.lt) | (have spc := (Spot4.new v1 41).ext hx12; obtain ⟨c0XX, hc0XX⟩ := Option.isSome_iff_exists.1 spc.some0; obtain ⟨c1XX, hc1XX⟩ := Option.isSome_iff_exists.1 spc.some1; obtain ⟨c2XX, hc2XX⟩ := Option.isSome_iff_exists.1 spc.some2; obtain ⟨c3XX, hc3XX⟩ := Option.isSome_iff_exists.1 spc.some3; have hf0XX := spc.free0; have hf1XX := spc.free1; have hf2XX := spc.free2; have hf3XX := spc.free3; have hl0XX := spc.lt) | skip); (try (have spe := spa.ext hxv2; obtain ⟨c0XX, hc0XX⟩ := Option.isSome_iff_exists.1 spe.some0; obtain ⟨c1XX, hc1XX⟩ := Option.isSome_iff_exists.1 spe.some1; obtain ⟨c2XX, hc2XX⟩ := Option.isSome_iff_exists.1 spe.some2; obtain ⟨c3XX, hc3XX⟩ := Option.isSome_iff_exists.1 spe.some3; have hf0XX := spe.free0; have hf1XX := spe.free1; have hf2XX := spe.free2; have hf3XX := spe.free3; have hl0XX := spe.lt)))
            | (go_at_call 31; refine (frac_calls _ k1 1 (by omega) (by omega) (by omega)).mono ?_; rintro e' v1 ⟨nb2, zo2, A2, zc2, mb2, yo2, B2, yc2, rfl, hR2, hbk2, hbm2, hx11⟩; have hxk1 : Ext wr v1 := Ext.trans (by repeat (with_reducible first | exact Ext.refl _ | assumption | refine Ext.alloc ?_ _ | refine Ext.drew ?_)) hx11; (first | (have spa := ((Spot4.new wr 41).ext ((Ext.refl _).drew)).ext hx11; obtain ⟨c0XX, hc0XX⟩ := Option.isSome_iff_exists.1 spa.some0; obtain ⟨c1XX, hc1XX⟩ := Option.isSome_iff_exists.1 spa.some1; obtain ⟨c2XX, hc2XX⟩ := Option.isSome_iff_exists.1 spa.some2; obtain ⟨c3XX, hc3XX⟩ := Option.isSome_iff_exists.1 spa.some3; have hf0XX := spa.free0; have hf1XX := spa.free1; have hf2XX := spa.free2; have hf3XX := spa.free3; have hl0XX := spa.lt) | (have spa := (Spot4.new wr 41).ext hx11; obtain ⟨c0XX, hc0XX⟩ := Option.isSome_iff_exists.1 spa.some0; obtain ⟨c1XX, hc1XX⟩ := Option.isSome_iff_exists.1 spa.some1; obtain ⟨c2XX, hc2XX⟩ := Option.isSome_iff_exists.1 spa.some2; obtain ⟨c3XX, hc3XX⟩ := Option.isSome_iff_exists.1 spa.some3; have hf0XX := spa.free0; have hf1XX := spa.free1; have hf2XX := spa.free2; have hf3XX := spa.free3; have hl0XX := spa.lt) | (have spa := (Spot4.new wr.drew 41).ext hx11; obtain ⟨c0XX, hc0XX⟩ := Option.isSome_iff_exists.1 spa.some0; obtain ⟨c1XX, hc1XX⟩ := Option.isSome_iff_exists.1 spa.some1; obtain ⟨c2XX, hc2XX⟩ := Option.isSome_iff_exists.1 spa.some2; obtain ⟨c3XX, hc3XX⟩ := Option.isSome_iff_exists.1 spa.some3; have hf0XX := spa.free0; have hf1XX := spa.free1; have hf2XX := spa.free2; have hf3XX := spa.free3; have hl0XX := spa.lt) | skip))))
        all_goals
          have e1 := hx11.size
          have e2 := hx12.size
          have e3 := hxk1.size
          try simp only [World.size_drew, World.size_alloc] at e1 e2 hbk hbm
          go_wp2_with fail
          go_meet
          refine ⟨_, rfl, ?_⟩
          with_reducible first
            | refine OneQ.made _ hxk2 hR ?_ ?_
            | refine OneQ.stored ?_ ?_ hxk2 hR ?_ ?_ ?_ ?_
          all_goals first
            | assumption
            | omega
            | exact fun a ha => by have := hbk a ha; omega
            | exact fun a ha => by have := hbm a ha; omega
            | exact fun _ a ha e => by have := hbk a ha; omega
            | exact fun _ a ha e => by have := hbm a ha; omega
      case rest =>
        obtain ⟨P, rfl, hPart⟩ := hcut
        have hWc : EqW w wc E O N n es done out e := hWr.on (by obtain ⟨_, _, _, _, _, _, _, _, _, _, _, _, _, _, h⟩ := hPart; exact h)
        have hQc := (HQ.out.ext hWc.ext)
        go_wp2_with fail
        go_loopw [9, 10] (fun av iv wi => ∃ (i : Nat) (o : Option Nat), i ≤ n ∧ iv = .int .i64 i ∧ av = .int .i64 (atV o) ∧ Hid (LeastTo C done i o) ∧ Ext wc wi) (fun _ iv _ => n - (intOf iv).toNat)
        case atStart => exact ⟨0, none, by omega, rfl, rfl, Lib.hid (.inl ⟨rfl, fun j hj => by omega⟩), Ext.refl _⟩
        case round =>
          rename World => wi
          obtain ⟨i, o, hi, rfl, rfl, HLT, hxi⟩ := hrel
          have hWi := hWc.on hxi
          by_cases hlt : i < n
          · obtain ⟨b1, o1, nb1, zo1, A1, zc1, mb1, yo1, B1, yc1, rfl, hb1, ⟨p0, p1, p2, p3⟩, hq1⟩ := (hQc.ext hxi) i (by simpa using hlt)
            rw [HCL.out i hlt] at hq1
            have hN := hWi.lt.2.2
            have hfl := (hWi.flags i hlt).1
            have hi1 : (0 : Int) ≤ (i : Int) := by omega
            have hi2 : (i : Int) < (n : Int) := by omega
            have f1 := HFC.out i hlt
            cases hd : bth done i with
            | true =>
              rw [hd] at hfl
              have a1 := After.cell hfl hN
              have HL2 := Lib.hid (HLT.out.skip hd)
              clear hd p0 p1 p2 p3
              go_wp2_with fail
              refine wp_region_after (by kernel_rfl) (by kernel_rfl) ?_
              intro hne
              repeat (go_big_quiet_step (fail))
              refine wpQuiet_nil ?_
              intro w9 hx9
              go_wp2_with fail
              exact ⟨⟨i + 1, o, by omega, rfl, rfl, HL2, hxi.trans hx9⟩, by simp only [intOf]; omega⟩
            | false =>
              rw [hd] at hfl
              have a1 := After.cell hfl hN
              cases o with
              | none =>
                have HL2 := Lib.hid (HLT.out.first hd)
                simp only [atV]
                clear hd p0 p1 p2 p3
                go_wp2_with fail
                refine wp_region_after (by kernel_rfl) (by kernel_rfl) ?_
                intro hne
                repeat (go_big_quiet_step (fail))
                refine wpQuiet_nil ?_
                intro w9 hx9
                go_wp2_with fail
                exact ⟨⟨i + 1, some i, by omega, rfl, rfl, HL2, hxi.trans hx9⟩, by simp only [intOf]; omega⟩
              | some a =>
                have han : a < n := by
                  rcases HLT.out with ⟨h1, -⟩ | ⟨b, h1, h2, -⟩
                  · simp at h1
                  · have := Option.some.inj h1; omega
                obtain ⟨b2, o2, nb2, zo2, A2, zc2, mb2, yo2, B2, yc2, he2, hb2, ⟨r0, r1, r2, r3⟩, hq2⟩ := (hQc.ext hxi) a (by simpa using han)
                simp only [Option.some.injEq, Addr.mk.injEq, and_true] at he2
                obtain ⟨rfl, rfl⟩ := he2
                rw [HCL.out a han] at hq2
                have f2 := HFC.out a han
                have ha1 : (0 : Int) ≤ (a : Int) := by omega
                have ha2 : (a : Int) < (n : Int) := by omega
                have hno : ((a : Int) < 0) = False := by simp
                have b0 := After.cell p0 hb1
                have b1' := After.cell p1 hb1
                have b2' := After.cell p2 hb1
                have b3 := After.cell p3 hb1
                have e0 := After.cell r0 hb2
                have e1 := After.cell r1 hb2
                have e2 := After.cell r2 hb2
                have e3 := After.cell r3 hb2
                obtain ⟨cq, hcq⟩ : ∃ cq, cmpQ (Rat.divInt (C i) 2) (Rat.divInt (C a) 2) = cq := ⟨_, rfl⟩
                have hcc := cmpQ_cases (C i) (C a) 2 2 (by omega) (by omega)
                rw [hcq] at hcc
                have HCC := Lib.hid hcc
                have hcall := fun s : After wi => cmp_calls s.at_ nb1 mb1 nb2 mb2 zo1 yo1 zo2 yo2 A1 zc1 B1 yc1 A2 zc2 B2 yc2 (Rat.divInt (C i) 2) (Rat.divInt (C a) 2) (hq1.ext s.ext) (hq2.ext s.ext) f1 f2
                rw [hcq] at hcall
                simp only [atV]
                clear hcc hcq p0 p1 p2 p3 r0 r1 r2 r3 hfl
                by_cases hlc : C i < C a
                · have hcn : cq < 0 := by rw [HCC.out, if_pos (by omega)]; omega
                  have HL2 := Lib.hid (HLT.out.take hd hlc)
                  clear hd hlc HCC
                  go_wp2_with fail
                  refine wp_region_after (by kernel_rfl) (by kernel_rfl) ?_
                  intro hne
                  repeat (go_big_quiet_step ((go_at_call 28; exact Calls.after (hcall _))))
                  refine wpQuiet_nil ?_
                  intro w9 hx9
                  go_wp2_with fail
                  exact ⟨⟨i + 1, some i, by omega, rfl, rfl, HL2, hxi.trans hx9⟩, by simp only [intOf]; omega⟩
                · have hcn : 0 ≤ cq := by
                    rw [HCC.out, if_neg (by omega)]
                    split <;> omega
                  have HL2 := Lib.hid (HLT.out.stay hlc)
                  clear hd hlc HCC
                  go_wp2_with fail
                  refine wp_region_after (by kernel_rfl) (by kernel_rfl) ?_
                  intro hne
                  repeat (go_big_quiet_step ((go_at_call 28; exact Calls.after (hcall _))))
                  refine wpQuiet_nil ?_
                  intro w9 hx9
                  go_wp2_with fail
                  exact ⟨⟨i + 1, some a, by omega, rfl, rfl, HL2, hxi.trans hx9⟩, by simp only [intOf]; omega⟩
          · obtain rfl : n = i := by omega
            obtain ⟨a, rfl, han, hda, hleast⟩ : ∃ a, o = some a ∧ a < n ∧ bth done a = false ∧ ∀ j, j < n → bth done j = false → C a ≤ C j := by
              rcases HLT.out with ⟨-, h2⟩ | ⟨a, h1, h2, h3, h4⟩
              · obtain ⟨j, hj, hdj⟩ := wait_some (done := done) (n := n) (by rw [HST.out.cnt]; omega)
                rw [h2 j hj] at hdj; simp at hdj
              · exact ⟨a, h1, h2, h3, h4⟩
            have HLE := Lib.hid hleast
            have HDA := Lib.hid hda
            clear hleast hda
            obtain ⟨b2, o2, nb2, zo2, A2, zc2, mb2, yo2, B2, yc2, rfl, hb2, hc2, hq2⟩ := HQ.out a (by simpa using han)
            rw [HCL.out a han] at hq2
            have f2 := HFC.out a han
            obtain ⟨nbp, zop, Ap, zcp, mbp, yop, Bp, ycp, hPlo, hbP, -, -, hzp, hyp, hxP⟩ := hPart.ext hxi
            obtain ⟨X, hX⟩ : ∃ X, X = eqX C e (q + 1) a := ⟨_, rfl⟩
            have hlt3 := hWr.lt
            have hsw := hWi.ext.size
            have hless : ∀ W, Ext wi W → Calls Try.prog 121 #[.agg #[.bool nb2, .slice zo2 A2 zc2, .bool mb2, .slice yo2 B2 yc2], .agg #[.bool nbp, .slice zop Ap zcp, .bool mbp, .slice yop Bp ycp]] W
                (fun r w' => ∃ y : QV, r = .returned (.agg #[.bool y.nb, .slice y.zo y.A y.zc, .bool y.mb, .slice y.yo y.B y.yc]) ∧ y.is w' X ∧ y.off3 E O N ∧ Ext W w') := fun W hW => by
              have h1 := hq2.ext (hWi.ext.trans hW)
              have h2 := hbP.num.ext hW
              refine (qlesser_calls W nb2 mb2 nbp mbp zo2 yo2 zop yop A2 zc2 B2 yc2 Ap zcp Bp ycp _ _ h1 h2 f2 fp2).mono ?_
              rintro r w' ⟨⟨h3, rfl⟩ | ⟨h3, rfl⟩, hx'⟩
              · refine ⟨⟨nb2, zo2, A2, zc2, mb2, yo2, B2, yc2⟩, rfl, ?_, ?_, hx'⟩
                · have : X = Rat.divInt (C a) 2 := by rw [hX, eqX, ← HK1.out, if_pos h3]
                  rw [this]; exact h1.ext hx'
                · have hlo := hWi.lo
                  exact ⟨QV.off_new (w := w) (q := Rat.divInt (C a) 2) hq2 hlo.1, QV.off_new (w := w) (q := Rat.divInt (C a) 2) hq2 hlo.2.1, QV.off_new (w := w) (q := Rat.divInt (C a) 2) hq2 hlo.2.2⟩
              · refine ⟨⟨nbp, zop, Ap, zcp, mbp, yop, Bp, ycp⟩, rfl, ?_, ?_, hx'⟩
                · have : X = e / Rat.divInt k1 1 := by rw [hX, eqX, ← HK1.out, if_neg h3]
                  rw [this]; exact h2.ext hx'
                · exact ⟨⟨off_fresh hzp hlt3.1, off_fresh hyp hlt3.1⟩, ⟨off_fresh hzp hlt3.2.1, off_fresh hyp hlt3.2.1⟩, ⟨off_fresh hzp hlt3.2.2, off_fresh hyp hlt3.2.2⟩⟩
            have fX : Fine X := by
              rw [hX, eqX, ← HK1.out]
              split
              · exact f2
              · exact fp2
            have HX := Lib.hid hX
            clear hX
            obtain ⟨p0, p1, p2, p3⟩ := hc2.ext hb2 hWi.ext
            have hb2i : b2 < wi.heap.size := Nat.lt_of_lt_of_le hb2 hsw
            obtain ⟨y0, y1, y2, y3, yl⟩ := id hbP.box
            have ha1 : (0 : Int) ≤ (a : Int) := by omega
            have ha2 : (a : Int) < (n : Int) := by omega
            simp only [atV]
            go_wp2_with fail
            go_region_with (go_at_call 121; refine (hless _ (by repeat (with_reducible first | exact Ext.refl _ | assumption | refine Ext.alloc ?_ _ | refine Ext.drew ?_))).mono ?_; rintro r v3 ⟨y, rfl, hy, hoy, hx13⟩; have hxi3 : Ext wi v3 := Ext.trans (by repeat (with_reducible first | exact Ext.refl _ | assumption | refine Ext.alloc ?_ _ | refine Ext.drew ?_)) hx13; have hW3 := hWi.on hxi3; obtain ⟨⟨s0, t0⟩, ⟨s1, t1⟩, ⟨s2, t2⟩, ⟨s3, t3⟩⟩ := hW3.cellsAt han; have hOl := hW3.lt.2.1)
            all_goals
              obtain ⟨hW6, hy6⟩ := hW3.setOut han HDA.out hy hoy
              replace hW6 : EqW w ((((v3.setCell ⟨O, a * 4, none⟩ (.bool y.nb)).setCell ⟨O, a * 4 + 1, none⟩ (.slice y.zo y.A y.zc)).setCell ⟨O, a * 4 + 2, none⟩ (.bool y.mb)).setCell ⟨O, a * 4 + 3, none⟩ (.slice y.yo y.B y.yc)) E O N n (es.set a y) done (fun i => if i = a then X else out i) e := hW6
              replace hy6 : y.is ((((v3.setCell ⟨O, a * 4, none⟩ (.bool y.nb)).setCell ⟨O, a * 4 + 1, none⟩ (.slice y.zo y.A y.zc)).setCell ⟨O, a * 4 + 2, none⟩ (.bool y.mb)).setCell ⟨O, a * 4 + 3, none⟩ (.slice y.yo y.B y.yc)) X := hy6
              generalize ((((v3.setCell ⟨O, a * 4, none⟩ (.bool y.nb)).setCell ⟨O, a * 4 + 1, none⟩ (.slice y.zo y.A y.zc)).setCell ⟨O, a * 4 + 2, none⟩ (.bool y.mb)).setCell ⟨O, a * 4 + 3, none⟩ (.slice y.yo y.B y.yc)) = w6 at *
              have hqa : qe (es.set a y) a = y := by rw [qe_set _ _ _ _ (by rw [hWi.len]; exact han), if_pos rfl]
              have HQA := Lib.hid hqa
              obtain ⟨g1, g2⟩ := hW6.flags a han
              have hNl := hW6.lt.2.2
              have hW7 := hW6.setDone HST.out.len han (by rw [hqa]; simpa using hy6) (by rw [hqa]; exact hoy)
              clear s0 t0 s1 t1 s2 t2 s3 t3 hW3 hy hxi3 hx13 hOl p0 p1 p2 p3 y0 y1 y2 y3 yl hqa
              go_upto_region 15 with fail
              generalize (w6.setCell ⟨N, a, none⟩ (.bool true)) = w7 at *
              clear g1 g2 hNl hy6
              obtain ⟨z, hbZ, hoZ⟩ := hW7.est
              obtain ⟨u0, u1, u2, u3, ul⟩ := id hbZ.box
              obtain ⟨⟨s0, t0⟩, ⟨s1, t1⟩, ⟨s2, t2⟩, ⟨s3, t3⟩⟩ := hW7.cellsAt han
              rw [HQA.out] at s0 s1 s2 s3
              have hOl := hW7.lt.2.1
              have hya := (hW7.got a han (by rw [bth_set _ _ _ _ (by rw [HST.out.len]; exact han), if_pos rfl])).1
              rw [HQA.out] at hya
              simp only [if_true] at hya
              have hsub := fun W h h' => sub_calls W z.nb z.mb y.nb y.mb z.zo z.yo y.zo y.yo z.A z.zc z.B z.yc y.A y.zc y.B y.yc e X h h' fe fX
              go_region_with (go_at_call 89; refine (hsub _ (hbZ.num.ext (by repeat (with_reducible first | exact Ext.refl _ | assumption | refine Ext.alloc ?_ _ | refine Ext.drew ?_))) (QNum.ext hya (by repeat (with_reducible first | exact Ext.refl _ | assumption | refine Ext.alloc ?_ _ | refine Ext.drew ?_)))).mono ?_; rintro r v4 ⟨nb5, zo5, A5, zc5, mb5, yo5, B5, yc5, rfl, hR5, hbk5, hbm5, hx14⟩; have hxw4 : Ext w7 v4 := Ext.trans (by repeat (with_reducible first | exact Ext.refl _ | assumption | refine Ext.alloc ?_ _ | refine Ext.drew ?_)) hx14; have hW8 := hW7.on hxw4; have spz := hbZ.spot.ext hxw4; obtain ⟨c0XX, hc0XX⟩ := Option.isSome_iff_exists.1 spz.some0; obtain ⟨c1XX, hc1XX⟩ := Option.isSome_iff_exists.1 spz.some1; obtain ⟨c2XX, hc2XX⟩ := Option.isSome_iff_exists.1 spz.some2; obtain ⟨c3XX, hc3XX⟩ := Option.isSome_iff_exists.1 spz.some3; have hf0XX := spz.free0; have hf1XX := spz.free1; have hf2XX := spz.free2; have hf3XX := spz.free3; have hl0XX := spz.lt)
              all_goals
                simp only [World.size_drew] at hbk5 hbm5
                have hl7 := hW7.lt
                have hW9 := hW8.fillE (x := ⟨nb5, zo5, A5, zc5, mb5, yo5, B5, yc5⟩) (q := e - X) hR5 ⟨⟨off_fresh hbk5 hl7.1, off_fresh hbm5 hl7.1⟩, ⟨off_fresh hbk5 hl7.2.1, off_fresh hbm5 hl7.2.1⟩, ⟨off_fresh hbk5 hl7.2.2, off_fresh hbm5 hl7.2.2⟩⟩
                have HST2 : Hid (EqSt C n F (done.set a true) q (fun i => if i = a then X else out i) (e - X)) := Lib.hid (by
                  rw [HX.out]
                  exact HST.out.step (by omega) (fun i hi => (HC.out i hi).1) han HDA.out HLE.out)
                clear hbk5 hbm5
                go_wp2_with fail
                go_roundg q
                case measure => omega
                case rel => exact ⟨_, _, _, _, by rw [show k1 - 1 = (q : Int) by rw [HK1.out]; omega], by omega, hW9, HST2⟩
end Go.Proofs.Ytcngecibljgndaa
