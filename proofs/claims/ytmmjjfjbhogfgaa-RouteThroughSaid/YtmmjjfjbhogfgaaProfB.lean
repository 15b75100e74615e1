/- Profile of the program. -/
import Derived.Test.YtmmjjfjbhogfgaaProfA
import Derived.Test.YtmmjjfjbhogfgaaEarly
import Derived.Laws.StructEq
namespace Go.Proofs.Ytmmjjfjbhogfgaa
open Go.RowKit
attribute [local go_sem] Leg.val run_store_fn

set_option maxRecDepth 100000 in
theorem eql_leg (a b : Leg) (w : World) : (binOp .eql 38 a.val b.val).run Try.prog w = .ok (.bool (eqB a b)) w := by
  have u3 := Try.underlying3
  have a3 := Try.isAgg3
  have z3 := Try.sizeOf3
  have hS : Try.prog.underlying 38 = some (.struct (Try.prog.fieldsOf 38)) := by kernel_rfl
  have hp : Try.prog.stoodInHeld 38 = false := by kernel_rfl
  simp only [Leg.val]
  rw [run_eql_struct, show (10000 : Nat) = 9999 + 1 from rfl, run_equalIn_agg w 9999 38 _ _ hS hp]
  simp only [Program.fieldsOf, Try.underlying38]
  unfold eqB
  by_cases h1 : a.From = b.From
  · by_cases h2 : a.To = b.To
    · by_cases h3 : a.Dep = b.Dep
      · by_cases h4 : a.Arr = b.Arr
        · by_cases h5 : a.Line = b.Line
          · go_simp
          · go_simp
        · go_simp
      · go_simp
    · go_simp
  · go_simp
theorem prof1_calls (w : World) (b : Nat) (o l : Leg) (h : LegAt w b o) :
    Calls Try.prog 69 #[l.val, .pointer (some ⟨b, 0, none⟩)] w fun e w' => e = .returned (.bool (eqB l o)) ∧ Ext w w' := by
  obtain ⟨hb, h0, h1, h2, h3, h4⟩ := h
  have hrun : ∀ w, Sem.run Try.prog (binOp .eql 38 (.agg #[.int .i64 l.From, .int .i64 l.To, .int .i64 l.Dep, .int .i64 l.Arr, .int .i64 l.Line]) (.agg #[.int .i64 o.From, .int .i64 o.To, .int .i64 o.Dep, .int .i64 o.Arr, .int .i64 o.Line])) w = .ok (.bool (eqB l o)) w := fun w => eql_leg l o w
  go_enter Try.func69, Try.ntmps69
  go_wp2_with fail
  go_ret
  exact ⟨rfl, (Ext.refl w).alloc _⟩
theorem pred_prof1 (w : World) (b : Nat) (o : Leg) (h : LegAt w b o) :
    Pred w 69 #[.pointer (some ⟨b, 0, none⟩)] (fun _ => True) (fun l => eqB l o) :=
  ⟨by intro args w'; simp [go_sem], fun w' l hx _ => prof1_calls w' b o l (h.ext hx)⟩

theorem two_boxes (w : World) (l : Leg) : Ext w ((w.alloc l.box).alloc l.box) ∧ LegAt ((w.alloc l.box).alloc l.box) w.heap.size l ∧ LegAt ((w.alloc l.box).alloc l.box) (w.heap.size + 1) l :=
  ⟨(by repeat (first | exact Ext.refl _ | assumption | refine Ext.alloc ?_ _ | refine Ext.drewN ?_ _ | refine Ext.drew ?_)), (LegAt.boxed w l).ext ((Ext.refl _).alloc _), by have := LegAt.boxed (w.alloc l.box) l; simpa using this⟩
def ProfRes (w : World) (n : Int) (L : List Leg) (c src dst : Int) (e : Ending) (w' : World) : Prop :=
  ∃ v R er, e = .returned (.tuple #[v, .int .i64 er]) ∧ Own w' w.heap.size 2 v (trips R) ∧ ProfOf n L c src dst R er ∧ R.length ≤ 60 ∧ Ext w w'

set_option maxRecDepth 100000 in
set_option maxHeartbeats 4000000 in
theorem bigProfile_calls (w : World) (n : Int) (ao : Option Addr) (cap : Nat) (L : List Leg) (c src dst : Int) (hL : LegsIn w ao L) (hlen : L.length ≤ 10000000) :
    Calls Try.prog 36 #[.int .i64 n, .slice ao L.length cap, .int .i64 c, .int .i64 src, .int .i64 dst] w (ProfRes w n L c src dst) := by
  obtain ⟨i0, hi, hz0, hz1, hz2⟩ := info_parts info_stop
  go_enter Try.func36, Try.ntmps36
  go_wp2_with fail
  refine (of_calls w n ao cap L c src dst none 0 [] hL hlen (fun k hk => by simp at hk) (by simp)).mono ?_
  rintro e w5 ⟨hx5, ⟨hg, rfl⟩ | ⟨hg, tb, rfl, htb, hT⟩⟩
  · have hne : (goodE n L c src dst [] != 0) = true := by simpa using hg
    have HG := Lib.hid hg
    clear hg
    go_wp2_with fail
    go_ret2
    exact ⟨_, [], _, rfl, Own.nil _ _ _, .inl ⟨HG.out, rfl, rfl⟩, by simp, hx5⟩
  · have HG := Lib.hid hg
    have hgood := good_iff.1 hg
    have hlen2 := hgood.len
    have hch := hgood.change
    have HF := Lib.hid hgood.fine
    clear hg hgood
    cases hsd : (src == dst) with
    | true =>
      have hsd' : src = dst := by simpa using hsd
      have HS := Lib.hid hsd'
      clear hsd'
      go_wp2_with fail
      go_ret2
      exact ⟨_, [], _, rfl, Own.nil _ _ _, .inr (.inl ⟨HG.out, HS.out, rfl, rfl⟩), by simp, hx5⟩
    | false =>
      have hsd' : src ≠ dst := by simpa using hsd
      have HS := Lib.hid hsd'
      clear hsd'
      go_wp2_with fail
      go_loopw [36, 14] (fun i pv wr => ∃ (k : Nat) (outv : Value) (P : Stops), k ≤ L.length ∧ i = .int .i64 k ∧ outv = pv ∧ Ext w5 wr ∧ Own wr w5.heap.size 2 outv (trips P) ∧ Hid (Gath c L src dst k P)) (fun i _ _ => L.length - (intOf i).toNat)
      case atStart => exact ⟨0, _, [], by omega, rfl, rfl, Ext.refl _, Own.nil _ _ _, Lib.hid (Gath.start _ _ _ _)⟩
      case round =>
        obtain ⟨k, outv, P, hk, rfl, rfl, hx, ho, HP⟩ := hrel
        by_cases hlt : k < L.length
        · obtain ⟨lb, lf, hao, hlb, h0, h1, h2, h3, h4⟩ := hL.ext (hx5.trans hx) k hlt
          subst hao
          cases hfr : ((leg L k).From == src) with
          | false =>
            have HN := Lib.hid (HP.out.skip (fun h => by simp [h] at hfr))
            go_wp2_with fail
            exact ⟨⟨k + 1, _, P, by omega, rfl, rfl, hx.alloc _, ho.ext ((Ext.refl _).alloc _), HN⟩, by simp only [intOf]; omega⟩
          | true =>
            have hfr' : (leg L k).From = src := by simpa using hfr
            have HFR := Lib.hid hfr'
            clear hfr'
            have hPl := HP.out.len
            have hsz := hx5.size
            have hsz2 := hx.size
            go_wp2_with fail
            obtain ⟨hx6, hb1, hb2⟩ := two_boxes wr (leg L k)
            simp only [Leg.box] at hx6 hb1 hb2
            generalize ((wr.alloc (Obj.cells #[Value.int IntKind.i64 (leg L k).From, Value.int IntKind.i64 (leg L k).To, Value.int IntKind.i64 (leg L k).Dep, Value.int IntKind.i64 (leg L k).Arr, Value.int IntKind.i64 (leg L k).Line] 38)).alloc (Obj.cells #[Value.int IntKind.i64 (leg L k).From, Value.int IntKind.i64 (leg L k).To, Value.int IntKind.i64 (leg L k).Dep, Value.int IntKind.i64 (leg L k).Arr, Value.int IntKind.i64 (leg L k).Line] 38)) = w6 at *
            have hxw6 := hx.trans hx6
            refine (arrival_calls w6 tb n _ cap L c _ _ _ _ dst (hT.ext hxw6) (hL.ext (hx5.trans hxw6)) (by omega) (pred_prof1 w6 _ (leg L k) hb2) (fun _ _ => trivial) (by omega) HF.out).mono ?_
            rintro e w7 ⟨a, rfl, hA, hx7⟩
            obtain ⟨hbl, -, -, hbc, -, -⟩ := hb1.ext hx7
            have hab := hA.bound
            have HA := Lib.hid hA
            clear hA hb1 hb2
            have hxw7 := hxw6.trans hx7
            have ho7 := ho.ext (hx6.trans hx7)
            by_cases ha : a = -1
            · subst ha
              have HN := Lib.hid (HP.out.skip (fun _ => HA.out))
              go_wp2_with fail
              exact ⟨⟨k + 1, _, P, by omega, rfl, rfl, hxw7, ho7, HN⟩, by simp only [intOf]; omega⟩
            · have ha0 : 0 ≤ a := by omega
              have hd : decide (0 ≤ a) = true := by simp; omega
              have HN := Lib.hid (HP.out.add hlt HFR.out ha0 HA.out)
              have hsz7 := hxw7.size
              go_wp2_with (at_builtin; refine wpList_append_Own _ rfl _ _ 49 rfl 54 i0 (.agg #[.int .i64 0, .int .i64 0]) 2 16 Try.underlying49 hi hz0 hz1 hz2 rfl (by omega) w5.heap.size _ _ rfl (Own.ext ho7 ((Ext.refl _).alloc _)) (by simp; omega) _ 1 1 [.int .i64 (leg L k).Dep, .int .i64 a] rfl rfl (two_cell _ _ _ _ _ rfl) (by simp [Value.oneCell']) (by simp [trips_length]; unfold maxLen; omega) (by simp [trips_length]; omega) ?_; intro v' w9 ho9 hg9 hb9)
              rw [trips_snoc] at ho9
              have hx9 : Ext w5 w9 := (hxw7.alloc _).onto hg9 (fun q hq => by have := (ho7.lt q hq).1; omega)
              exact ⟨⟨k + 1, _, _, by omega, rfl, rfl, hx9, ho9, HN⟩, by simp only [intOf]; omega⟩
        · obtain rfl : k = L.length := by omega
          have hPl := HP.out.len
          have hpts := HP.out.pts HF.out
          have hbd := hpts.bd (by omega) HF.out
          have HPT := Lib.hid hpts
          have HBD : Hid (∀ s ∈ P, Bd s) := Lib.hid (fun s hs => by have := hbd s hs; unfold Bd; omega)
          clear hbd hpts
          go_wp2_with (go_at_call 70; refine (bestStops_calls w5 _ outv P hx ho HBD.out (by omega)).mono ?_; rintro e w6 ⟨v, R, rfl, ho6, hF, hRl, hx6⟩)
          go_ret2
          exact ⟨v, R, 0, rfl, ho6.rebase hx5.size, .inr (.inr ⟨HG.out, HS.out, rfl, HPT.out.prof (by omega) HF.out hF⟩), by omega, hx5.trans hx6⟩
end Go.Proofs.Ytmmjjfjbhogfgaa
