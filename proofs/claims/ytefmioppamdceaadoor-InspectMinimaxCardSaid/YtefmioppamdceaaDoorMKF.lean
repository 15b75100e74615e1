/- Inspect: alive. -/
import Derived.Test.YtefmioppamdceaaDoorMKD
import Derived.Test.YtefmioppamdceaaDoorMKE
import Derived.Laws.StructEq
import Derived.Test.YtefmioppamdceaaDoorMKit
import Derived.Test.YtefmioppamdceaaDoorRows
import Derived.ProofKit
import Derived.Deep.Slices
import Derived.Deep.Fields
import Derived.Below
import Derived.Carry
import Derived.Test.YtefmioppamdceaaDoorMJD
import Derived.LaidMore
import Derived.OpenShut
import Derived.Stop.Joined
namespace Go.Proofs.YtefmioppamdceaaDoor
open Go.RowKit Go.Shelf

theorem eq_ratio (x y : Int) (w : World) : (binOp .eql 23 (.agg #[.int .i64 x, .int .i64 y]) (.agg #[.int .i64 x, .int .i64 y])).run Tryd.prog w = .ok (.bool true) w := by
  have u3 := Tryd.underlying3
  have a3 := Tryd.isAgg3
  have z3 := Tryd.sizeOf3
  have hS : Tryd.prog.underlying 23 = some (.struct (Tryd.prog.fieldsOf 23)) := by kernel_rfl
  have hp : Tryd.prog.stoodInHeld 23 = false := by kernel_rfl
  rw [run_eql_struct, show (10000 : Nat) = 9999 + 1 from rfl, run_equalIn_agg w 9999 23 _ _ hS hp]
  simp only [Program.fieldsOf, Tryd.underlying23]
  go_simp
theorem wsBy_perm {ws od : List Int} (h : Order ws od) : (wsBy ws od).Perm ws := by
  refine (h.perm.map _).trans (List.Perm.of_eq ?_)
  refine List.ext_getElem (by simp [nums]) (fun k a b => ?_)
  simp [nums, ith, b]
theorem wsBy_sorted {ws od : List Int} (h : Order ws od) : (wsBy ws od).Pairwise fun a b => b ≤ a := by
  rw [List.pairwise_iff_getElem]
  intro i j hi hj hij
  rw [wsBy_length h] at hi hj
  have e : ∀ k (hk : k < ws.length), (wsBy ws od)[k]'(by rw [wsBy_length h]; exact hk) = ith ws (ith od k).toNat := fun k hk => by
    have := wsBy_at h hk
    rw [List.getD_eq_getElem?_getD, List.getElem?_eq_getElem (by rw [wsBy_length h]; exact hk)] at this
    exact this
  rw [e i hi, e j hj]
  exact h.fall i j hij hj
/-- The falling list of worths is the only one. -/
theorem wsBy_uniq {ws od L : List Int} (h : Order ws od) (hp : L.Perm ws) (hs : L.Pairwise fun a b => b ≤ a) : wsBy ws od = L :=
  List.Perm.eq_of_pairwise (le := fun a b => b ≤ a) (fun a b _ _ h1 h2 => by omega) (wsBy_sorted h) hs ((wsBy_perm h).trans hp.symm)
theorem box321 {od : List Int} (h : Order [3, 2, 1] od) : (boxOut [3, 2, 1] od 1).v.num = 6 ∧ ((boxOut [3, 2, 1] od 1).v.den : Int) = 5 := by
  have e := wsBy_uniq h (L := [3, 2, 1]) (List.Perm.refl _) (by simp)
  rw [boxOut, if_neg (by decide)]
  simp only [e]
  exact ⟨by decide +kernel, by decide +kernel⟩
def gameA : List (List Int) := [[0, -1], [-1, 1]]
theorem gameA_ok : IsG gameA 2 := (gameB_iff gameA).1 (by decide +kernel)
theorem gameA_sdl : Sdl 2 2 (entI gameA) (fun i => if i = 0 then 2 else 1) 3 (fun i => if i = 0 then 2 else 1) 3 (-1) 3 := by
  have c2 : ∀ i, i < 2 → i = 0 ∨ i = 1 := fun i h => by omega
  refine ⟨fun i _ => by split <;> omega, fun i _ => by split <;> omega, by decide, by decide, by decide, by decide, by decide, fun j hj => ?_, fun i hi => ?_⟩
  · rcases c2 j hj with rfl | rfl <;> decide
  · rcases c2 i hi with rfl | rfl <;> decide
theorem gameA_val {vn vd rd cd : Int} {r c : List Int} (h : Sol gameA 2 vn vd r rd c cd) : vn = -1 ∧ vd = 3 :=
  low_eq h.sdl.vp (by decide) h.vlow (by decide) (h.sdl.same gameA_sdl)
set_option maxRecDepth 100000 in
set_option maxHeartbeats 2000000 in
theorem alive_calls (w : World) (hG : Glob w) : Calls Tryd.prog 11 #[] w fun e w' => e = .returned (.bool true) ∧ Ext w w' := by
  obtain ⟨vn, vd, r, rd, c, cd, hsol, hsc⟩ := solve_sol gameA 2 gameA_ok
  obtain ⟨rfl, rfl⟩ := gameA_val hsol
  clear hsol
  have hd21 : dresV 2 1 = .tuple #[.agg #[.int .i64 1, .int .i64 3], .int .i64 0] := by
    have e : valR 2 1 = 1 / 3 := by rw [valR_eq 1 1]; decide +kernel
    have e2 : ratV (1 / 3 : Rat) = .agg #[.int .i64 1, .int .i64 3] := by
      have h1 : (1 / 3 : Rat).num = 1 := by decide +kernel
      have h2 : (1 / 3 : Rat).den = 3 := by decide +kernel
      rw [ratV, h1, h2]; rfl
    unfold dresV
    rw [if_pos (by unfold DayOk; omega), show (2 : Int).toNat = 2 from rfl, show (1 : Int).toNat = 1 from rfl, e, e2]
  have hdc := fun W (h : Glob W) => dresher_calls W 2 1 h (by omega) (by omega)
  rw [hd21] at hdc
  have q1 := eq_ratio (-1) 3
  have q2 := eq_ratio 1 3
  have q3 := eq_ratio 6 5
  have HGl := Lib.hid hG
  clear hd21 hG
  go_enter Tryd.func11, Tryd.ntmps11
  go_wp2_with fail
  obtain ⟨w1, hw1⟩ : ∃ w1, w1 = (((w.alloc (Obj.cells #[.int .i64 0, .int .i64 (-1)] 3)).alloc (Obj.cells #[.int .i64 (-1), .int .i64 1] 3)).alloc (Obj.cells #[.slice (some ⟨w.heap.size, 0, none⟩) 2 2, .slice (some ⟨w.heap.size + 1, 0, none⟩) 2 2] 30)) := ⟨_, rfl⟩
  have hx1 : Ext w w1 := by rw [hw1]; exact (by repeat (first | exact Ext.refl _ | assumption | refine Ext.alloc ?_ _ | refine Ext.drewN ?_ _ | refine Ext.drew ?_))
  have hga : GameIn w1 (some ⟨w.heap.size + 1 + 1, 0, none⟩) gameA := by
    intro k hk
    have hk2 : k = 0 ∨ k = 1 := by simp [gameA] at hk; omega
    have hl : w1.heap.size = w.heap.size + 3 := by rw [hw1]; simp
    rcases hk2 with rfl | rfl
    · refine ⟨_, 0, some ⟨w.heap.size, 0, none⟩, 2, rfl, by omega, by rw [hw1]; simp [go_sem, gameA, rowI], by decide, fun j hj => ⟨_, 0, rfl, by omega, ?_⟩⟩
      have hj2 : j = 0 ∨ j = 1 := by simp [gameA, rowI] at hj; omega
      rcases hj2 with rfl | rfl <;> (rw [hw1]; simp [go_sem, gameA, rowI, ith])
    · refine ⟨_, 0, some ⟨w.heap.size + 1, 0, none⟩, 2, rfl, by omega, by rw [hw1]; simp [go_sem, gameA, rowI], by decide, fun j hj => ⟨_, 0, rfl, by omega, ?_⟩⟩
      have hj2 : j = 0 ∨ j = 1 := by simp [gameA, rowI] at hj; omega
      rcases hj2 with rfl | rfl <;> (rw [hw1]; simp [go_sem, gameA, rowI, ith])
  rw [← hw1]
  clear hw1
  refine (hsc w1 _ 2 hga (by decide)).mono ?_
  rintro e w2 ⟨rv, cv, rfl, hr, hc, hx2⟩
  obtain ⟨ro, rn, rc, rfl, -⟩ := hr.shapeCap
  obtain ⟨co, cn, cc, rfl, -⟩ := hc.shapeCap
  have hx02 := hx1.trans hx2
  clear hr hc hx1 hx2 hga hsc
  go_wp2_with fail
  obtain ⟨w3, hw3⟩ : ∃ w3, w3 = w2.alloc (Obj.cells #[.int .i64 (-1), .int .i64 3, .slice ro rn rc, .int .i64 rd, .slice co cn cc, .int .i64 cd] 42) := ⟨_, rfl⟩
  obtain ⟨A, hA⟩ : ∃ A, A = w2.heap.size := ⟨_, rfl⟩
  have hx3 : Ext w2 w3 := by rw [hw3]; exact (by repeat (first | exact Ext.refl _ | assumption | refine Ext.alloc ?_ _ | refine Ext.drewN ?_ _ | refine Ext.drew ?_))
  have a0 : w3.cell? ⟨A, 0, none⟩ = some (.int .i64 (-1)) := by rw [hw3, hA]; simp [go_sem]
  have a1 : w3.cell? ⟨A, 1, none⟩ = some (.int .i64 3) := by rw [hw3, hA]; simp [go_sem]
  have hAl : A < w3.heap.size := by rw [hw3, hA]; simp
  rw [← hw3, ← hA]
  clear hw3 hA
  have hx03 := hx02.trans hx3
  refine (hdc w3 (HGl.out.ext hx03)).mono ?_
  rintro e w4 ⟨rfl, hx4⟩
  have a0 := (hx4.cell (p := ⟨A, 0, none⟩) hAl).trans a0
  have a1 := (hx4.cell (p := ⟨A, 1, none⟩) hAl).trans a1
  have hAl := Nat.lt_of_lt_of_le hAl hx4.size
  have hx04 := hx03.trans hx4
  clear hdc hx02 hx3 hx03 hx4
  go_wp2_with fail
  obtain ⟨w5, hw5⟩ : ∃ w5, w5 = ((w4.alloc (Obj.cells #[.int .i64 1, .int .i64 3] 23)).alloc (Obj.cells #[.int .i64 3, .int .i64 2, .int .i64 1] 3)) := ⟨_, rfl⟩
  obtain ⟨B, hB⟩ : ∃ B, B = w4.heap.size := ⟨_, rfl⟩
  have hx5 : Ext w4 w5 := by rw [hw5]; exact (by repeat (first | exact Ext.refl _ | assumption | refine Ext.alloc ?_ _ | refine Ext.drewN ?_ _ | refine Ext.drew ?_))
  have b0 : w5.cell? ⟨B, 0, none⟩ = some (.int .i64 1) := by rw [hw5, hB]; simp [go_sem]
  have b1 : w5.cell? ⟨B, 1, none⟩ = some (.int .i64 3) := by rw [hw5, hB]; simp [go_sem]
  have hBl : B + 1 < w5.heap.size := by rw [hw5, hB]; simp
  have hI : IntsIn w5 (some ⟨B + 1, 0, none⟩) [3, 2, 1] := fun j hj => ⟨_, 0, rfl, hBl, by
    have hj3 : j = 0 ∨ j = 1 ∨ j = 2 := by simp at hj; omega
    rcases hj3 with rfl | rfl | rfl <;> (rw [hw5, hB]; simp [go_sem, ith])⟩
  have a0 := (hx5.cell (p := ⟨A, 0, none⟩) hAl).trans a0
  have a1 := (hx5.cell (p := ⟨A, 1, none⟩) hAl).trans a1
  have hAl := Nat.lt_of_lt_of_le hAl hx5.size
  have hx05 := hx04.trans hx5
  rw [← hw5, ← hB]
  clear hw5 hB hx5 hx04
  refine (boxes_good w5 (some ⟨B + 1, 0, none⟩) 3 [3, 2, 1] 1 (HGl.out.ext hx05) hI (by decide +kernel)).mono ?_
  rintro e w6 ⟨od, hod, rv, cv, rfl, hr, hc, hx6⟩
  rw [(box321 hod).1, (box321 hod).2]
  obtain ⟨ro2, rn2, rc2, rfl, -⟩ := hr.shapeCap
  obtain ⟨co2, cn2, cc2, rfl, -⟩ := hc.shapeCap
  have a0 := (hx6.cell (p := ⟨A, 0, none⟩) hAl).trans a0
  have a1 := (hx6.cell (p := ⟨A, 1, none⟩) hAl).trans a1
  have b0 := (hx6.cell (p := ⟨B, 0, none⟩) (by show B < _; omega)).trans b0
  have b1 := (hx6.cell (p := ⟨B, 1, none⟩) (by show B < _; omega)).trans b1
  have hAl := Nat.lt_of_lt_of_le hAl hx6.size
  have hBl : B < w6.heap.size := by have := hx6.size; omega
  have hx06 := hx05.trans hx6
  generalize (boxOut [3, 2, 1] od 1).rd = rd2
  generalize (boxOut [3, 2, 1] od 1).cd = cd2
  clear hod hr hc hI hx05 hx6
  go_wp2_with fail
  go_ret
  exact ⟨rfl, hx06.alloc _⟩
end Go.Proofs.YtefmioppamdceaaDoor

/- Arguments of a law laid open (integers, lists of integers, Parts), and the frame of a law: arguments that are read again, the result true. -/
--@optional
namespace Go.Proofs.YtefmioppamdceaaDoor
open Go.ChangeShapes Go.WideShapes Go.ChangeAt Go.RowKit Go.Deep

theorem own_any : ownKnob Tryd.prog.godebug = none := by kernel_rfl
theorem laidOut_any : laidOutB Tryd.prog = true := by kernel_rfl

/-- The integer is one of int. -/
def I64 (x : Int) : Prop := -9223372036854775808 ≤ x ∧ x ≤ 9223372036854775807
theorem i64_of {x : Int} (h : (Lit.int .i64 x).wf = true) : I64 x := by
  simp only [Lit.wf, Bool.and_eq_true, decide_eq_true_eq] at h
  have h1 : IntKind.i64.min = -9223372036854775808 := by decide
  have h2 : IntKind.i64.max = 9223372036854775807 := by decide
  unfold I64
  omega
theorem cell_plain {w : World} {a : Addr} {v : Value} (h : w.cell? a = some v) : ∃ b off, a = ⟨b, off, none⟩ ∧ b < w.heap.size := by
  obtain ⟨b, off, sp⟩ := a
  unfold World.cell? at h
  split at h
  · rename_i c _ _ hh
    cases sp with
    | none => exact ⟨b, off, rfl, (Array.getElem?_eq_some_iff.1 hh).1⟩
    | some x => simp at h
  · simp at h
/-- What a law of this package answers: true, and nothing that was there has changed. -/
def TrueRes (w : World) (e : Ending) (w' : World) : Prop := e = .returned (.bool true) ∧ Ext w w'
section
variable {H : Type} {enc : TypeId × Value → H}
theorem trodAll_below {W W' : World} (hb : Below W.heap.size W W') : ∀ (ts : List TypeId) (vs : List Value) (ds : List (DataW H)) (ps : List MemPlace), (∀ t ∈ ts, Tryd.prog.readableRec t = true ∧ t < Tryd.prog.types.size) → (∀ x ∈ ps, x.block < W.heap.size) →
    DataW.TrodAll enc Tryd.prog W 0 (fun _ => true) true ts vs ds ps → DataW.TrodAll enc Tryd.prog W' 0 (fun b => decide (b < W.heap.size)) true ts vs ds ps := by
  intro ts
  induction ts with
  | nil =>
    intro vs ds ps _ _ h
    cases vs with
    | nil => cases ds with
      | nil => exact h
      | cons d ds => exact (h : False).elim
    | cons v vs => cases ds with
      | nil => exact (h : False).elim
      | cons d ds => exact (h : False).elim
  | cons t ts ih =>
    intro vs ds ps hr hlt h
    cases vs with
    | nil => cases ds with
      | nil => exact (h : False).elim
      | cons d ds => exact (h : False).elim
    | cons v vs => cases ds with
      | nil => exact (h : False).elim
      | cons d ds =>
        obtain ⟨p, q, h1, h2, rfl⟩ := h
        have ht := hr t (by simp)
        exact ⟨p, q, Below.trod laidOut_any ht.1 ht.2 h1 hb (fun x hx => hlt x (by simp [hx])), ih vs ds q (fun t ht => hr t (by simp [ht])) (fun x hx => hlt x (by simp [hx])) h2, rfl⟩
theorem post_true {f : Func} {s : ChangeSpec} {W W' : World} {args : Array Value} {ds gs : List (DataW H)} {before : List MemPlace} (hW : DataW.Whole enc Tryd.prog f.params.toList s.vars false W args.toList ds gs before) (hv : s.vars = []) (hres : f.resultTypes = #[4])
    (hfn : s.fn H (ds ++ []) = { results := [.lit (.bool true)], args := ds }) (hr : ∀ t ∈ f.params.toList, Tryd.prog.readableRec t = true ∧ t < Tryd.prog.types.size) (hb : Below W.heap.size W W') :
    s.post enc Tryd.prog f false true false false W args (.bool true) W' := by
  have hW' := hW
  obtain ⟨p, q, hA, hV, rfl, hfz, hnd⟩ := hW
  rw [hv] at hV
  obtain ⟨rfl, rfl⟩ := trodVars_none hV
  refine ⟨ds, [], p ++ [], [], p ++ [], [], hW', ?_, ?_, ?_, World.keptBut_mono (fun x hx => ⟨hx, .inr (.inl hx)⟩) (hb.frame _), fun h => by cases h⟩
  · rw [hfn, hres]
    exact trodAll_mk1 (shut_bool Tryd.underlying4 true)
  · rw [hfn]
    have hlt : ∀ x ∈ p ++ [], x.block < W.heap.size := fun x hx => by simpa using hW'.lt x hx
    have := trodAll_below hb _ _ _ _ hr (fun x hx => hlt x (by simpa using hx)) hA
    simpa using this
  · rw [hfn, hv]
    exact rfl
end
theorem twoCellsT {H : Type} {enc : TypeId × Value → H} {w : World} {base : Nat} {spare : Nat → Bool} {held : Bool} {P : Program} {t : TypeId} {fuel : Nat} {cs : List Value} {x : DataW H × List MemPlace} {f0 f1 : Field} (hs : P.underlying t = some (.struct #[f0, f1])) (hone : oneCellFields P #[f0, f1] = true) (hC : P.cellsOf t = 2)
    (h : DataW.trod enc P w base spare held fuel t cs = some x) :
    ∃ c0 c1 y0 y1 n, cs = [c0, c1] ∧ DataW.trod enc P w base spare held n f0.type [c0] = some y0 ∧ DataW.trod enc P w base spare held n f1.type [c1] = some y1 := by
  obtain ⟨xs, n, _, _, hcl, hlen, hg⟩ := DataW.trod_struct hs h
  have h5 : cs.length = 2 := hcl.trans hC
  match cs, h5 with
  | [c0, c1], _ =>
    have hxl : xs.length = 2 := hlen
    match xs, hxl with
    | [y0, y1], _ =>
      obtain ⟨o0, k0⟩ := hone_of hone 0 f0 rfl
      obtain ⟨o1, k1⟩ := hone_of hone 1 f1 rfl
      exact ⟨c0, c1, y0, y1, n, rfl, by simpa [o0, k0] using hg 0 f0 rfl, by simpa [o1, k1] using hg 1 f1 rfl⟩
end Go.Proofs.YtefmioppamdceaaDoor

/- Inspect: what the condition on the listed variables gives: the three package fractions. -/
namespace Go.Proofs.YtefmioppamdceaaDoor
open Go.ChangeShapes Go.WideShapes Go.ChangeAt Go.RowKit Go.Deep

def laidI3 {H : Type} : List (String × DataW H) := [("cocket/inspect.none", Rows.laid_cocket_inspect_none), ("cocket/inspect.one", Rows.laid_cocket_inspect_one), ("cocket/inspect.two", Rows.laid_cocket_inspect_two)]
theorem gNone : Tryd.prog.globalNamed "cocket/inspect.none" = some 0 := by kernel_rfl
theorem gOne : Tryd.prog.globalNamed "cocket/inspect.one" = some 1 := by kernel_rfl
theorem gTwo : Tryd.prog.globalNamed "cocket/inspect.two" = some 2 := by kernel_rfl
theorem tNone : (Tryd.prog.globals[0]?).map (·.type) = some 23 := by kernel_rfl
theorem tOne : (Tryd.prog.globals[1]?).map (·.type) = some 23 := by kernel_rfl
theorem tTwo : (Tryd.prog.globals[2]?).map (·.type) = some 23 := by kernel_rfl
/-- The door's own heap meets the condition. -/
theorem door_met (os : Os) (args : Array Value) : laidMetH Tryd.prog laidI3 ((World.doorLaid Tryd.prog 400 os).forCall (fun _ _ => 0) ⟨#[], args, []⟩).memory :=
  laidMetH_of_parts3 (fuel := 8) (laidMet_of_run' 8 (by kernel_rfl) (by kernel_rfl)) (by kernel_rfl) (by kernel_rfl)
theorem two_cells2 {H : Type} {enc : TypeId × Value → H} {w : World} {base : Nat} {spare : Nat → Bool} {held : Bool} {P : Program} {t : TypeId} {fuel : Nat} {cs : List Value} {x : DataW H × List MemPlace} {f0 f1 : Field} (hs : P.underlying t = some (.struct #[f0, f1])) (hone : oneCellFields P #[f0, f1] = true) (hC : P.cellsOf t = 2)
    (h : DataW.trod enc P w base spare held fuel t cs = some x) :
    ∃ c0 c1 y0 y1 n, cs = [c0, c1] ∧ DataW.trod enc P w base spare held n f0.type [c0] = some y0 ∧ DataW.trod enc P w base spare held n f1.type [c1] = some y1 ∧ x.1 = .agg [y0.1, y1.1] := by
  obtain ⟨xs, n, _, hx, hcl, hlen, hg⟩ := DataW.trod_struct hs h
  have h5 : cs.length = 2 := hcl.trans hC
  match cs, h5 with
  | [c0, c1], _ =>
    have hxl : xs.length = 2 := hlen
    match xs, hxl with
    | [y0, y1], _ =>
      obtain ⟨o0, k0⟩ := hone_of hone 0 f0 rfl
      obtain ⟨o1, k1⟩ := hone_of hone 1 f1 rfl
      exact ⟨c0, c1, y0, y1, n, rfl, by simpa [o0, k0] using hg 0 f0 rfl, by simpa [o1, k1] using hg 1 f1 rfl, by rw [hx]; rfl⟩
theorem ratio_cells {H : Type} {enc : TypeId × Value → H} {W : World} {n : Nat} {cs : List Value} {x y : Int} {ps : List MemPlace} {held : Bool} {sp : Nat → Bool} {base : Nat}
    (h : DataW.trod enc Tryd.prog W base sp held n 23 cs = some (.agg [.lit (.int .i64 x), .lit (.int .i64 y)], ps)) : cs = [.int .i64 x, .int .i64 y] := by
  obtain ⟨c0, c1, y0, y1, n, hc, g0, g1, hx⟩ := two_cells2 Tryd.underlying23 (by kernel_rfl) (by kernel_rfl) h
  obtain ⟨k0, a0, b0, -⟩ := DataW.trod_int Tryd.underlying3 g0
  obtain ⟨k1, a1, b1, -⟩ := DataW.trod_int Tryd.underlying3 g1
  rw [b0, b1] at hx
  simp only [DataW.agg.injEq, List.cons.injEq, DataW.lit.injEq, Lit.int.injEq, true_and, and_true] at hx
  simp only [List.cons.injEq, and_true] at a0 a1
  rw [hc, a0, a1, hx.1, hx.2]
theorem glob_of_laid {W : World} (h : laidMetH Tryd.prog laidI3 W) : Glob W := by
  rw [MakeChecks.laidMetH_plain _ _ _ (by kernel_rfl)] at h
  obtain ⟨ps, ⟨g0, t0, cs0, f0, p0, q0, hg0, ht0, hv0, hd0, ⟨g1, t1, cs1, f1, p1, q1, hg1, ht1, hv1, hd1, ⟨g2, t2, cs2, f2, p2, q2, hg2, ht2, hv2, hd2, _, _⟩, _⟩, _⟩, _, _⟩ := h
  obtain rfl := Option.some.inj (gNone.symm.trans hg0)
  obtain rfl := Option.some.inj (gOne.symm.trans hg1)
  obtain rfl := Option.some.inj (gTwo.symm.trans hg2)
  obtain rfl := Option.some.inj (tNone.symm.trans ht0)
  obtain rfl := Option.some.inj (tOne.symm.trans ht1)
  obtain rfl := Option.some.inj (tTwo.symm.trans ht2)
  have e0 := ratio_cells hd0
  have e1 := ratio_cells hd1
  have e2 := ratio_cells hd2
  have k0 := fun k => World.var?_cell hg0 hv0 k
  have k1 := fun k => World.var?_cell hg1 hv1 k
  have k2 := fun k => World.var?_cell hg2 hv2 k
  have a : ∀ {W : World} {g k : Nat} {cs : Array Value} {x y : Int} (_ : ∀ k, W.cell? ⟨g, k, none⟩ = cs[k]?) (_ : cs.toList = [.int .i64 x, .int .i64 y]), W.cell? ⟨g, 0, none⟩ = some (.int .i64 x) ∧ W.cell? ⟨g, 1, none⟩ = some (.int .i64 y) := by
    intro W g k cs x y h1 h2
    obtain ⟨l⟩ := cs
    simp only at h2
    subst h2
    exact ⟨h1 0, h1 1⟩
  obtain ⟨u0, u1⟩ := a (k := 0) k0 e0
  obtain ⟨v0, v1⟩ := a (k := 0) k1 e1
  obtain ⟨x0, x1⟩ := a (k := 0) k2 e2
  obtain ⟨b, off, hb, hlt⟩ := cell_plain x0
  simp only [Addr.mk.injEq] at hb
  exact ⟨u0, u1, v0, v1, x0, x1, by omega⟩
end Go.Proofs.YtefmioppamdceaaDoor
