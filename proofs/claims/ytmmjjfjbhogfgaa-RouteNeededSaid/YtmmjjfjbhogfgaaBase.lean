/- Words that all texts of this seat share: legs as data, lists that lie in memory, how the world may grow. -/
import Derived.Test.YtmmjjfjbhogfgaaProg
import Derived.WalkKit
import Derived.WalkSpells
import Derived.WalkLawsBesides
import Derived.BigQuiet
import Derived.Deep.RegionHeld3
import Derived.Deep.LoopGhost
import Derived.Lib.Hide
import Derived.KernelRfl
namespace Go.Proofs.Ytmmjjfjbhogfgaa
open Go.RowKit

structure Leg where
  From : Int
  To : Int
  Dep : Int
  Arr : Int
  Line : Int

def Leg.val (l : Leg) : Value := .agg #[.int .i64 l.From, .int .i64 l.To, .int .i64 l.Dep, .int .i64 l.Arr, .int .i64 l.Line]

def leg (L : List Leg) (k : Nat) : Leg := L.getD k ⟨0, 0, 0, 0, 0⟩

/-- Of the world W nothing has changed. -/
def Ext (w w' : World) : Prop := Below w.heap.size w w'

theorem Ext.refl (w : World) : Ext w w := Below.refl _ _
theorem Ext.trans {a b c : World} (h : Ext a b) (k : Ext b c) : Ext a c := Below.trans h (Below.mono k h.size)
theorem Ext.below {a b : World} (h : Ext a b) {B : Nat} (hB : B ≤ a.heap.size) : Below B a b := Below.mono h hB
theorem Ext.size {a b : World} (h : Ext a b) : a.heap.size ≤ b.heap.size := Below.size h
theorem Ext.cell {a b : World} (h : Ext a b) {p : Addr} (hp : p.block < a.heap.size) : b.cell? p = a.cell? p := Below.cell h hp
theorem Ext.frozen {a b : World} (h : Ext a b) {p : Addr} (hp : p.block < a.heap.size) : b.frozen? p = a.frozen? p := Below.frozen h hp
theorem Ext.alloc {a b : World} (h : Ext a b) (o : Obj) : Ext a (b.alloc o) := Below.alloc h h.size _
theorem Ext.drew {a b : World} (h : Ext a b) : Ext a b.drew := Below.drew h

theorem Ext.drewN {a b : World} (h : Ext a b) (n : Nat) : Ext a (b.drewN n) := ⟨h.os, h.tape, h.output, h.size, h.block⟩

theorem run_store_fn (P : Program) (w : World) (a : Addr) (m : Mode) (f : Fn) (x y : Array Value) : (store a (.func f x y) m).run P w = stored P w a (.func f x y) m := run_store P w a _ m rfl

theorem ret_bool {a b : Bool} (h : a = b) : Ending.returned (.bool a) = .returned (.bool b) := by rw [h]
theorem ret_int {a b : Int} (h : a = b) : Ending.returned (.int .i64 a) = .returned (.int .i64 b) := by rw [h]

/-- A list of legs lies from the address on. -/
def LegsIn (w : World) (ao : Option Addr) (L : List Leg) : Prop :=
  ∀ k, k < L.length → ∃ b off, ao = some ⟨b, off, none⟩ ∧ b < w.heap.size ∧
    w.cell? ⟨b, off + k * 5, none⟩ = some (.int .i64 (leg L k).From) ∧
    w.cell? ⟨b, off + k * 5 + 1, none⟩ = some (.int .i64 (leg L k).To) ∧
    w.cell? ⟨b, off + k * 5 + 2, none⟩ = some (.int .i64 (leg L k).Dep) ∧
    w.cell? ⟨b, off + k * 5 + 3, none⟩ = some (.int .i64 (leg L k).Arr) ∧
    w.cell? ⟨b, off + k * 5 + 4, none⟩ = some (.int .i64 (leg L k).Line)

theorem LegsIn.ext {w w' : World} {ao : Option Addr} {L : List Leg} (h : LegsIn w ao L) (he : Ext w w') : LegsIn w' ao L := by
  intro k hk
  obtain ⟨b, off, ha, hb, h0, h1, h2, h3, h4⟩ := h k hk
  have hs := he.size
  exact ⟨b, off, ha, by omega, (he.cell hb).trans h0, (he.cell hb).trans h1, (he.cell hb).trans h2, (he.cell hb).trans h3, (he.cell hb).trans h4⟩

/-- One leg lies at a block's beginning. -/
structure LegAt (w : World) (b : Nat) (l : Leg) : Prop where
  lt : b < w.heap.size
  c0 : w.cell? ⟨b, 0, none⟩ = some (.int .i64 l.From)
  c1 : w.cell? ⟨b, 1, none⟩ = some (.int .i64 l.To)
  c2 : w.cell? ⟨b, 2, none⟩ = some (.int .i64 l.Dep)
  c3 : w.cell? ⟨b, 3, none⟩ = some (.int .i64 l.Arr)
  c4 : w.cell? ⟨b, 4, none⟩ = some (.int .i64 l.Line)
theorem LegAt.ext {w w' : World} {b : Nat} {l : Leg} (h : LegAt w b l) (he : Ext w w') : LegAt w' b l := by
  have hs := he.size
  have := h.lt
  exact ⟨by omega, (he.cell h.lt).trans h.c0, (he.cell h.lt).trans h.c1, (he.cell h.lt).trans h.c2, (he.cell h.lt).trans h.c3, (he.cell h.lt).trans h.c4⟩

/-- The block that a leg's box is. -/
def Leg.box (l : Leg) : Obj := .cells #[.int .i64 l.From, .int .i64 l.To, .int .i64 l.Dep, .int .i64 l.Arr, .int .i64 l.Line] 38
theorem LegAt.boxed (w : World) (l : Leg) : LegAt (w.alloc l.box) w.heap.size l :=
  ⟨by simp, by simp [go_sem, Leg.box], by simp [go_sem, Leg.box], by simp [go_sem, Leg.box], by simp [go_sem, Leg.box], by simp [go_sem, Leg.box]⟩

/-- A function value that answers for legs as F does, in every world that goes on from w. -/
structure Pred (w : World) (f : FuncId) (caps : Array Value) (G : Leg → Prop) (F : Leg → Bool) : Prop where
  enter : ∀ args w', Sem.run Try.prog (callFunc f args) w' = .ok (.enter f args) w'
  call : ∀ w' l, Ext w w' → G l → Calls Try.prog f (#[l.val] ++ caps) w' fun e w'' => e = .returned (.bool (F l)) ∧ Ext w' w''

theorem Pred.ext {w w' : World} {f : FuncId} {caps : Array Value} {G : Leg → Prop} {F : Leg → Bool} (h : Pred w f caps G F) (he : Ext w w') : Pred w' f caps G F :=
  ⟨h.enter, fun w'' l hx hg => h.call w'' l (he.trans hx) hg⟩

/-- A world that goes on from w. -/
structure After (w : World) where
  at_ : World
  ext : Ext w at_
theorem After.cell {w : World} {p : Addr} {v : Option Value} (h : w.cell? p = v) (hb : p.block < w.heap.size) : ∀ s : After w, s.at_.cell? p = v := fun s => (s.ext.cell hb).trans h
def AfterC (w : World) : World → Prop := fun w' => ∃ s : After w, w' = s.at_
/-- A region that draws its order, whose operations only read and whose calls leave the world as it was, but grown: one walk. -/
theorem wp_region_after {P : Program} {id : Nat} {Q : Exit → Act → World → Prop} {a : Act} {w : World} {l : List Oper} (hm : P.follows .mixedOrders = true) (hB : Region.lexB .any l.toArray = true)
    (h : Nonempty (After w) → wpQuiet P l.toArray (fun w' => ∃ s : After w, w' = s.at_) (fun a' => ∀ w', Ext w w' → Q .normal a' w') l a) : (Code.region id l.toArray true).wp P Q a w := by
  refine wp_region_quiet (C := fun w' => ∃ s : After w, w' = s.at_) hm hB ⟨⟨w.drew, (Ext.refl w).drew⟩, rfl⟩ ?_
  have e : (fun a' => ∀ w', (∃ s : After w, w' = s.at_) → Q .normal a' w') = (fun a' => ∀ w', Ext w w' → Q .normal a' w') := by
    funext a'
    refine propext ⟨fun h w' hx => h w' ⟨⟨w', hx⟩, rfl⟩, ?_⟩
    rintro h w' ⟨s, rfl⟩
    exact h _ s.ext
  rw [e]
  exact h ⟨⟨w, Ext.refl w⟩⟩
theorem wp_region_boxed {P : Program} {id : Nat} {Q : Exit → Act → World → Prop} {a : Act} {wr : World} {b : Leg} {l : List Oper} (hm : P.follows .mixedOrders = true) (hB : Region.lexB .any l.toArray = true)
    (h : ∀ w, Nonempty (After w) → Ext wr w → LegAt w wr.heap.size b → wpQuiet P l.toArray (fun w' => ∃ s : After w, w' = s.at_) (fun a' => ∀ w', Ext w w' → Q .normal a' w') l a) : (Code.region id l.toArray true).wp P Q a (wr.alloc b.box) :=
  wp_region_after hm hB (fun hn => h _ hn ((Ext.refl _).alloc _) (LegAt.boxed _ _))
/-- A call in such a region. -/
theorem Calls.after {P : Program} {f : FuncId} {args : Array Value} {w : World} {s : After w} {v : Value} (h : Calls P f args s.at_ fun e w' => e = .returned v ∧ Ext s.at_ w') :
    Calls P f args s.at_ fun e w'' => e = .returned v ∧ ∃ s' : After w, w'' = s'.at_ :=
  h.mono fun _ w' ⟨he, hx⟩ => ⟨he, ⟨w', s.ext.trans hx⟩, rfl⟩
theorem LegAt.after {w : World} {b : Nat} {l : Leg} (h : LegAt w b l) : ∀ s : After w, s.at_.cell? ⟨b, 0, none⟩ = some (.int .i64 l.From) ∧ s.at_.cell? ⟨b, 1, none⟩ = some (.int .i64 l.To) ∧ s.at_.cell? ⟨b, 2, none⟩ = some (.int .i64 l.Dep) ∧
    s.at_.cell? ⟨b, 3, none⟩ = some (.int .i64 l.Arr) ∧ s.at_.cell? ⟨b, 4, none⟩ = some (.int .i64 l.Line) :=
  fun s => ⟨(s.ext.cell h.lt).trans h.c0, (s.ext.cell h.lt).trans h.c1, (s.ext.cell h.lt).trans h.c2, (s.ext.cell h.lt).trans h.c3, (s.ext.cell h.lt).trans h.c4⟩
theorem LegsIn.after {w : World} {b off : Nat} {L : List Leg} (h : LegsIn w (some ⟨b, off, none⟩) L) {k : Nat} (hk : k < L.length) : ∀ s : After w, s.at_.cell? ⟨b, off + k * 5, none⟩ = some (.int .i64 (leg L k).From) ∧ s.at_.cell? ⟨b, off + k * 5 + 1, none⟩ = some (.int .i64 (leg L k).To) ∧
    s.at_.cell? ⟨b, off + k * 5 + 2, none⟩ = some (.int .i64 (leg L k).Dep) ∧ s.at_.cell? ⟨b, off + k * 5 + 3, none⟩ = some (.int .i64 (leg L k).Arr) ∧ s.at_.cell? ⟨b, off + k * 5 + 4, none⟩ = some (.int .i64 (leg L k).Line) := by
  intro s
  obtain ⟨b', off', e, _, h0, h1, h2, h3, h4⟩ := h.ext s.ext k hk
  simp only [Option.some.injEq, Addr.mk.injEq, and_true] at e
  obtain ⟨rfl, rfl⟩ := e
  exact ⟨h0, h1, h2, h3, h4⟩

end Go.Proofs.Ytmmjjfjbhogfgaa
