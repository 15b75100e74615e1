/- The leaves of route: place, fine, follows, begins. -/
import Derived.Test.YtmmjjfjbhogfgaaBase
namespace Go.Proofs.Ytmmjjfjbhogfgaa
open Go.RowKit
attribute [local go_sem] Leg.val run_store_fn

def placeB (n p : Int) : Bool := decide (0 ≤ p ∧ p < n)
def fineB (n : Int) (l : Leg) : Bool :=
  decide (0 ≤ l.From ∧ l.From < n ∧ 0 ≤ l.To ∧ l.To < n ∧ l.From ≠ l.To ∧ 0 ≤ l.Dep ∧ l.Dep < l.Arr ∧ l.Arr ≤ 10000 ∧ 0 ≤ l.Line ∧ l.Line ≤ 20)
def Fine (n : Int) (l : Leg) : Prop :=
  0 ≤ l.From ∧ l.From < n ∧ 0 ≤ l.To ∧ l.To < n ∧ l.From ≠ l.To ∧ 0 ≤ l.Dep ∧ l.Dep < l.Arr ∧ l.Arr ≤ 10000 ∧ 0 ≤ l.Line ∧ l.Line ≤ 20
/-- Can b be taken behind a? -/
def folB (c : Int) (a b : Leg) : Bool :=
  decide (a.To = b.From) && (if a.Line = b.Line then decide (a.Arr ≤ b.Dep) else decide (a.Arr + c ≤ b.Dep))
def begB (src at_ : Int) (l : Leg) : Bool := decide (l.From = src ∧ at_ ≤ l.Dep)

theorem place_calls (w : World) (tb to_ : Nat) (n p : Int) (hn : w.cell? ⟨tb, to_, none⟩ = some (.int .i64 n)) :
    Calls Try.prog 81 #[.pointer (some ⟨tb, to_, none⟩), .int .i64 p] w fun e w' => e = .returned (.bool (placeB n p)) ∧ w = w' := by
  by_cases h0 : 0 ≤ p
  · by_cases h1 : p < n
    · go_enter Try.func81, Try.ntmps81
      go_wp2_with fail
      go_ret
      exact ⟨by simp [placeB, h0, h1], rfl⟩
    · go_enter Try.func81, Try.ntmps81
      go_wp2_with fail
      go_ret
      exact ⟨by simp [placeB, h0, h1], rfl⟩
  · go_enter Try.func81, Try.ntmps81
    go_wp2_with fail
    go_ret
    exact ⟨by simp [placeB]; omega, rfl⟩

theorem follows_calls (w : World) (tb to_ : Nat) (a b : Leg) (c : Int) (hb : tb < w.heap.size) (hc : w.cell? ⟨tb, to_ + 2, none⟩ = some (.int .i64 c))
    (h0 : 0 ≤ a.Arr ∧ a.Arr ≤ 10000) (h1 : 0 ≤ c ∧ c ≤ 101) :
    Calls Try.prog 55 #[.pointer (some ⟨tb, to_, none⟩), a.val, b.val] w fun e w' => e = .returned (.bool (folB c a b)) ∧ Ext w w' := by
  by_cases hL : a.Line = b.Line
  · have hL' : (a.Line != b.Line) = false := by simp [hL]
    by_cases hT : a.To = b.From
    · have hT' : (a.To == b.From) = true := by simp [hT]
      have HL := Lib.hid hL
      have HT := Lib.hid hT
      clear hL hT
      go_enter Try.func55, Try.ntmps55
      go_wp2_with fail
      go_ret
      exact ⟨by simp [folB, HL.out, HT.out], ((Ext.refl w).alloc _).alloc _⟩
    · have hT' : (a.To == b.From) = false := by simp [hT]
      have HL := Lib.hid hL
      have HT := Lib.hid hT
      clear hL hT
      go_enter Try.func55, Try.ntmps55
      go_wp2_with fail
      go_ret
      exact ⟨by simp [folB, HT.out], ((Ext.refl w).alloc _).alloc _⟩
  · have hL' : (a.Line != b.Line) = true := by simp [hL]
    by_cases hT : a.To = b.From
    · have hT' : (a.To == b.From) = true := by simp [hT]
      have HL := Lib.hid hL
      have HT := Lib.hid hT
      clear hL hT
      go_enter Try.func55, Try.ntmps55
      go_wp2_with fail
      go_quiet (fail)
      go_wp2_with fail
      go_ret
      exact ⟨by simp [folB, HL.out, HT.out], (by repeat (first | exact Ext.refl _ | assumption | refine Ext.alloc ?_ _ | refine Ext.drewN ?_ _ | refine Ext.drew ?_))⟩
    · have hT' : (a.To == b.From) = false := by simp [hT]
      have HL := Lib.hid hL
      have HT := Lib.hid hT
      clear hL hT
      go_enter Try.func55, Try.ntmps55
      go_wp2_with fail
      go_quiet (fail)
      go_wp2_with fail
      go_ret
      exact ⟨by simp [folB, HT.out], (by repeat (first | exact Ext.refl _ | assumption | refine Ext.alloc ?_ _ | refine Ext.drewN ?_ _ | refine Ext.drew ?_))⟩

theorem begins_calls (w : World) (l : Leg) (src at_ : Int) :
    Calls Try.prog 48 #[l.val, .int .i64 src, .int .i64 at_] w fun e w' => e = .returned (.bool (begB src at_ l)) ∧ Ext w w' := by
  by_cases hT : l.From = src
  · have hT' : (l.From == src) = true := by simp [hT]
    have HT := Lib.hid hT
    clear hT
    go_enter Try.func48, Try.ntmps48
    go_wp2_with fail
    go_ret
    exact ⟨by simp [begB, HT.out], (Ext.refl w).alloc _⟩
  · have hT' : (l.From == src) = false := by simp [hT]
    have HT := Lib.hid hT
    clear hT
    go_enter Try.func48, Try.ntmps48
    go_wp2_with fail
    go_ret
    exact ⟨by simp [begB, HT.out], (Ext.refl w).alloc _⟩

theorem fine_calls (w : World) (tb to_ : Nat) (n : Int) (l : Leg) (hb : tb < w.heap.size) (hn : w.cell? ⟨tb, to_, none⟩ = some (.int .i64 n)) :
    Calls Try.prog 78 #[.pointer (some ⟨tb, to_, none⟩), l.val] w fun e w' => e = .returned (.bool (fineB n l)) ∧ Ext w w' := by
  go_enter Try.func78, Try.ntmps78
  go_wp2_with (go_at_call 81; refine (place_calls _ tb to_ n _ ?_).mono ?_; (exact (Ext.cell (a := w) (by repeat (first | exact Ext.refl _ | assumption | refine Ext.alloc ?_ _ | refine Ext.drewN ?_ _ | refine Ext.drew ?_)) hb).trans hn); rintro e w' ⟨rfl, rfl⟩)
  all_goals
    go_ret
    refine ⟨ret_bool ?_, (by repeat (first | exact Ext.refl _ | assumption | refine Ext.alloc ?_ _ | refine Ext.drewN ?_ _ | refine Ext.drew ?_))⟩
    rw [Bool.eq_iff_iff]
    simp [fineB, placeB] at *
    omega
end Go.Proofs.Ytmmjjfjbhogfgaa
