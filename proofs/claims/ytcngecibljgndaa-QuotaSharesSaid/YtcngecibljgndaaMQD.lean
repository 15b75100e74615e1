/- inTurn: the orders in which claimants can come, by a closure that calls itself. -/
import Derived.Test.YtcngecibljgndaaMQA
import Derived.Test.YtcngecibljgndaaMQC
namespace Go.Proofs.Ytcngecibljgndaa
open Go.RowKit Go.Shelf

/-- What the closure writes: what each one has got, the sums, and how many orders there were. -/
structure St where
  got : List Int
  out : List Int
  ord : Int
def addL (a b : List Int) : List Int := (List.range a.length).map fun k => ith a k + ith b k
def stepP (g : Int → List Bool → St → St) (xs : List Int) (left : Int) (came : List Bool) (st : St) (i : Nat) : St :=
  if bth came i = true then st else g (left - min (ith xs i) left) (came.set i true) ⟨st.got.set i (min (ith xs i) left), st.out, st.ord⟩
def nextP (xs : List Int) : Nat → Int → List Bool → St → St
  | 0, _, _, st => ⟨st.got, addL st.out st.got, st.ord + 1⟩
  | f + 1, left, came, st => (List.range xs.length).foldl (stepP (nextP xs f) xs left came) st
def inTurnP (E : Int) (xs : List Int) : List Int × Int :=
  let st := nextP xs xs.length E (List.replicate xs.length false) ⟨List.replicate xs.length 0, List.replicate xs.length 0, 0⟩
  (st.out, st.ord)

structure StOk (n : Nat) (st : St) (b : Int) : Prop where
  got : st.got.length = n
  out : st.out.length = n
  gotIn : ∀ k, k < n → 0 ≤ ith st.got k ∧ ith st.got k ≤ 100000
  outIn : ∀ k, k < n → 0 ≤ ith st.out k ∧ ith st.out k ≤ 100000 * st.ord
  ordIn : 0 ≤ st.ord ∧ st.ord ≤ b
theorem ith_map_range (f : Nat → Int) (n k : Nat) (h : k < n) : ith ((List.range n).map f) k = f k := by simp [ith, h]
theorem foldl_range_succ {α : Type} (f : α → Nat → α) (st : α) (k : Nat) : (List.range (k + 1)).foldl f st = f ((List.range k).foldl f st) k := by simp [List.range_succ, List.foldl_append]

theorem next_ok (xs : List Int) (hu : Upto 100000 xs) (hl : xs.length ≤ 7) : ∀ (f : Nat) (left : Int) (came : List Bool) (st : St) (b : Int), 0 ≤ left → StOk xs.length st b →
    StOk xs.length (nextP xs f left came st) (b + 7 ^ f) ∧ ∀ i, bth came i = true → ith (nextP xs f left came st).got i = ith st.got i
  | 0, left, came, st, b, _, h => by
    refine ⟨⟨h.got, by simp [nextP, addL, h.out], h.gotIn, fun k hk => ?_, ?_⟩, fun i _ => rfl⟩
    · have h1 := h.gotIn k hk
      have h2 := h.outIn k hk
      simp only [nextP, addL, h.out]
      rw [ith_map_range _ _ _ hk]
      omega
    · have := h.ordIn
      simp [nextP]; omega
  | f + 1, left, came, st, b, h0, h => by
    have key : ∀ k, k ≤ xs.length → StOk xs.length ((List.range k).foldl (stepP (nextP xs f) xs left came) st) (b + k * 7 ^ f) ∧ ∀ i, bth came i = true → ith ((List.range k).foldl (stepP (nextP xs f) xs left came) st).got i = ith st.got i := by
      intro k
      induction k with
      | zero => intro _; simpa using h
      | succ k ih =>
        intro hk
        obtain ⟨i1, i2⟩ := ih (by omega)
        rw [foldl_range_succ]
        generalize (List.range k).foldl (stepP (nextP xs f) xs left came) st = s at *
        have hp : (0 : Int) ≤ 7 ^ f := Int.pow_nonneg (by omega)
        have e : ((k + 1 : Nat) : Int) * 7 ^ f = k * 7 ^ f + 7 ^ f := by rw [Int.natCast_add, Int.add_mul]; simp
        rw [e]
        unfold stepP
        by_cases hc : bth came k = true
        · rw [if_pos hc]
          exact ⟨⟨i1.got, i1.out, i1.gotIn, i1.outIn, by have := i1.ordIn; omega⟩, i2⟩
        · rw [if_neg hc]
          have hx := hu.at_ k (by omega)
          have hg : StOk xs.length ⟨s.got.set k (min (ith xs k) left), s.out, s.ord⟩ (b + k * 7 ^ f) := by
            refine ⟨by simpa using i1.got, i1.out, fun j hj => ?_, i1.outIn, i1.ordIn⟩
            have := i1.gotIn j hj
            simp only []
            rw [ith_set _ _ _ _ (by rw [i1.got]; omega)]
            split <;> omega
          obtain ⟨j1, j2⟩ := next_ok xs hu hl f (left - min (ith xs k) left) (came.set k true) _ _ (by omega) hg
          refine ⟨by rw [← Int.add_assoc]; exact j1, fun i hi => ?_⟩
          have hik : i ≠ k := by rintro rfl; exact hc hi
          rw [j2 i (by
            unfold bth at hi ⊢
            simp only [List.getD_eq_getElem?_getD] at hi ⊢
            rw [List.getElem?_set_ne (fun e => hik e.symm)]
            exact hi)]
          simp only []
          rw [ith_set _ _ _ _ (by rw [i1.got]; omega), if_neg hik]
          exact i2 i hi
    obtain ⟨k1, k2⟩ := key xs.length (Nat.le_refl _)
    refine ⟨⟨k1.got, k1.out, k1.gotIn, k1.outIn, k1.ordIn.1, ?_⟩, k2⟩
    have := k1.ordIn.2
    have hp : (0 : Int) ≤ 7 ^ f := Int.pow_nonneg (by omega)
    have h7 : (xs.length : Int) * 7 ^ f ≤ 7 * 7 ^ f := Int.mul_le_mul_of_nonneg_right (by omega) hp
    have e : (7 : Int) ^ (f + 1) = 7 * 7 ^ f := by rw [Int.pow_succ]; omega
    rw [e]
    simp only [nextP]
    omega

/-- The closure's memory: nine blocks from h on. -/
structure Turn (w : World) (h : Nat) (ao : Option Addr) (cap : Nat) (xs : List Int) (came : List Bool) (st : St) : Prop where
  size : h + 9 ≤ w.heap.size
  claims : w.cell? ⟨h, 0, none⟩ = some (.slice ao xs.length cap)
  bout : w.cell? ⟨h + 2, 0, none⟩ = some (.slice (some ⟨h + 1, 0, none⟩) xs.length xs.length)
  bord : w.cell? ⟨h + 3, 0, none⟩ = some (.int .i64 st.ord) ∧ w.frozen? ⟨h + 3, 0, none⟩ = false
  bcame : w.cell? ⟨h + 5, 0, none⟩ = some (.slice (some ⟨h + 4, 0, none⟩) xs.length xs.length)
  bgot : w.cell? ⟨h + 7, 0, none⟩ = some (.slice (some ⟨h + 6, 0, none⟩) xs.length xs.length)
  bnext : w.cell? ⟨h + 8, 0, none⟩ = some (.func (.func 98) #[] #[.pointer (some ⟨h, 0, none⟩), .pointer (some ⟨h + 3, 0, none⟩), .pointer (some ⟨h + 7, 0, none⟩), .pointer (some ⟨h + 2, 0, none⟩), .pointer (some ⟨h + 5, 0, none⟩), .pointer (some ⟨h + 8, 0, none⟩)])
  out : ∀ k, k < xs.length → w.cell? ⟨h + 1, k, none⟩ = some (.int .i64 (ith st.out k)) ∧ w.frozen? ⟨h + 1, k, none⟩ = false
  came : ∀ k, k < xs.length → w.cell? ⟨h + 4, k, none⟩ = some (.bool (bth came k)) ∧ w.frozen? ⟨h + 4, k, none⟩ = false
  got : ∀ k, k < xs.length → w.cell? ⟨h + 6, k, none⟩ = some (.int .i64 (ith st.got k)) ∧ w.frozen? ⟨h + 6, k, none⟩ = false
theorem Turn.ext {w w' : World} {h : Nat} {ao : Option Addr} {cap : Nat} {xs : List Int} {came : List Bool} {st : St} (hT : Turn w h ao cap xs came st) (hx : Ext w w') : Turn w' h ao cap xs came st := by
  have hs := hT.size
  have c : ∀ d k, d < 9 → w'.cell? ⟨h + d, k, none⟩ = w.cell? ⟨h + d, k, none⟩ := fun d k hd => hx.cell (by show h + d < _; omega)
  have f : ∀ d k, d < 9 → w'.frozen? ⟨h + d, k, none⟩ = w.frozen? ⟨h + d, k, none⟩ := fun d k hd => hx.frozen (by show h + d < _; omega)
  exact ⟨Nat.le_trans hs hx.size, (c 0 0 (by omega)).trans hT.claims, (c 2 0 (by omega)).trans hT.bout, ⟨(c 3 0 (by omega)).trans hT.bord.1, (f 3 0 (by omega)).trans hT.bord.2⟩, (c 5 0 (by omega)).trans hT.bcame, (c 7 0 (by omega)).trans hT.bgot, (c 8 0 (by omega)).trans hT.bnext,
    fun k hk => ⟨(c 1 k (by omega)).trans (hT.out k hk).1, (f 1 k (by omega)).trans (hT.out k hk).2⟩, fun k hk => ⟨(c 4 k (by omega)).trans (hT.came k hk).1, (f 4 k (by omega)).trans (hT.came k hk).2⟩, fun k hk => ⟨(c 6 k (by omega)).trans (hT.got k hk).1, (f 6 k (by omega)).trans (hT.got k hk).2⟩⟩

theorem cell_else {w : World} {h d d' k k' : Nat} {u : Value} (hd : d ≠ d') : (w.setCell ⟨h + d, k, none⟩ u).cell? ⟨h + d', k', none⟩ = w.cell? ⟨h + d', k', none⟩ :=
  World.cell?_setCell_other _ _ _ _ (fun e => by simp only [Addr.mk.injEq] at e; omega)
theorem cell_else0 {w : World} {h d k k' : Nat} {u : Value} (hd : 0 < d) : (w.setCell ⟨h + d, k, none⟩ u).cell? ⟨h, k', none⟩ = w.cell? ⟨h, k', none⟩ :=
  World.cell?_setCell_other _ _ _ _ (fun e => by simp only [Addr.mk.injEq] at e; omega)
theorem cell_at_set {w : World} {b k k' : Nat} {u v : Value} {F : Value} (hc : w.cell? ⟨b, k', none⟩ = some v) (hF : F = if k' = k then u else v) : (w.setCell ⟨b, k, none⟩ u).cell? ⟨b, k', none⟩ = some F := by
  subst hF
  by_cases e : k' = k
  · subst e; rw [if_pos rfl]; exact World.cell?_setCell_same _ _ _ hc
  · rw [if_neg e, World.cell?_setCell_other _ _ _ _ (fun e2 => e (by simp only [Addr.mk.injEq] at e2; exact e2.2.1.symm)), hc]
theorem Turn.setCame {w : World} {h : Nat} {ao : Option Addr} {cap : Nat} {xs : List Int} {came : List Bool} {st : St} (hT : Turn w h ao cap xs came st) (hl : came.length = xs.length) {i : Nat} (hi : i < xs.length) (b : Bool) :
    Turn (w.setCell ⟨h + 4, i, none⟩ (.bool b)) h ao cap xs (came.set i b) st :=
  ⟨by simpa [World.setCell] using hT.size, (cell_else0 (by omega)).trans hT.claims, (cell_else (by omega)).trans hT.bout, ⟨(cell_else (by omega)).trans hT.bord.1, by rw [World.frozen?_setCell]; exact hT.bord.2⟩, (cell_else (by omega)).trans hT.bcame, (cell_else (by omega)).trans hT.bgot, (cell_else (by omega)).trans hT.bnext,
    fun k hk => ⟨(cell_else (by omega)).trans (hT.out k hk).1, by rw [World.frozen?_setCell]; exact (hT.out k hk).2⟩,
    fun k hk => ⟨cell_at_set (hT.came k hk).1 (by rw [bth_set _ _ _ _ (by omega)]; split <;> rfl), by rw [World.frozen?_setCell]; exact (hT.came k hk).2⟩,
    fun k hk => ⟨(cell_else (by omega)).trans (hT.got k hk).1, by rw [World.frozen?_setCell]; exact (hT.got k hk).2⟩⟩
theorem Turn.setGot {w : World} {h : Nat} {ao : Option Addr} {cap : Nat} {xs : List Int} {came : List Bool} {st : St} (hT : Turn w h ao cap xs came st) (hl : st.got.length = xs.length) {i : Nat} (hi : i < xs.length) (u : Int) :
    Turn (w.setCell ⟨h + 6, i, none⟩ (.int .i64 u)) h ao cap xs came ⟨st.got.set i u, st.out, st.ord⟩ :=
  ⟨by simpa [World.setCell] using hT.size, (cell_else0 (by omega)).trans hT.claims, (cell_else (by omega)).trans hT.bout, ⟨(cell_else (by omega)).trans hT.bord.1, by rw [World.frozen?_setCell]; exact hT.bord.2⟩, (cell_else (by omega)).trans hT.bcame, (cell_else (by omega)).trans hT.bgot, (cell_else (by omega)).trans hT.bnext,
    fun k hk => ⟨(cell_else (by omega)).trans (hT.out k hk).1, by rw [World.frozen?_setCell]; exact (hT.out k hk).2⟩,
    fun k hk => ⟨(cell_else (by omega)).trans (hT.came k hk).1, by rw [World.frozen?_setCell]; exact (hT.came k hk).2⟩,
    fun k hk => ⟨cell_at_set (hT.got k hk).1 (by simp only []; rw [ith_set _ _ _ _ (by omega)]; split <;> rfl), by rw [World.frozen?_setCell]; exact (hT.got k hk).2⟩⟩
theorem Turn.setOut {w : World} {h : Nat} {ao : Option Addr} {cap : Nat} {xs : List Int} {came : List Bool} {st : St} (hT : Turn w h ao cap xs came st) (hl : st.out.length = xs.length) {i : Nat} (hi : i < xs.length) (u : Int) :
    Turn (w.setCell ⟨h + 1, i, none⟩ (.int .i64 u)) h ao cap xs came ⟨st.got, st.out.set i u, st.ord⟩ :=
  ⟨by simpa [World.setCell] using hT.size, (cell_else0 (by omega)).trans hT.claims, (cell_else (by omega)).trans hT.bout, ⟨(cell_else (by omega)).trans hT.bord.1, by rw [World.frozen?_setCell]; exact hT.bord.2⟩, (cell_else (by omega)).trans hT.bcame, (cell_else (by omega)).trans hT.bgot, (cell_else (by omega)).trans hT.bnext,
    fun k hk => ⟨cell_at_set (hT.out k hk).1 (by simp only []; rw [ith_set _ _ _ _ (by omega)]; split <;> rfl), by rw [World.frozen?_setCell]; exact (hT.out k hk).2⟩,
    fun k hk => ⟨(cell_else (by omega)).trans (hT.came k hk).1, by rw [World.frozen?_setCell]; exact (hT.came k hk).2⟩,
    fun k hk => ⟨(cell_else (by omega)).trans (hT.got k hk).1, by rw [World.frozen?_setCell]; exact (hT.got k hk).2⟩⟩
theorem Turn.setOrd {w : World} {h : Nat} {ao : Option Addr} {cap : Nat} {xs : List Int} {came : List Bool} {st : St} (hT : Turn w h ao cap xs came st) (u : Int) :
    Turn (w.setCell ⟨h + 3, 0, none⟩ (.int .i64 u)) h ao cap xs came ⟨st.got, st.out, u⟩ :=
  ⟨by simpa [World.setCell] using hT.size, (cell_else0 (by omega)).trans hT.claims, (cell_else (by omega)).trans hT.bout, ⟨cell_at_set hT.bord.1 (by simp), by rw [World.frozen?_setCell]; exact hT.bord.2⟩, (cell_else (by omega)).trans hT.bcame, (cell_else (by omega)).trans hT.bgot, (cell_else (by omega)).trans hT.bnext,
    fun k hk => ⟨(cell_else (by omega)).trans (hT.out k hk).1, by rw [World.frozen?_setCell]; exact (hT.out k hk).2⟩,
    fun k hk => ⟨(cell_else (by omega)).trans (hT.came k hk).1, by rw [World.frozen?_setCell]; exact (hT.came k hk).2⟩,
    fun k hk => ⟨(cell_else (by omega)).trans (hT.got k hk).1, by rw [World.frozen?_setCell]; exact (hT.got k hk).2⟩⟩
end Go.Proofs.Ytcngecibljgndaa

/- inTurn: the walk. -/
namespace Go.Proofs.Ytcngecibljgndaa
open Go.RowKit Go.Shelf

def capsN (h : Nat) : Array Value := #[.pointer (some ⟨h, 0, none⟩), .pointer (some ⟨h + 3, 0, none⟩), .pointer (some ⟨h + 7, 0, none⟩), .pointer (some ⟨h + 2, 0, none⟩), .pointer (some ⟨h + 5, 0, none⟩), .pointer (some ⟨h + 8, 0, none⟩)]
/-- What a call of the closure leaves. -/
def NextRes (w0 : World) (h : Nat) (ao : Option Addr) (cap : Nat) (xs : List Int) (came : List Bool) (st : St) (e : Ending) (w' : World) : Prop := (∃ v, e = .returned v) ∧ Turn w' h ao cap xs came st ∧ Ext w0 w'

/-- The sums, when k of them have been made. -/
def addK (a b : List Int) (k : Nat) : List Int := (List.range a.length).map fun j => if j < k then ith a j + ith b j else ith a j
theorem addK_zero (a b : List Int) : addK a b 0 = a := by
  refine List.ext_getElem (by simp [addK]) (fun i h1 h2 => ?_)
  simp [addK, ith, h2]
theorem addK_all (a b : List Int) : addK a b a.length = addL a b := by
  unfold addK addL
  refine List.map_congr_left (fun j hj => ?_)
  rw [if_pos (List.mem_range.1 hj)]
theorem addK_at (a b : List Int) (k j : Nat) (h : j < a.length) : ith (addK a b k) j = if j < k then ith a j + ith b j else ith a j := ith_map_range _ _ _ h
theorem addK_length (a b : List Int) (k : Nat) : (addK a b k).length = a.length := by simp [addK]
theorem addK_succ (a b : List Int) (k : Nat) (_ : k < a.length) : (addK a b k).set k (ith a k + ith b k) = addK a b (k + 1) := by
  refine List.ext_getElem (by simp [addK]) (fun i h1 h2 => ?_)
  have hi : i < a.length := by simpa [addK] using h2
  rw [List.getElem_set]
  by_cases e : k = i
  · subst e
    rw [if_pos rfl]
    simp [addK]
  · rw [if_neg e]
    simp only [addK, List.getElem_map, List.getElem_range]
    by_cases h3 : i < k
    · rw [if_pos h3, if_pos (by omega)]
    · rw [if_neg h3, if_neg (by omega)]

set_option maxRecDepth 100000 in
set_option maxHeartbeats 4000000 in
theorem next_zero (w0 w : World) (h : Nat) (ao : Option Addr) (cap : Nat) (xs : List Int) (came : List Bool) (st : St) (left b : Int) (hT : Turn w h ao cap xs came st) (hx0 : Ext w0 w) (h0 : w0.heap.size ≤ h) (hl : xs.length ≤ 7) (hst : StOk xs.length st b) (hb : b < 2000000) :
    Calls Try.prog 98 (#[.int .i64 xs.length, .int .i64 left] ++ capsN h) w (NextRes w0 h ao cap xs came ⟨st.got, addL st.out st.got, st.ord + 1⟩) := by
  have hc1 := hT.claims
  have hc2 := hT.bord.1
  have hc3 := hT.bord.2
  have ho := hst.ordIn
  have hT1 := hT.setOrd (st.ord + 1)
  have hx1 := hx0.setOwn ⟨h + 3, 0, none⟩ (.int .i64 (st.ord + 1)) (by simp; omega)
  obtain ⟨w1, hw1⟩ : ∃ w1, w1 = w.setCell ⟨h + 3, 0, none⟩ (.int .i64 (st.ord + 1)) := ⟨_, rfl⟩
  rw [← hw1] at hT1 hx1
  have hg1 := hT1.bgot
  rw [hw1] at hg1
  unfold capsN
  go_enter Try.func98, Try.ntmps98
  go_wp2_with fail
  rw [← hw1]
  clear hw1 hg1
  go_loopw [22] (fun i wr => ∃ k : Nat, k ≤ xs.length ∧ i = .int .i64 k ∧ Ext w0 wr ∧ Turn wr h ao cap xs came ⟨st.got, addK st.out st.got k, st.ord + 1⟩) (fun i _ => xs.length - (intOf i).toNat)
  case atStart => exact ⟨0, by omega, rfl, hx1, by rw [addK_zero]; exact hT1⟩
  case round =>
    obtain ⟨k, hk, rfl, hx, hT2⟩ := hrel
    by_cases hlt : k < xs.length
    · obtain ⟨hgk, -⟩ := hT2.got k hlt
      obtain ⟨hok, hof⟩ := hT2.out k hlt
      have hbo := hT2.bout
      have e1 := addK_at st.out st.got k k (by rw [hst.out]; exact hlt)
      rw [if_neg (by omega)] at e1
      have b1 := hst.gotIn k hlt
      have b2 := hst.outIn k hlt
      have hT3 := hT2.setOut (by rw [addK_length]; exact hst.out) hlt (ith st.out k + ith st.got k)
      rw [addK_succ _ _ _ (by rw [hst.out]; exact hlt)] at hT3
      have hx3 := hx.setOwn ⟨h + 1, k, none⟩ (.int .i64 (ith st.out k + ith st.got k)) (by simp; omega)
      rw [e1] at hok
      go_wp2_with fail
      exact ⟨⟨k + 1, by omega, rfl, hx3, hT3⟩, by simp only [intOf]; omega⟩
    · obtain rfl : k = xs.length := by omega
      go_wp2_with fail
      go_end0
      refine ⟨⟨_, rfl⟩, ?_, hx⟩
      have : addL st.out st.got = addK st.out st.got xs.length := by rw [← hst.out, addK_all]
      rw [this]
      exact hT2

theorem enters_next : ∀ args w, (callFunc 98 args).run Try.prog w = .ok (.enter 98 args) w := enters_of Try.func98 (by kernel_rfl) rfl
theorem set_back (came : List Bool) (i : Nat) (h : bth came i = false) : (came.set i true).set i false = came := by
  refine List.ext_getElem (by simp) (fun j h1 h2 => ?_)
  rw [List.getElem_set]
  by_cases e : i = j
  · subst e
    rw [if_pos rfl]
    simp [bth, h2] at h
    exact h.symm
  · rw [if_neg e, List.getElem_set_ne e]

set_option maxRecDepth 100000 in
set_option maxHeartbeats 16000000 in
theorem next_calls (w0 : World) (h : Nat) (ao : Option Addr) (cap : Nat) (xs : List Int) (hI : IntsIn w0 ao xs) (h0 : w0.heap.size ≤ h) (hl : xs.length ≤ 7) (hu : Upto 100000 xs) :
    ∀ (f : Nat) (w : World) (many left b : Int) (came : List Bool) (st : St), Turn w h ao cap xs came st → Ext w0 w → many + f = xs.length → 0 ≤ many → StOk xs.length st b → b + 7 ^ f < 2000000 → came.length = xs.length → (0 ≤ left ∧ left ≤ 1000000) →
    Calls Try.prog 98 (#[.int .i64 many, .int .i64 left] ++ capsN h) w (NextRes w0 h ao cap xs came (nextP xs f left came st))
  | 0, w, many, left, b, came, st, hT, hx, hm, _, hst, hb, _, _ => by
    obtain rfl : many = xs.length := by omega
    exact next_zero w0 w h ao cap xs came st left b hT hx h0 hl hst (by simp at hb; omega)
  | f + 1, w, many, left, b, came, st, hT, hx, hm, hmn, hst, hb, hcl, hleft => by
    have HB := Lib.hid hb
    have HST := Lib.hid hst
    have hent := enters_next
    clear hb hst
    have hcA := hT.claims
    have hne : (many == (xs.length : Int)) = false := by simp; omega
    unfold capsN
    go_enter Try.func98, Try.ntmps98
    go_wp2_with fail
    clear hcA
    go_loopw [37] (fun i wr => ∃ (k : Nat) (s : St), k ≤ xs.length ∧ i = .int .i64 k ∧ Ext w0 wr ∧ Turn wr h ao cap xs came s ∧ Hid (s = (List.range k).foldl (stepP (nextP xs f) xs left came) st ∧ StOk xs.length s (b + k * 7 ^ f))) (fun i _ => xs.length - (intOf i).toNat)
    case atStart => exact ⟨0, st, by omega, rfl, hx, hT, Lib.hid ⟨rfl, by simpa using HST.out⟩⟩
    case round =>
      obtain ⟨k, s, hk, rfl, hxr, hTr, HS⟩ := hrel
      by_cases hlt : k < xs.length
      · obtain ⟨cb, coff, rfl, hcb, hck⟩ := hI.ext hxr k hlt
        obtain ⟨hmk, hmf⟩ := hTr.came k hlt
        have hbc := hTr.bcame
        have hbg := hTr.bgot
        cases hcm : bth came k with
        | true =>
          rw [hcm] at hmk
          have HC := Lib.hid hcm
          clear hcm
          go_wp2_with fail
          refine ⟨⟨k + 1, s, by omega, rfl, hxr, hTr, Lib.hid ⟨?_, ?_⟩⟩, by simp only [intOf]; omega⟩
          · rw [foldl_range_succ, ← HS.out.1, stepP, if_pos HC.out]
          · have hso := HS.out.2
            refine ⟨hso.got, hso.out, hso.gotIn, hso.outIn, hso.ordIn.1, Int.le_trans hso.ordIn.2 ?_⟩
            have hp : (0 : Int) ≤ 7 ^ f := Int.pow_nonneg (by omega)
            have e : ((k + 1 : Nat) : Int) * 7 ^ f = k * 7 ^ f + 7 ^ f := by rw [Int.natCast_add, Int.add_mul]; simp
            rw [e]; omega
        | false =>
          rw [hcm] at hmk
          have HC := Lib.hid hcm
          clear hcm
          obtain ⟨hgk, hgf⟩ := hTr.got k hlt
          have hxk := hu.at_ k hlt
          by_cases hmin : ith xs k ≤ left
          · have HM := Lib.hid (show min (ith xs k) left = (ith xs k) by omega)
            have HR := Lib.hid (show left - min (ith xs k) left = (left - ith xs k) by omega)
            have hT2 := (((hTr.setCame hcl hlt true).setGot HS.out.2.got hlt (ith xs k)).ext (Ext.refl _).drew)
            have hx2 := ((hxr.setOwn ⟨h + 4, k, none⟩ (.bool true) (by simp; omega)).setOwn ⟨h + 6, k, none⟩ (.int .i64 (ith xs k)) (by simp; omega)).drew
            have hso := HS.out.2
            have hgk2 := (hT2.got k hlt).1
            simp only [ith_set _ _ _ _ (show k < s.got.length by rw [hso.got]; exact hlt), if_true] at hgk2
            have hp7 : (0 : Int) ≤ 7 ^ f := Int.pow_nonneg (by omega)
            have hk7 : (k : Int) * 7 ^ f ≤ 6 * 7 ^ f := Int.mul_le_mul_of_nonneg_right (by omega) hp7
            have hf7 : (7 : Int) ^ (f + 1) = 6 * 7 ^ f + 7 ^ f := by rw [Int.pow_succ]; omega
            have hbk := Lib.hid (show b + (k : Int) * 7 ^ f + 7 ^ f < 2000000 by have := HB.out; rw [hf7] at this; omega)
            have hek := Lib.hid (show b + ((k + 1 : Nat) : Int) * 7 ^ f = b + (k : Int) * 7 ^ f + 7 ^ f by rw [Int.natCast_add, Int.add_mul]; simp; omega)
            have hstk : Hid (StOk xs.length ⟨s.got.set k (ith xs k), s.out, s.ord⟩ (b + k * 7 ^ f)) := Lib.hid ⟨by simpa using hso.got, hso.out, fun j hj => by
              have := hso.gotIn j hj
              simp only []
              rw [ith_set _ _ _ _ (by rw [hso.got]; omega)]
              split <;> omega, hso.outIn, hso.ordIn⟩
            have hnk := Lib.hid (next_ok xs hu hl f (left - ith xs k) (came.set k true) _ _ (by omega) hstk.out)
            have hgk4 := Lib.hid (show ith (nextP xs f (left - ith xs k) (came.set k true) ⟨s.got.set k (ith xs k), s.out, s.ord⟩).got k = (ith xs k) by
              rw [hnk.out.2 k (by simp [bth, show k < came.length by omega])]
              simp only []
              rw [ith_set _ _ _ _ (by rw [hso.got]; omega), if_pos rfl])
            clear hso hp7 hk7 hf7
            go_wp2_with fail
            go_region
            clear hmk hmf hbc hbg hgk hgf hck hTr hxr
            generalize ((wr.setCell ⟨h + 4, k, none⟩ (.bool true)).setCell ⟨h + 6, k, none⟩ (.int .i64 (ith xs k))).drew = w2 at *
            have hk1 := hT2.bnext
            have hw1 : IntKind.i64.wrap (many + 1) = many + 1 := by rw [IntKind.wrap_i64]; omega
            have hw2 : IntKind.i64.wrap (left - (ith xs k)) = (left - ith xs k) := by rw [IntKind.wrap_i64]; omega
            have hk2 := hT2.bgot
            go_wp2_with fail
            go_region_held3 (fun w' => (w'.cell? ⟨h + 8, 0, none⟩ = some (.func (.func 98) #[] #[.pointer (some ⟨h, 0, none⟩), .pointer (some ⟨h + 3, 0, none⟩), .pointer (some ⟨h + 7, 0, none⟩), .pointer (some ⟨h + 2, 0, none⟩), .pointer (some ⟨h + 5, 0, none⟩), .pointer (some ⟨h + 8, 0, none⟩)])) ∧ (w'.cell? ⟨h + 7, 0, none⟩ = some (.slice (some ⟨h + 6, 0, none⟩) xs.length xs.length)) ∧ (w'.cell? ⟨h + 6, k, none⟩ = some (.int .i64 (ith xs k)))) (first | go_keep | exact ⟨hn4, hg4, hk4⟩)
              (first | (go_at_call 98; refine (next_calls w0 h _ cap xs hI h0 hl hu f _ (many + 1) (left - ith xs k) (b + k * 7 ^ f) (came.set k true) ⟨s.got.set k (ith xs k), s.out, s.ord⟩ (hT2.ext (Ext.refl _).drew) hx2.drew (by omega) (by omega) hstk.out (hbk.out) (by simpa using hcl) (by omega)).mono ?_; rintro e w4 ⟨⟨v4, rfl⟩, hT4, hx4⟩; have hn4 := hT4.bnext; have hg4 := hT4.bgot; have hk4 := (hT4.got k hlt).1; rw [hgk4.out] at hk4))
            all_goals
              have hT5 := hT4.setCame (by simpa using hcl) hlt false
              rw [set_back came k HC.out] at hT5
              have hx5 := hx4.setOwn ⟨h + 4, k, none⟩ (.bool false) (by simp; omega)
              have hb4 := hT4.bcame
              have hc4 := (hT4.came k hlt).2
              have hc5 := (hT4.came k hlt).1
              go_wp2_with fail
              refine ⟨⟨k + 1, _, by omega, rfl, hx5, hT5, Lib.hid ⟨?_, ?_⟩⟩, by simp only [intOf]; omega⟩
              · rw [foldl_range_succ, ← HS.out.1, stepP, if_neg (by rw [HC.out]; simp), HR.out, HM.out]
              · rw [hek.out]; exact hnk.out.1
          · have HM := Lib.hid (show min (ith xs k) left = left by omega)
            have HR := Lib.hid (show left - min (ith xs k) left = 0 by omega)
            have hT2 := (((hTr.setCame hcl hlt true).setGot HS.out.2.got hlt left).ext (Ext.refl _).drew)
            have hx2 := ((hxr.setOwn ⟨h + 4, k, none⟩ (.bool true) (by simp; omega)).setOwn ⟨h + 6, k, none⟩ (.int .i64 left) (by simp; omega)).drew
            have hso := HS.out.2
            have hgk2 := (hT2.got k hlt).1
            simp only [ith_set _ _ _ _ (show k < s.got.length by rw [hso.got]; exact hlt), if_true] at hgk2
            have hp7 : (0 : Int) ≤ 7 ^ f := Int.pow_nonneg (by omega)
            have hk7 : (k : Int) * 7 ^ f ≤ 6 * 7 ^ f := Int.mul_le_mul_of_nonneg_right (by omega) hp7
            have hf7 : (7 : Int) ^ (f + 1) = 6 * 7 ^ f + 7 ^ f := by rw [Int.pow_succ]; omega
            have hbk := Lib.hid (show b + (k : Int) * 7 ^ f + 7 ^ f < 2000000 by have := HB.out; rw [hf7] at this; omega)
            have hek := Lib.hid (show b + ((k + 1 : Nat) : Int) * 7 ^ f = b + (k : Int) * 7 ^ f + 7 ^ f by rw [Int.natCast_add, Int.add_mul]; simp; omega)
            have hstk : Hid (StOk xs.length ⟨s.got.set k left, s.out, s.ord⟩ (b + k * 7 ^ f)) := Lib.hid ⟨by simpa using hso.got, hso.out, fun j hj => by
              have := hso.gotIn j hj
              simp only []
              rw [ith_set _ _ _ _ (by rw [hso.got]; omega)]
              split <;> omega, hso.outIn, hso.ordIn⟩
            have hnk := Lib.hid (next_ok xs hu hl f 0 (came.set k true) _ _ (by omega) hstk.out)
            have hgk4 := Lib.hid (show ith (nextP xs f 0 (came.set k true) ⟨s.got.set k left, s.out, s.ord⟩).got k = left by
              rw [hnk.out.2 k (by simp [bth, show k < came.length by omega])]
              simp only []
              rw [ith_set _ _ _ _ (by rw [hso.got]; omega), if_pos rfl])
            clear hso hp7 hk7 hf7
            go_wp2_with fail
            go_region
            clear hmk hmf hbc hbg hgk hgf hck hTr hxr
            generalize ((wr.setCell ⟨h + 4, k, none⟩ (.bool true)).setCell ⟨h + 6, k, none⟩ (.int .i64 left)).drew = w2 at *
            have hk1 := hT2.bnext
            have hw1 : IntKind.i64.wrap (many + 1) = many + 1 := by rw [IntKind.wrap_i64]; omega
            have hw2 : IntKind.i64.wrap (left - left) = 0 := by rw [IntKind.wrap_i64]; omega
            have hk2 := hT2.bgot
            go_wp2_with fail
            go_region_held3 (fun w' => (w'.cell? ⟨h + 8, 0, none⟩ = some (.func (.func 98) #[] #[.pointer (some ⟨h, 0, none⟩), .pointer (some ⟨h + 3, 0, none⟩), .pointer (some ⟨h + 7, 0, none⟩), .pointer (some ⟨h + 2, 0, none⟩), .pointer (some ⟨h + 5, 0, none⟩), .pointer (some ⟨h + 8, 0, none⟩)])) ∧ (w'.cell? ⟨h + 7, 0, none⟩ = some (.slice (some ⟨h + 6, 0, none⟩) xs.length xs.length)) ∧ (w'.cell? ⟨h + 6, k, none⟩ = some (.int .i64 left))) (first | go_keep | exact ⟨hn4, hg4, hk4⟩)
              (first | (go_at_call 98; refine (next_calls w0 h _ cap xs hI h0 hl hu f _ (many + 1) 0 (b + k * 7 ^ f) (came.set k true) ⟨s.got.set k left, s.out, s.ord⟩ (hT2.ext (Ext.refl _).drew) hx2.drew (by omega) (by omega) hstk.out (hbk.out) (by simpa using hcl) (by omega)).mono ?_; rintro e w4 ⟨⟨v4, rfl⟩, hT4, hx4⟩; have hn4 := hT4.bnext; have hg4 := hT4.bgot; have hk4 := (hT4.got k hlt).1; rw [hgk4.out] at hk4))
            all_goals
              have hT5 := hT4.setCame (by simpa using hcl) hlt false
              rw [set_back came k HC.out] at hT5
              have hx5 := hx4.setOwn ⟨h + 4, k, none⟩ (.bool false) (by simp; omega)
              have hb4 := hT4.bcame
              have hc4 := (hT4.came k hlt).2
              have hc5 := (hT4.came k hlt).1
              go_wp2_with fail
              refine ⟨⟨k + 1, _, by omega, rfl, hx5, hT5, Lib.hid ⟨?_, ?_⟩⟩, by simp only [intOf]; omega⟩
              · rw [foldl_range_succ, ← HS.out.1, stepP, if_neg (by rw [HC.out]; simp), HR.out, HM.out]
              · rw [hek.out]; exact hnk.out.1
      · obtain rfl : k = xs.length := by omega
        go_wp2_with fail
        go_end0
        refine ⟨⟨_, rfl⟩, ?_, hxr⟩
        have e : nextP xs (f + 1) left came st = s := by rw [HS.out.1]; rfl
        rw [e]
        exact hTr
end Go.Proofs.Ytcngecibljgndaa

/- inTurn: what it makes. -/
namespace Go.Proofs.Ytcngecibljgndaa
open Go.RowKit Go.Shelf
attribute [local go_sem] run_store_fn

theorem made_ints (n : Nat) : madeCells (Value.int .i64 0).cells n = Array.replicate n (.int .i64 0) := by
  refine Array.ext (by simp [madeCells]) (fun i h1 h2 => ?_)
  simp [madeCells, Value.cells, Nat.mod_one]
theorem make_ints (n : Nat) (hn : n ≤ 100000) (W : World) : (Instr.makeSlice 22 (.int .i64 n) (.int .i64 n)).run Try.prog W = .ok (.slice (some ⟨W.heap.size, 0, none⟩) n n) (W.alloc (.cells (Array.replicate n (.int .i64 0)) 3)) := by
  obtain ⟨i0, hi, hz0, hz1, hz2⟩ := info_parts info_int
  have := run_make (P := Try.prog) W 22 3 i0 (.int .i64 0) Try.underlying22 hi hz0 .i64 .i64 n n (by omega) (Int.le_refl _) (by rw [hz2]; omega) (by omega)
  rw [hz1, Nat.mul_one, made_ints] at this
  simpa using this
theorem made_bools (n : Nat) : madeCells (Value.bool false).cells n = Array.replicate n (.bool false) := by
  refine Array.ext (by simp [madeCells]) (fun i h1 h2 => ?_)
  simp [madeCells, Value.cells, Nat.mod_one]
theorem make_bools (n : Nat) (hn : n ≤ 100000) (W : World) : (Instr.makeSlice 88 (.int .i64 n) (.int .i64 n)).run Try.prog W = .ok (.slice (some ⟨W.heap.size, 0, none⟩) n n) (W.alloc (.cells (Array.replicate n (.bool false)) 4)) := by
  obtain ⟨i0, hi, hz0, hz1, hz2⟩ := info_parts info_bool
  have := run_make (P := Try.prog) W 88 4 i0 (.bool false) Try.underlying88 hi hz0 .i64 .i64 n n (by omega) (Int.le_refl _) (by rw [hz2]; omega) (by omega)
  rw [hz1, Nat.mul_one, made_bools] at this
  simpa using this

set_option maxRecDepth 100000 in
set_option maxHeartbeats 4000000 in
theorem inTurn_calls (w : World) (E : Int) (ao : Option Addr) (cap : Nat) (xs : List Int) (hI : IntsIn w ao xs) (hl : xs.length ≤ 7) (hu : Upto 100000 xs) (hE : 0 ≤ E ∧ E ≤ 1000000) :
    Calls Try.prog 58 #[.int .i64 E, .slice ao xs.length cap] w (MadeTwo w (inTurnP E xs)) := by
  have hm1 := make_ints xs.length (by omega)
  have hm2 := make_bools xs.length (by omega)
  have hent := enters_next
  go_enter Try.func58, Try.ntmps58
  go_wp2_with fail
  refine (next_calls w w.heap.size ao cap xs hI (Nat.le_refl _) hl hu xs.length _ 0 E 0 (List.replicate xs.length false) ⟨List.replicate xs.length 0, List.replicate xs.length 0, 0⟩ ?_ (by repeat (first | exact Ext.refl _ | assumption | refine Ext.alloc ?_ _ | refine Ext.drewN ?_ _ | refine Ext.drew ?_)) (by omega) (by omega) ?_ ?_ (by simp) hE).mono ?_
  · constructor
    · simp
    · simp [go_sem]
    · simp [go_sem]
    · simp [go_sem]
    · simp [go_sem]
    · simp [go_sem]
    · simp [go_sem]
    · intro k hk; simp [go_sem, hk, ith]
    · intro k hk; simp [go_sem, hk, bth]
    · intro k hk; simp [go_sem, hk, ith]
  · exact ⟨by simp, by simp, fun k hk => by simp [ith, hk], fun k hk => by simp [ith, hk], by simp⟩
  · have : (7 : Int) ^ xs.length ≤ 7 ^ 7 := by
      have : 7 ^ xs.length ≤ 7 ^ 7 := Nat.pow_le_pow_right (by omega) hl
      exact_mod_cast this
    omega
  · rintro e w5 ⟨⟨v5, rfl⟩, hT5, hx5⟩
    have hok := (next_ok xs hu hl xs.length E (List.replicate xs.length false) ⟨List.replicate xs.length 0, List.replicate xs.length 0, 0⟩ 0 hE.1 ⟨by simp, by simp, fun k hk => by simp [ith, hk], fun k hk => by simp [ith, hk], by simp⟩).1
    have hP : inTurnP E xs = ((nextP xs xs.length E (List.replicate xs.length false) ⟨List.replicate xs.length 0, List.replicate xs.length 0, 0⟩).out, (nextP xs xs.length E (List.replicate xs.length false) ⟨List.replicate xs.length 0, List.replicate xs.length 0, 0⟩).ord) := rfl
    generalize nextP xs xs.length E (List.replicate xs.length false) ⟨List.replicate xs.length 0, List.replicate xs.length 0, 0⟩ = s at *
    have hq1 : w5.cell? ⟨w.heap.size + 1 + 1, 0, none⟩ = some (.slice (some ⟨w.heap.size + 1, 0, none⟩) xs.length xs.length) := hT5.bout
    have hq2 : w5.cell? ⟨w.heap.size + 1 + 1 + 1, 0, none⟩ = some (.int .i64 s.ord) := hT5.bord.1
    have HP := Lib.hid hP
    clear hP
    go_wp2_with fail
    go_region
    go_wp2_with fail
    go_ret2
    rw [HP.out]
    have hol := hok.out
    have hsz := hT5.size
    refine ⟨_, rfl, ⟨xs.length, by simp [ints_length, hol], .inr ⟨w.heap.size + 1, 0, xs.length, rfl, by omega, by simp; omega, Nat.le_refl _, by unfold maxLen; omega, fun j hj => ?_, fun j hj => ?_⟩⟩, hx5.drew⟩
    · have := hT5.out j (by omega)
      simp only [Nat.zero_add, World.cell?_drew, World.frozen?_drew]
      exact ⟨by rw [this.1]; rfl, this.2⟩
    · have := hT5.out j (by omega)
      simp only [Nat.zero_add, World.cell?_drew]
      rw [this.1, ints_at _ _ (by omega)]
end Go.Proofs.Ytcngecibljgndaa
