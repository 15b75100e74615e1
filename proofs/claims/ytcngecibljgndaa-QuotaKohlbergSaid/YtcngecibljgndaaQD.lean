/- inTurn: the orders in which claimants can come, by a closure that calls itself. -/
import Derived.Test.YtcngecibljgndaaQB
namespace Go.Proofs.Ytcngecibljgndaa
open Go.RowKit Go.Shelf

/-- What the closure writes: what each one has got, the sums, and how many orders there were. -/
structure St where
  got : List Int
  out : List Int
  ord : Int
def addL (a b : List Int) : List Int := (List.range a.length).map fun k => ith a k + ith b k
def stepP (g : Int → List Bool → St → St) (xs : List Int) (left : Int) (came : List Bool) (st : St) (i : Nat) : St :=
  if bth came i = true then st else g (left - min (ith xs i) left) (came.set i true) ⟨st.got.set i (min (ith xs i) left), st.out, st.ord⟩
def nextP (xs : List Int) : Nat → Int → List Bool → St → St
  | 0, _, _, st => ⟨st.got, addL st.out st.got, st.ord + 1⟩
  | f + 1, left, came, st => (List.range xs.length).foldl (stepP (nextP xs f) xs left came) st
def inTurnP (E : Int) (xs : List Int) : List Int × Int :=
  let st := nextP xs xs.length E (List.replicate xs.length false) ⟨List.replicate xs.length 0, List.replicate xs.length 0, 0⟩
  (st.out, st.ord)

structure StOk (n : Nat) (st : St) (b : Int) : Prop where
  got : st.got.length = n
  out : st.out.length = n
  gotIn : ∀ k, k < n → 0 ≤ ith st.got k ∧ ith st.got k ≤ 100000
  outIn : ∀ k, k < n → 0 ≤ ith st.out k ∧ ith st.out k ≤ 100000 * st.ord
  ordIn : 0 ≤ st.ord ∧ st.ord ≤ b
theorem ith_map_range (f : Nat → Int) (n k : Nat) (h : k < n) : ith ((List.range n).map f) k = f k := by simp [ith, h]
theorem foldl_range_succ {α : Type} (f : α → Nat → α) (st : α) (k : Nat) : (List.range (k + 1)).foldl f st = f ((List.range k).foldl f st) k := by simp [List.range_succ, List.foldl_append]

theorem next_ok (xs : List Int) (hu : Upto 100000 xs) (hl : xs.length ≤ 7) : ∀ (f : Nat) (left : Int) (came : List Bool) (st : St) (b : Int), 0 ≤ left → StOk xs.length st b →
    StOk xs.length (nextP xs f left came st) (b + 7 ^ f) ∧ ∀ i, bth came i = true → ith (nextP xs f left came st).got i = ith st.got i
  | 0, left, came, st, b, _, h => by
    refine ⟨⟨h.got, by simp [nextP, addL, h.out], h.gotIn, fun k hk => ?_, ?_⟩, fun i _ => rfl⟩
    · have h1 := h.gotIn k hk
      have h2 := h.outIn k hk
      simp only [nextP, addL, h.out]
      rw [ith_map_range _ _ _ hk]
      omega
    · have := h.ordIn
      simp [nextP]; omega
  | f + 1, left, came, st, b, h0, h => by
    have key : ∀ k, k ≤ xs.length → StOk xs.length ((List.range k).foldl (stepP (nextP xs f) xs left came) st) (b + k * 7 ^ f) ∧ ∀ i, bth came i = true → ith ((List.range k).foldl (stepP (nextP xs f) xs left came) st).got i = ith st.got i := by
      intro k
      induction k with
      | zero => intro _; simpa using h
      | succ k ih =>
        intro hk
        obtain ⟨i1, i2⟩ := ih (by omega)
        rw [foldl_range_succ]
        generalize (List.range k).foldl (stepP (nextP xs f) xs left came) st = s at *
        have hp : (0 : Int) ≤ 7 ^ f := Int.pow_nonneg (by omega)
        have e : ((k + 1 : Nat) : Int) * 7 ^ f = k * 7 ^ f + 7 ^ f := by rw [Int.natCast_add, Int.add_mul]; simp
        rw [e]
        unfold stepP
        by_cases hc : bth came k = true
        · rw [if_pos hc]
          exact ⟨⟨i1.got, i1.out, i1.gotIn, i1.outIn, by have := i1.ordIn; omega⟩, i2⟩
        · rw [if_neg hc]
          have hx := hu.at_ k (by omega)
          have hg : StOk xs.length ⟨s.got.set k (min (ith xs k) left), s.out, s.ord⟩ (b + k * 7 ^ f) := by
            refine ⟨by simpa using i1.got, i1.out, fun j hj => ?_, i1.outIn, i1.ordIn⟩
            have := i1.gotIn j hj
            simp only []
            rw [ith_set _ _ _ _ (by rw [i1.got]; omega)]
            split <;> omega
          obtain ⟨j1, j2⟩ := next_ok xs hu hl f (left - min (ith xs k) left) (came.set k true) _ _ (by omega) hg
          refine ⟨by rw [← Int.add_assoc]; exact j1, fun i hi => ?_⟩
          have hik : i ≠ k := by rintro rfl; exact hc hi
          rw [j2 i (by
            unfold bth at hi ⊢
            simp only [List.getD_eq_getElem?_getD] at hi ⊢
            rw [List.getElem?_set_ne (fun e => hik e.symm)]
            exact hi)]
          simp only []
          rw [ith_set _ _ _ _ (by rw [i1.got]; omega), if_neg hik]
          exact i2 i hi
    obtain ⟨k1, k2⟩ := key xs.length (Nat.le_refl _)
    refine ⟨⟨k1.got, k1.out, k1.gotIn, k1.outIn, k1.ordIn.1, ?_⟩, k2⟩
    have := k1.ordIn.2
    have hp : (0 : Int) ≤ 7 ^ f := Int.pow_nonneg (by omega)
    have h7 : (xs.length : Int) * 7 ^ f ≤ 7 * 7 ^ f := Int.mul_le_mul_of_nonneg_right (by omega) hp
    have e : (7 : Int) ^ (f + 1) = 7 * 7 ^ f := by rw [Int.pow_succ]; omega
    rw [e]
    simp only [nextP]
    omega

/-- The closure's memory: nine blocks from h on. -/
structure Turn (w : World) (h : Nat) (ao : Option Addr) (cap : Nat) (xs : List Int) (came : List Bool) (st : St) : Prop where
  size : h + 9 ≤ w.heap.size
  claims : w.cell? ⟨h, 0, none⟩ = some (.slice ao xs.length cap)
  bout : w.cell? ⟨h + 2, 0, none⟩ = some (.slice (some ⟨h + 1, 0, none⟩) xs.length xs.length)
  bord : w.cell? ⟨h + 3, 0, none⟩ = some (.int .i64 st.ord) ∧ w.frozen? ⟨h + 3, 0, none⟩ = false
  bcame : w.cell? ⟨h + 5, 0, none⟩ = some (.slice (some ⟨h + 4, 0, none⟩) xs.length xs.length)
  bgot : w.cell? ⟨h + 7, 0, none⟩ = some (.slice (some ⟨h + 6, 0, none⟩) xs.length xs.length)
  bnext : w.cell? ⟨h + 8, 0, none⟩ = some (.func (.func 98) #[] #[.pointer (some ⟨h, 0, none⟩), .pointer (some ⟨h + 3, 0, none⟩), .pointer (some ⟨h + 7, 0, none⟩), .pointer (some ⟨h + 2, 0, none⟩), .pointer (some ⟨h + 5, 0, none⟩), .pointer (some ⟨h + 8, 0, none⟩)])
  out : ∀ k, k < xs.length → w.cell? ⟨h + 1, k, none⟩ = some (.int .i64 (ith st.out k)) ∧ w.frozen? ⟨h + 1, k, none⟩ = false
  came : ∀ k, k < xs.length → w.cell? ⟨h + 4, k, none⟩ = some (.bool (bth came k)) ∧ w.frozen? ⟨h + 4, k, none⟩ = false
  got : ∀ k, k < xs.length → w.cell? ⟨h + 6, k, none⟩ = some (.int .i64 (ith st.got k)) ∧ w.frozen? ⟨h + 6, k, none⟩ = false
theorem Turn.ext {w w' : World} {h : Nat} {ao : Option Addr} {cap : Nat} {xs : List Int} {came : List Bool} {st : St} (hT : Turn w h ao cap xs came st) (hx : Ext w w') : Turn w' h ao cap xs came st := by
  have hs := hT.size
  have c : ∀ d k, d < 9 → w'.cell? ⟨h + d, k, none⟩ = w.cell? ⟨h + d, k, none⟩ := fun d k hd => hx.cell (by show h + d < _; omega)
  have f : ∀ d k, d < 9 → w'.frozen? ⟨h + d, k, none⟩ = w.frozen? ⟨h + d, k, none⟩ := fun d k hd => hx.frozen (by show h + d < _; omega)
  exact ⟨Nat.le_trans hs hx.size, (c 0 0 (by omega)).trans hT.claims, (c 2 0 (by omega)).trans hT.bout, ⟨(c 3 0 (by omega)).trans hT.bord.1, (f 3 0 (by omega)).trans hT.bord.2⟩, (c 5 0 (by omega)).trans hT.bcame, (c 7 0 (by omega)).trans hT.bgot, (c 8 0 (by omega)).trans hT.bnext,
    fun k hk => ⟨(c 1 k (by omega)).trans (hT.out k hk).1, (f 1 k (by omega)).trans (hT.out k hk).2⟩, fun k hk => ⟨(c 4 k (by omega)).trans (hT.came k hk).1, (f 4 k (by omega)).trans (hT.came k hk).2⟩, fun k hk => ⟨(c 6 k (by omega)).trans (hT.got k hk).1, (f 6 k (by omega)).trans (hT.got k hk).2⟩⟩

theorem cell_else {w : World} {h d d' k k' : Nat} {u : Value} (hd : d ≠ d') : (w.setCell ⟨h + d, k, none⟩ u).cell? ⟨h + d', k', none⟩ = w.cell? ⟨h + d', k', none⟩ :=
  World.cell?_setCell_other _ _ _ _ (fun e => by simp only [Addr.mk.injEq] at e; omega)
theorem cell_else0 {w : World} {h d k k' : Nat} {u : Value} (hd : 0 < d) : (w.setCell ⟨h + d, k, none⟩ u).cell? ⟨h, k', none⟩ = w.cell? ⟨h, k', none⟩ :=
  World.cell?_setCell_other _ _ _ _ (fun e => by simp only [Addr.mk.injEq] at e; omega)
theorem cell_at_set {w : World} {b k k' : Nat} {u v : Value} {F : Value} (hc : w.cell? ⟨b, k', none⟩ = some v) (hF : F = if k' = k then u else v) : (w.setCell ⟨b, k, none⟩ u).cell? ⟨b, k', none⟩ = some F := by
  subst hF
  by_cases e : k' = k
  · subst e; rw [if_pos rfl]; exact World.cell?_setCell_same _ _ _ hc
  · rw [if_neg e, World.cell?_setCell_other _ _ _ _ (fun e2 => e (by simp only [Addr.mk.injEq] at e2; exact e2.2.1.symm)), hc]
theorem Turn.setCame {w : World} {h : Nat} {ao : Option Addr} {cap : Nat} {xs : List Int} {came : List Bool} {st : St} (hT : Turn w h ao cap xs came st) (hl : came.length = xs.length) {i : Nat} (hi : i < xs.length) (b : Bool) :
    Turn (w.setCell ⟨h + 4, i, none⟩ (.bool b)) h ao cap xs (came.set i b) st :=
  ⟨by simpa [World.setCell] using hT.size, (cell_else0 (by omega)).trans hT.claims, (cell_else (by omega)).trans hT.bout, ⟨(cell_else (by omega)).trans hT.bord.1, by rw [World.frozen?_setCell]; exact hT.bord.2⟩, (cell_else (by omega)).trans hT.bcame, (cell_else (by omega)).trans hT.bgot, (cell_else (by omega)).trans hT.bnext,
    fun k hk => ⟨(cell_else (by omega)).trans (hT.out k hk).1, by rw [World.frozen?_setCell]; exact (hT.out k hk).2⟩,
    fun k hk => ⟨cell_at_set (hT.came k hk).1 (by rw [bth_set _ _ _ _ (by omega)]; split <;> rfl), by rw [World.frozen?_setCell]; exact (hT.came k hk).2⟩,
    fun k hk => ⟨(cell_else (by omega)).trans (hT.got k hk).1, by rw [World.frozen?_setCell]; exact (hT.got k hk).2⟩⟩
theorem Turn.setGot {w : World} {h : Nat} {ao : Option Addr} {cap : Nat} {xs : List Int} {came : List Bool} {st : St} (hT : Turn w h ao cap xs came st) (hl : st.got.length = xs.length) {i : Nat} (hi : i < xs.length) (u : Int) :
    Turn (w.setCell ⟨h + 6, i, none⟩ (.int .i64 u)) h ao cap xs came ⟨st.got.set i u, st.out, st.ord⟩ :=
  ⟨by simpa [World.setCell] using hT.size, (cell_else0 (by omega)).trans hT.claims, (cell_else (by omega)).trans hT.bout, ⟨(cell_else (by omega)).trans hT.bord.1, by rw [World.frozen?_setCell]; exact hT.bord.2⟩, (cell_else (by omega)).trans hT.bcame, (cell_else (by omega)).trans hT.bgot, (cell_else (by omega)).trans hT.bnext,
    fun k hk => ⟨(cell_else (by omega)).trans (hT.out k hk).1, by rw [World.frozen?_setCell]; exact (hT.out k hk).2⟩,
    fun k hk => ⟨(cell_else (by omega)).trans (hT.came k hk).1, by rw [World.frozen?_setCell]; exact (hT.came k hk).2⟩,
    fun k hk => ⟨cell_at_set (hT.got k hk).1 (by simp only []; rw [ith_set _ _ _ _ (by omega)]; split <;> rfl), by rw [World.frozen?_setCell]; exact (hT.got k hk).2⟩⟩
theorem Turn.setOut {w : World} {h : Nat} {ao : Option Addr} {cap : Nat} {xs : List Int} {came : List Bool} {st : St} (hT : Turn w h ao cap xs came st) (hl : st.out.length = xs.length) {i : Nat} (hi : i < xs.length) (u : Int) :
    Turn (w.setCell ⟨h + 1, i, none⟩ (.int .i64 u)) h ao cap xs came ⟨st.got, st.out.set i u, st.ord⟩ :=
  ⟨by simpa [World.setCell] using hT.size, (cell_else0 (by omega)).trans hT.claims, (cell_else (by omega)).trans hT.bout, ⟨(cell_else (by omega)).trans hT.bord.1, by rw [World.frozen?_setCell]; exact hT.bord.2⟩, (cell_else (by omega)).trans hT.bcame, (cell_else (by omega)).trans hT.bgot, (cell_else (by omega)).trans hT.bnext,
    fun k hk => ⟨cell_at_set (hT.out k hk).1 (by simp only []; rw [ith_set _ _ _ _ (by omega)]; split <;> rfl), by rw [World.frozen?_setCell]; exact (hT.out k hk).2⟩,
    fun k hk => ⟨(cell_else (by omega)).trans (hT.came k hk).1, by rw [World.frozen?_setCell]; exact (hT.came k hk).2⟩,
    fun k hk => ⟨(cell_else (by omega)).trans (hT.got k hk).1, by rw [World.frozen?_setCell]; exact (hT.got k hk).2⟩⟩
theorem Turn.setOrd {w : World} {h : Nat} {ao : Option Addr} {cap : Nat} {xs : List Int} {came : List Bool} {st : St} (hT : Turn w h ao cap xs came st) (u : Int) :
    Turn (w.setCell ⟨h + 3, 0, none⟩ (.int .i64 u)) h ao cap xs came ⟨st.got, st.out, u⟩ :=
  ⟨by simpa [World.setCell] using hT.size, (cell_else0 (by omega)).trans hT.claims, (cell_else (by omega)).trans hT.bout, ⟨cell_at_set hT.bord.1 (by simp), by rw [World.frozen?_setCell]; exact hT.bord.2⟩, (cell_else (by omega)).trans hT.bcame, (cell_else (by omega)).trans hT.bgot, (cell_else (by omega)).trans hT.bnext,
    fun k hk => ⟨(cell_else (by omega)).trans (hT.out k hk).1, by rw [World.frozen?_setCell]; exact (hT.out k hk).2⟩,
    fun k hk => ⟨(cell_else (by omega)).trans (hT.came k hk).1, by rw [World.frozen?_setCell]; exact (hT.came k hk).2⟩,
    fun k hk => ⟨(cell_else (by omega)).trans (hT.got k hk).1, by rw [World.frozen?_setCell]; exact (hT.got k hk).2⟩⟩
end Go.Proofs.Ytcngecibljgndaa
