/- The tableau of a game: what a pivot keeps, and that its run ends; plain. -/
import Derived.Test.YtefmioppamdceaaDoorMLC
import Derived.Test.YtefmioppamdceaaDoorMWQ
namespace Go.Proofs.YtefmioppamdceaaDoor

/-- A tableau: the basis, the entries (row n is the goal), the divisor. -/
structure GT where
  J : Nat → Nat
  R : Nat → Nat → Int
  b : Int
/-- The entries at the beginning. -/
def ent0 (n m : Nat) (A : Nat → Nat → Int) (i l : Nat) : Int := if l < m then A i l else if l = m + n then 1 else if l = m + i then 1 else 0
def cost0 (m l : Nat) : Int := if l < m then -1 else 0
def GT.start (n m : Nat) (A : Nat → Nat → Int) : GT := ⟨fun i => m + i, fun i l => if i < n then ent0 n m A i l else cost0 m l, 1⟩
def GT.pivot (T : GT) (i j : Nat) : GT := ⟨upd T.J i j, pivR T.R T.b i j, T.R i j⟩
/-- The first place below k with a number below 0. -/
def firstNeg (f : Nat → Int) : Nat → Option Nat
  | 0 => none
  | k + 1 => match firstNeg f k with | some l => some l | none => if f k < 0 then some k else none
/-- Row a is before row o. -/
def lessG (T : GT) (last a o j : Nat) : Prop := T.R a last * T.R o j < T.R o last * T.R a j ∨ (T.R a last * T.R o j = T.R o last * T.R a j ∧ T.J a < T.J o)
instance (T : GT) (last a o j : Nat) : Decidable (lessG T last a o j) := by unfold lessG; infer_instance
def outG (T : GT) (last j : Nat) : Nat → Option Nat
  | 0 => none
  | k + 1 => match outG T last j k with
    | none => if 0 < T.R k j then some k else none
    | some o => if 0 < T.R k j ∧ lessG T last k o j then some k else some o
def runG (n m : Nat) : Nat → GT → Option GT
  | 0, _ => none
  | f + 1, T => match firstNeg (T.R n) (m + n) with
    | none => some T
    | some j => match outG T (m + n) j n with
      | none => none
      | some o => runG n m f (T.pivot o j)

theorem firstNeg_spec (f : Nat → Int) : ∀ k, match firstNeg f k with
    | none => ∀ l, l < k → 0 ≤ f l
    | some j => j < k ∧ f j < 0 ∧ ∀ l, l < j → 0 ≤ f l
  | 0 => by simp [firstNeg]
  | k + 1 => by
    have ih := firstNeg_spec f k
    rw [firstNeg]
    cases h : firstNeg f k with
    | some l =>
      rw [h] at ih
      exact ⟨by have := ih.1; omega, ih.2.1, ih.2.2⟩
    | none =>
      rw [h] at ih
      simp only []
      split
      · rename_i j hj
        split at hj
        · simp at hj
        · intro l hl
          by_cases e : l = k
          · subst e; omega
          · exact ih l (by omega)
      · rename_i j hj
        split at hj
        · rename_i hk
          simp only [Option.some.injEq] at hj
          subst hj
          exact ⟨by omega, hk, ih⟩
        · simp at hj
/-- Row o is before row x, by the ratio and then by the basis. -/
def BeforeG (T : GT) (last j o x : Nat) : Prop := T.R o last * T.R x j < T.R x last * T.R o j ∨ (T.R o last * T.R x j = T.R x last * T.R o j ∧ T.J o ≤ T.J x)
theorem frac_lt_left {x y z p q r : Int} (hq : 0 < q) (hp : 0 < p) (hr : 0 < r) (h1 : x * q < y * p) (h2 : y * r ≤ z * q) : x * r < z * p := by
  have h3 : x * q * r < y * p * r := Int.mul_lt_mul_of_pos_right h1 hr
  have h4 : y * r * p ≤ z * q * p := Int.mul_le_mul_of_nonneg_right h2 (by omega)
  have e1 : x * r * q = x * q * r := Int.mul_right_comm _ _ _
  have e2 : z * p * q = z * q * p := Int.mul_right_comm _ _ _
  have e3 : y * p * r = y * r * p := Int.mul_right_comm _ _ _
  exact Int.lt_of_mul_lt_mul_right (a := q) (by omega) (by omega)
theorem frac_lt_right {x y z p q r : Int} (hq : 0 < q) (hp : 0 < p) (hr : 0 < r) (h1 : x * q ≤ y * p) (h2 : y * r < z * q) : x * r < z * p := by
  have h3 : x * q * r ≤ y * p * r := Int.mul_le_mul_of_nonneg_right h1 (by omega)
  have h4 : y * r * p < z * q * p := Int.mul_lt_mul_of_pos_right h2 hp
  have e1 : x * r * q = x * q * r := Int.mul_right_comm _ _ _
  have e2 : z * p * q = z * q * p := Int.mul_right_comm _ _ _
  have e3 : y * p * r = y * r * p := Int.mul_right_comm _ _ _
  exact Int.lt_of_mul_lt_mul_right (a := q) (by omega) (by omega)
theorem beforeG_trans {T : GT} {last j p o x : Nat} (h1 : 0 < T.R p j) (h2 : 0 < T.R o j) (h3 : 0 < T.R x j) (a : BeforeG T last j p o) (b : BeforeG T last j o x) : BeforeG T last j p x := by
  rcases a with a | ⟨a, a2⟩ <;> rcases b with b | ⟨b, b2⟩
  · exact .inl (frac_lt_left h2 h1 h3 a (by omega))
  · exact .inl (frac_lt_left h2 h1 h3 a (by omega))
  · exact .inl (frac_lt_right h2 h1 h3 (by omega) b)
  · refine .inr ⟨?_, by omega⟩
    have x1 := frac_trans h2 h1 h3 (Int.le_of_eq a) (Int.le_of_eq b)
    have x2 := frac_trans (x := T.R x last) (y := T.R o last) (z := T.R p last) h2 h3 h1 (Int.le_of_eq b.symm) (Int.le_of_eq a.symm)
    omega
theorem outG_spec (T : GT) (last j : Nat) : ∀ k, match outG T last j k with
    | none => ∀ x, x < k → T.R x j ≤ 0
    | some o => o < k ∧ 0 < T.R o j ∧ ∀ x, x < k → 0 < T.R x j → BeforeG T last j o x
  | 0 => by simp [outG]
  | k + 1 => by
    have ih := outG_spec T last j k
    rw [outG]
    cases ho : outG T last j k with
    | none =>
      rw [ho] at ih
      simp only []
      by_cases hk : 0 < T.R k j
      · rw [if_pos hk]
        refine ⟨by omega, hk, fun x hx hp => ?_⟩
        by_cases e : x = k
        · rw [e]; exact .inr ⟨rfl, Nat.le_refl _⟩
        · have := ih x (by omega); omega
      · rw [if_neg hk]
        intro x hx
        by_cases e : x = k
        · rw [e]; omega
        · exact ih x (by omega)
    | some o =>
      rw [ho] at ih
      simp only []
      obtain ⟨i1, i2, i3⟩ := ih
      by_cases hk : 0 < T.R k j ∧ lessG T last k o j
      · rw [if_pos hk]
        have hbf : BeforeG T last j k o := by
          rcases hk.2 with h | ⟨h, h2⟩
          · exact .inl h
          · exact .inr ⟨h, by omega⟩
        refine ⟨by omega, hk.1, fun x hx hp => ?_⟩
        by_cases e : x = k
        · rw [e]; exact .inr ⟨rfl, Nat.le_refl _⟩
        · exact beforeG_trans hk.1 i2 hp hbf (i3 x (by omega) hp)
      · rw [if_neg hk]
        refine ⟨by omega, i2, fun x hx hp => ?_⟩
        by_cases e : x = k
        · subst e
          have h1 : ¬ lessG T last x o j := fun h => hk ⟨hp, h⟩
          unfold lessG at h1
          simp only [not_or, not_and, Int.not_lt, Nat.not_lt] at h1
          unfold BeforeG
          rcases Int.lt_trichotomy (T.R o last * T.R x j) (T.R x last * T.R o j) with h2 | h2 | h2
          · exact .inl h2
          · exact .inr ⟨h2, h1.2 h2.symm⟩
          · omega
        · exact i3 x (by omega) hp
end Go.Proofs.YtefmioppamdceaaDoor

/- Entries behind pointers, rows of them, tableaus of them: in memory. -/
namespace Go.Proofs.YtefmioppamdceaaDoor
open Go.RowKit Go.Shelf

/-- What neither digits nor numbers nor rows begin with. -/
structure Odd (v : Value) : Prop where
  u : ∀ x, v ≠ .int .u32 x
  b : ∀ x, v ≠ .bool x
theorem Odd.slice (a : Option Addr) (n c : Nat) : Odd (.slice a n c) := ⟨fun x => by simp, fun x => by simp⟩
theorem Odd.int (x : Int) : Odd (.int .i64 x) := ⟨fun x => by simp, fun x => by simp⟩
theorem Odd.ptr (a : Option Addr) : Odd (.pointer a) := ⟨fun x => by simp, fun x => by simp⟩
theorem WNum.farK {w w' : World} {ao : Option Addr} {A c n k : Nat} {v : Value} (h : WNum w ao A c n) (h0 : w.cell? ⟨k, 0, none⟩ = some v) (hv : Odd v) (hg : w.grownBy w' (some k)) : WNum w' ao A c n := by
  refine ⟨h.many, h.cap, h.ints.grown hg (fun p hp hl => ?_)⟩
  intro e
  simp only [Option.some.injEq] at e
  obtain ⟨x, l, hxl⟩ : ∃ x l, W.digs n = x :: l := by
    cases hd : W.digs n with
    | nil => exact absurd hd hl
    | cons x l => exact ⟨x, l, rfl⟩
  obtain ⟨g, h1, h2, h3⟩ := h.ints 0 (by rw [hxl]; simp)
  rw [hp, Option.some.injEq] at h1
  subst h1
  simp only [] at e
  subst e
  rw [h0] at h3
  exact hv.u _ (Option.some.inj h3)
theorem BigAt.ne {w : World} {a k : Nat} {z : Int} {v : Value} (h : BigAt w a z) (h0 : w.cell? ⟨k, 0, none⟩ = some v) (hv : Odd v) : a ≠ k := by
  intro e
  subst e
  rw [h.sign] at h0
  exact hv.b _ (Option.some.inj h0).symm
theorem BigAt.farK {w w' : World} {a k : Nat} {z : Int} {v : Value} (h : BigAt w a z) (h0 : w.cell? ⟨k, 0, none⟩ = some v) (hv : Odd v) (hg : w.grownBy w' (some k)) : BigAt w' a z := by
  have hak := h.ne h0 hv
  obtain ⟨⟨-, -, h2, h3, h4⟩, s0, ao, A, c, h1, hN⟩ := h
  have hne : ∀ o, some (⟨a, o, none⟩ : Addr).block ≠ some k := fun o => by simp only [ne_eq, Option.some.injEq]; exact hak
  have k0 := (grownBy_cell hg (p := ⟨a, 0, none⟩) h4 (hne 0)).trans s0
  have k1 := (grownBy_cell hg (p := ⟨a, 1, none⟩) h4 (hne 1)).trans h1
  exact ⟨⟨⟨_, k0⟩, ⟨_, k1⟩, (grownBy_frozen hg (p := ⟨a, 0, none⟩) h4 (hne 0)).trans h2, (grownBy_frozen hg (p := ⟨a, 1, none⟩) h4 (hne 1)).trans h3, Nat.lt_of_lt_of_le h4 hg.size⟩, k0, ao, A, c, k1, hN.farK h0 hv hg⟩
/-- A cell holds a pointer to a number. -/
def EntC (w : World) (p : Addr) (z : Int) : Prop := ∃ a, w.cell? p = some (.pointer (some ⟨a, 0, none⟩)) ∧ BigAt w a z
theorem EntC.ext {w w' : World} {p : Addr} {z : Int} (h : EntC w p z) (hp : p.block < w.heap.size) (hx : Ext w w') : EntC w' p z := by
  obtain ⟨a, h1, h2⟩ := h
  exact ⟨a, (hx.cell hp).trans h1, h2.ext hx⟩
theorem EntC.farK {w w' : World} {p : Addr} {z : Int} {k : Nat} {v : Value} (h : EntC w p z) (hp : p.block < w.heap.size) (hne : p.block ≠ k) (h0 : w.cell? ⟨k, 0, none⟩ = some v) (hv : Odd v) (hg : w.grownBy w' (some k)) : EntC w' p z := by
  obtain ⟨a, h1, h2⟩ := h
  exact ⟨a, (grownBy_cell hg hp (by simp only [ne_eq, Option.some.injEq]; exact hne)).trans h1, h2.farK h0 hv hg⟩
/-- A row of entries. -/
structure RowB (w : World) (b L : Nat) (f : Nat → Int) : Prop where
  lt : b < w.heap.size
  ent : ∀ l, l < L → EntC w ⟨b, l, none⟩ (f l)
theorem RowB.ext {w w' : World} {b L : Nat} {f : Nat → Int} (h : RowB w b L f) (hx : Ext w w') : RowB w' b L f :=
  ⟨Nat.lt_of_lt_of_le h.lt hx.size, fun l hl => (h.ent l hl).ext h.lt hx⟩
theorem RowB.farK {w w' : World} {b L k : Nat} {f : Nat → Int} {v : Value} (h : RowB w b L f) (hL : 0 < L) (h0 : w.cell? ⟨k, 0, none⟩ = some v) (hv : Odd v) (hp : ∀ a, v ≠ .pointer a) (hg : w.grownBy w' (some k)) : RowB w' b L f := by
  have hbk : b ≠ k := by
    intro e
    subst e
    obtain ⟨a, h1, -⟩ := h.ent 0 hL
    rw [h0] at h1
    exact hp _ (Option.some.inj h1)
  exact ⟨Nat.lt_of_lt_of_le h.lt hg.size, fun l hl => (h.ent l hl).farK h.lt hbk h0 hv hg⟩
theorem RowB.congr {w : World} {b L : Nat} {f g : Nat → Int} (h : RowB w b L f) (e : ∀ l, l < L → f l = g l) : RowB w b L g := ⟨h.lt, fun l hl => by rw [← e l hl]; exact h.ent l hl⟩
/-- A row that is being made: its first entries are there. -/
structure RowN (w : World) (b L c : Nat) (f : Nat → Int) : Prop where
  lt : b < w.heap.size
  ent : ∀ l, l < c → EntC w ⟨b, l, none⟩ (f l)
  all : ∀ l, l < L → (∃ p, w.cell? ⟨b, l, none⟩ = some (.pointer p)) ∧ w.frozen? ⟨b, l, none⟩ = false
theorem RowN.ext {w w' : World} {b L c : Nat} {f : Nat → Int} (h : RowN w b L c f) (hx : Ext w w') : RowN w' b L c f :=
  ⟨Nat.lt_of_lt_of_le h.lt hx.size, fun l hl => (h.ent l hl).ext h.lt hx, fun l hl => by
    obtain ⟨⟨p, h1⟩, h2⟩ := h.all l hl
    exact ⟨⟨p, (hx.cell (p := ⟨b, l, none⟩) h.lt).trans h1⟩, (hx.frozen (p := ⟨b, l, none⟩) h.lt).trans h2⟩⟩
theorem RowN.put {w : World} {b L c a : Nat} {f : Nat → Int} (h : RowN w b L c f) (hc : c < L) (hB : BigAt w a (f c)) : RowN (w.setCell ⟨b, c, none⟩ (.pointer (some ⟨a, 0, none⟩))) b L (c + 1) f := by
  obtain ⟨⟨p0, hp0⟩, -⟩ := h.all 0 (by omega)
  obtain ⟨⟨pc, hpc⟩, -⟩ := h.all c hc
  have hg := grownBy_setCell w ⟨b, c, none⟩ (.pointer (some ⟨a, 0, none⟩))
  have hne : ∀ l, l ≠ c → (w.setCell ⟨b, c, none⟩ (.pointer (some ⟨a, 0, none⟩))).cell? ⟨b, l, none⟩ = w.cell? ⟨b, l, none⟩ := fun l hl => World.cell?_setCell_other _ _ _ _ (fun e => hl (by simp only [Addr.mk.injEq, and_true, true_and] at e; exact e.symm))
  refine ⟨by simpa [World.setCell] using h.lt, fun l hl => ?_, fun l hl => ⟨?_, ?_⟩⟩
  · by_cases e : l = c
    · subst e
      exact ⟨a, World.cell?_setCell_same _ _ _ hpc, hB.farK hp0 (Odd.ptr _) hg⟩
    · obtain ⟨a2, h1, h2⟩ := h.ent l (by omega)
      exact ⟨a2, (hne l e).trans h1, h2.farK hp0 (Odd.ptr _) hg⟩
  · by_cases e : l = c
    · subst e; exact ⟨_, World.cell?_setCell_same _ _ _ hpc⟩
    · obtain ⟨⟨p, h1⟩, -⟩ := h.all l hl
      exact ⟨p, (hne l e).trans h1⟩
  · rw [World.frozen?_setCell]; exact (h.all l hl).2
theorem RowN.full {w : World} {b L : Nat} {f : Nat → Int} (h : RowN w b L L f) : RowB w b L f := ⟨h.lt, h.ent⟩
theorem RowN.made (w : World) (L : Nat) (T : TypeId) (f : Nat → Int) : RowN (w.alloc (Obj.cells (Array.replicate L (.pointer none)) T)) w.heap.size L 0 f :=
  ⟨by simp, fun l hl => absurd hl (by omega), fun l hl => ⟨⟨none, by simp [go_sem, hl]⟩, by simp [go_sem]⟩⟩
/-- Where a tableau lies. -/
structure GAt where
  t : Nat
  rg : Nat
  rc : Nat
  bg : Nat
  bc : Nat
/-- A tableau in memory. -/
structure TabG (w : World) (B : Nat) (P : GAt) (n L : Nat) (T : GT) : Prop where
  tIn : B ≤ P.t ∧ P.t < w.heap.size
  rgIn : B ≤ P.rg ∧ P.rg < w.heap.size
  bgIn : B ≤ P.bg ∧ P.bg < w.heap.size
  c0 : w.cell? ⟨P.t, 0, none⟩ = some (.slice (some ⟨P.rg, 0, none⟩) (n + 1) P.rc)
  c1 : w.cell? ⟨P.t, 1, none⟩ = some (.slice (some ⟨P.bg, 0, none⟩) n P.bc)
  c2 : EntC w ⟨P.t, 2, none⟩ T.b
  free : ∀ k, k ≤ 2 → w.frozen? ⟨P.t, k, none⟩ = false
  rowC : ∀ k, k ≤ n → ∃ b, w.cell? ⟨P.rg, k, none⟩ = some (.slice (some ⟨b, 0, none⟩) L L) ∧ RowB w b L (T.R k)
  rowF : ∀ k, k ≤ n → w.frozen? ⟨P.rg, k, none⟩ = false
  basC : ∀ i, i < n → w.cell? ⟨P.bg, i, none⟩ = some (.int .i64 (T.J i)) ∧ w.frozen? ⟨P.bg, i, none⟩ = false
  ap : P.t ≠ P.rg ∧ P.t ≠ P.bg ∧ P.rg ≠ P.bg
  caps : n + 1 ≤ P.rc ∧ P.rc ≤ 9223372036854775807 ∧ n ≤ P.bc ∧ P.bc ≤ 9223372036854775807
  n0 : 0 < n
  L0 : 0 < L
section
variable {w w' : World} {B : Nat} {P : GAt} {n L : Nat} {T : GT}
theorem TabG.ext (h : TabG w B P n L T) (hx : Ext w w') : TabG w' B P n L T := by
  have hs := hx.size
  have t2 := h.tIn.2
  have r2 := h.rgIn.2
  have b2 := h.bgIn.2
  exact ⟨⟨h.tIn.1, by omega⟩, ⟨h.rgIn.1, by omega⟩, ⟨h.bgIn.1, by omega⟩, (hx.cell (p := ⟨P.t, 0, none⟩) t2).trans h.c0, (hx.cell (p := ⟨P.t, 1, none⟩) t2).trans h.c1, h.c2.ext t2 hx,
    fun k hk => (hx.frozen (p := ⟨P.t, k, none⟩) t2).trans (h.free k hk),
    fun k hk => by
      obtain ⟨b, h1, h2⟩ := h.rowC k hk
      exact ⟨b, (hx.cell (p := ⟨P.rg, k, none⟩) r2).trans h1, h2.ext hx⟩,
    fun k hk => (hx.frozen (p := ⟨P.rg, k, none⟩) r2).trans (h.rowF k hk),
    fun i hi => ⟨(hx.cell (p := ⟨P.bg, i, none⟩) b2).trans (h.basC i hi).1, (hx.frozen (p := ⟨P.bg, i, none⟩) b2).trans (h.basC i hi).2⟩, h.ap, h.caps, h.n0, h.L0⟩
theorem TabG.congr (h : TabG w B P n L T) {T' : GT} (hJ : ∀ i, i < n → T'.J i = T.J i) (hb : T'.b = T.b) (hR : ∀ q, q ≤ n → ∀ l, l < L → T'.R q l = T.R q l) : TabG w B P n L T' :=
  ⟨h.tIn, h.rgIn, h.bgIn, h.c0, h.c1, by rw [hb]; exact h.c2, h.free, fun k hk => by
    obtain ⟨b, h1, h2⟩ := h.rowC k hk
    exact ⟨b, h1, h2.congr (fun l hl => (hR k hk l hl).symm)⟩, h.rowF, fun i hi => by rw [hJ i hi]; exact h.basC i hi, h.ap, h.caps, h.n0, h.L0⟩
/-- A row is put in. -/
theorem TabG.setRow (h : TabG w B P n L T) {k b : Nat} {f : Nat → Int} (hk : k ≤ n) (hB : RowB w b L f) {T' : GT} (hJ : ∀ i, i < n → T'.J i = T.J i) (hb : T'.b = T.b) (hR : ∀ q, q ≤ n → ∀ l, l < L → T'.R q l = if q = k then f l else T.R q l) :
    TabG (w.setCell ⟨P.rg, k, none⟩ (.slice (some ⟨b, 0, none⟩) L L)) B P n L T' := by
  have t2 := h.tIn.2
  have r2 := h.rgIn.2
  have b2 := h.bgIn.2
  obtain ⟨r0, hr0, -⟩ := h.rowC 0 (by omega)
  obtain ⟨rk, hrk, -⟩ := h.rowC k hk
  have hg := grownBy_setCell w ⟨P.rg, k, none⟩ (.slice (some ⟨b, 0, none⟩) L L)
  have e : (w.setCell ⟨P.rg, k, none⟩ (.slice (some ⟨b, 0, none⟩) L L)).heap.size = w.heap.size := by simp [World.setCell]
  have c : ∀ d o, d ≠ P.rg → (w.setCell ⟨P.rg, k, none⟩ (.slice (some ⟨b, 0, none⟩) L L)).cell? ⟨d, o, none⟩ = w.cell? ⟨d, o, none⟩ := fun d o hn => World.cell?_setCell_other _ _ _ _ (fun e => hn (by simp only [Addr.mk.injEq] at e; exact e.1.symm))
  have hfar : ∀ {d : Nat} {g : Nat → Int}, RowB w d L g → RowB (w.setCell ⟨P.rg, k, none⟩ (.slice (some ⟨b, 0, none⟩) L L)) d L g := fun hd => hd.farK h.L0 hr0 (Odd.slice _ _ _) (fun _ => by simp) hg
  refine ⟨by rw [e]; exact h.tIn, by rw [e]; exact h.rgIn, by rw [e]; exact h.bgIn, (c _ _ h.ap.1).trans h.c0, (c _ _ h.ap.1).trans h.c1, by rw [hb]; exact h.c2.farK t2 h.ap.1 hr0 (Odd.slice _ _ _) hg, fun q hq => by rw [World.frozen?_setCell]; exact h.free q hq,
    fun q hq => ?_, fun q hq => by rw [World.frozen?_setCell]; exact h.rowF q hq, fun i hi => ⟨by rw [hJ i hi]; exact (c _ _ (Ne.symm h.ap.2.2)).trans (h.basC i hi).1, by rw [World.frozen?_setCell]; exact (h.basC i hi).2⟩, h.ap, h.caps, h.n0, h.L0⟩
  by_cases hqk : q = k
  · subst hqk
    exact ⟨b, World.cell?_setCell_same _ _ _ hrk, (hfar hB).congr (fun l hl => by rw [hR q hq l hl, if_pos rfl])⟩
  · obtain ⟨d, h1, h2⟩ := h.rowC q hq
    refine ⟨d, ?_, (hfar h2).congr (fun l hl => by rw [hR q hq l hl, if_neg hqk])⟩
    rw [World.cell?_setCell_other _ _ _ _ (fun e => hqk (by simp only [Addr.mk.injEq, and_true, true_and] at e; exact e.symm))]
    exact h1
/-- The basis turns. -/
theorem TabG.setBas (h : TabG w B P n L T) {i j : Nat} (hi : i < n) : TabG (w.setCell ⟨P.bg, i, none⟩ (.int .i64 j)) B P n L ⟨upd T.J i j, T.R, T.b⟩ := by
  have t2 := h.tIn.2
  have r2 := h.rgIn.2
  have b2 := h.bgIn.2
  have hb0 := (h.basC 0 h.n0).1
  have hg := grownBy_setCell w ⟨P.bg, i, none⟩ (.int .i64 j)
  have e : (w.setCell ⟨P.bg, i, none⟩ (.int .i64 j)).heap.size = w.heap.size := by simp [World.setCell]
  have c : ∀ d o, d ≠ P.bg → (w.setCell ⟨P.bg, i, none⟩ (.int .i64 j)).cell? ⟨d, o, none⟩ = w.cell? ⟨d, o, none⟩ := fun d o hn => World.cell?_setCell_other _ _ _ _ (fun e => hn (by simp only [Addr.mk.injEq] at e; exact e.1.symm))
  refine ⟨by rw [e]; exact h.tIn, by rw [e]; exact h.rgIn, by rw [e]; exact h.bgIn, (c _ _ h.ap.2.1).trans h.c0, (c _ _ h.ap.2.1).trans h.c1, h.c2.farK t2 h.ap.2.1 hb0 (Odd.int _) hg, fun q hq => by rw [World.frozen?_setCell]; exact h.free q hq,
    fun q hq => ?_, fun q hq => by rw [World.frozen?_setCell]; exact h.rowF q hq, fun q hq => ⟨?_, by rw [World.frozen?_setCell]; exact (h.basC q hq).2⟩, h.ap, h.caps, h.n0, h.L0⟩
  · obtain ⟨d, h1, h2⟩ := h.rowC q hq
    exact ⟨d, (c _ _ h.ap.2.2).trans h1, h2.farK h.L0 hb0 (Odd.int _) (fun _ => by simp) hg⟩
  · by_cases hqi : q = i
    · subst hqi
      rw [World.cell?_setCell_same _ _ _ (h.basC q hq).1]
      simp only [upd_same]
    · rw [World.cell?_setCell_other _ _ _ _ (fun e => hqi (by simp only [Addr.mk.injEq, and_true, true_and] at e; exact e.symm)), (h.basC q hq).1]
      simp only [upd_other _ _ hqi]
/-- The divisor turns. -/
theorem TabG.setBy (h : TabG w B P n L T) {a : Nat} {z : Int} (hB : BigAt w a z) : TabG (w.setCell ⟨P.t, 2, none⟩ (.pointer (some ⟨a, 0, none⟩))) B P n L ⟨T.J, T.R, z⟩ := by
  have t2 := h.tIn.2
  have r2 := h.rgIn.2
  have b2 := h.bgIn.2
  have hg := grownBy_setCell w ⟨P.t, 2, none⟩ (.pointer (some ⟨a, 0, none⟩))
  have e : (w.setCell ⟨P.t, 2, none⟩ (.pointer (some ⟨a, 0, none⟩))).heap.size = w.heap.size := by simp [World.setCell]
  have c : ∀ d o, d ≠ P.t ∨ o ≠ 2 → (w.setCell ⟨P.t, 2, none⟩ (.pointer (some ⟨a, 0, none⟩))).cell? ⟨d, o, none⟩ = w.cell? ⟨d, o, none⟩ := fun d o hn => World.cell?_setCell_other _ _ _ _ (fun e => by
    simp only [Addr.mk.injEq, and_true] at e
    rcases hn with hn | hn
    · exact hn e.1.symm
    · exact hn e.2.symm)
  obtain ⟨p2, hp2, -⟩ := h.c2
  refine ⟨by rw [e]; exact h.tIn, by rw [e]; exact h.rgIn, by rw [e]; exact h.bgIn, (c _ _ (.inr (by decide))).trans h.c0, (c _ _ (.inr (by decide))).trans h.c1, ⟨a, World.cell?_setCell_same _ _ _ hp2, hB.farK h.c0 (Odd.slice _ _ _) hg⟩, fun q hq => by rw [World.frozen?_setCell]; exact h.free q hq,
    fun q hq => ?_, fun q hq => by rw [World.frozen?_setCell]; exact h.rowF q hq, fun q hq => ⟨(c _ _ (.inl (Ne.symm h.ap.2.1))).trans (h.basC q hq).1, by rw [World.frozen?_setCell]; exact (h.basC q hq).2⟩, h.ap, h.caps, h.n0, h.L0⟩
  obtain ⟨d, h1, h2⟩ := h.rowC q hq
  exact ⟨d, (c _ _ (.inl (Ne.symm h.ap.1))).trans h1, h2.farK h.L0 h.c0 (Odd.slice _ _ _) (fun _ => by simp) hg⟩
end
end Go.Proofs.YtefmioppamdceaaDoor

/- Inspect: number; the closure of run; less. -/
namespace Go.Proofs.YtefmioppamdceaaDoor
open Go.RowKit Go.Shelf

theorem IntSpot.ofNew (w : World) (T : TypeId) : IntSpot (w.alloc (Obj.cells #[.bool false, .slice none 0 0] T)) w.heap.size := ⟨⟨false, by simp [go_sem]⟩, ⟨_, by simp [go_sem]; rfl⟩, by simp [go_sem], by simp [go_sem], by simp⟩
set_option maxRecDepth 100000 in
set_option maxHeartbeats 1000000 in
theorem number_calls (w : World) (z : Int) (hz : -9223372036854775808 < z ∧ z < 9223372036854775808) :
    Calls Tryd.prog 54 #[.int .i64 z] w (NewRes w z) := by
  go_enter Tryd.func54, Tryd.ntmps54
  go_wp2_with fail
  have hx1 : Ext w (w.alloc (Obj.cells #[.bool false, .slice none 0 0] 97)) := (by repeat (first | exact Ext.refl _ | assumption | refine Ext.alloc ?_ _ | refine Ext.drewN ?_ _ | refine Ext.drew ?_))
  have hs1 := IntSpot.ofNew w 97
  obtain ⟨N, hN⟩ : ∃ N, N = w.heap.size := ⟨_, rfl⟩
  generalize (w.alloc (Obj.cells #[.bool false, .slice none 0 0] 97)) = w1 at *
  rw [← hN] at hs1 ⊢
  have hNw : w.heap.size ≤ N := by omega
  clear hN
  have hnc := fun W (hxW : Ext w1 W) => (newInt_calls W z hz).mono (R' := fun e w' => ∃ a, e = .returned (.pointer (some ⟨a, 0, none⟩)) ∧ BigAt w' a z ∧ Ext w1 w') (fun e w' h => by
    obtain ⟨a, h1, -, h3, h4⟩ := h
    exact ⟨a, h1, h3, hxW.trans h4⟩)
  have hsc := fun W b (hxW : Ext w1 W) (hB : BigAt W b z) => (isetTo_calls W N b z (hs1.ext hxW) hB).mono (fun e w' h => MutRes.before hxW h)
  go_region_with ((first
    | (go_at_call 58; (with_reducible refine Calls.mono (hnc _ ?_) ?_); (exact (by repeat (with_reducible first | exact Ext.refl _ | assumption | refine Ext.alloc ?_ _ | refine Ext.drew ?_))); rintro e v1 ⟨b, rfl, hB, hxv1⟩)
    | (go_at_call 89; (with_reducible refine Calls.mono (hsc _ _ ?_ ?_) ?_); (exact (by repeat (with_reducible first | exact Ext.refl _ | assumption | refine Ext.alloc ?_ _ | refine Ext.drew ?_))); (exact hB.ext (by repeat (with_reducible first | exact Ext.refl _ | assumption | refine Ext.alloc ?_ _ | refine Ext.drew ?_))); rintro e v2 ⟨rfl, hg, hB2⟩)))
  all_goals
    have hx2 : Ext w v2 := hx1.onto hg (fun q hq => by simp only [Option.some.injEq] at hq; omega)
    go_wp2_with fail
    go_ret
    exact ⟨N, rfl, hNw, hB2, hx2⟩
end Go.Proofs.YtefmioppamdceaaDoor
