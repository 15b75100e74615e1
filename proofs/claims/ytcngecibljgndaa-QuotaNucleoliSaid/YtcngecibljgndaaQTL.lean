/- A load may be taken first, as long as nothing that can come before it writes its cell. -/
import Derived.Test.YtcngecibljgndaaKit
import Derived.OrdersHeld
import Derived.Deep.RegionHeld3
namespace Go.Proofs.Ytcngecibljgndaa
open Go.RowKit

section
variable {P : Program} {ops : Array Oper} {Q : Exit → Act → World → Prop} {md : Region.Mode} {S : World → Prop}
/-- Operation j leaves a world as S says. -/
def Keeps (P : Program) (ops : Array Oper) (Q : Exit → Act → World → Prop) (S : World → Prop) (j : Nat) : Prop := ∀ (K : Act → World → Prop) (a : Act) (w : World), S w → wpOp P ops Q j K a w → wpOp P ops Q j (fun a' w' => S w' ∧ K a' w') a w
/-- What an operation's run may leave. -/
def Calm (S : World → Prop) : Result Next → Prop
  | .ok (.value _) w => S w
  | .ok _ _ => False
  | .halt _ _ => True
theorem keeps_of {j : Nat} {oj : Oper} (hj : ops[j]? = some oj) (h : ∀ (a : Act) (w : World), S w → Calm S ((execOp a.eval oj).run P w)) : Keeps P ops Q S j := by
  intro K a w hS hw
  unfold wpOp at *
  simp only [hj] at *
  split
  · rename_i hwant
    simp only [hwant, if_true] at hw
    rcases hw with hw | hw
    · refine .inl ?_
      have hc := h a w hS
      unfold Oper.wp at *
      generalize (execOp a.eval oj).run P w = r at *
      cases r with
      | ok n w' =>
        cases n with
        | value v => exact ⟨hc, hw⟩
        | _ => exact (hc : False).elim
      | halt x w' => cases x <;> exact hw
    · exact .inr hw
  · rename_i hwant
    simp only [hwant] at hw
    exact ⟨hS, hw⟩
theorem listed_of {listed : Array Bool} {e : Nat} (h0 : listed.getD e true = false) (h1 : listed.getD e false = true) : False := by
  rcases Nat.lt_or_ge e listed.size with h' | h'
  · simp [h'] at h0 h1; rw [h0] at h1; cases h1
  · simp [Array.getElem?_eq_none h'] at h1
theorem wpAny_held {i : Nat} {oi : Oper} {v : Value} (B : List Nat) (hi : ops[i]? = some oi) (hsel : ∀ (j : Nat) (o : Oper) cs b, ops[j]? = some o → o.op ≠ .select cs b)
    (hQ : ∀ c a w, Q (.panic c) (a.put oi.dst v) w → Q (.panic c) a w)
    (hB : ∀ k ∈ B, ∀ ok, ops[k]? = some ok → ∃ e ∈ ok.after, Region.binds md e = true ∧ (e.on = i ∨ e.on ∈ B)) :
    ∀ (fuel : Nat) (listed : Array Bool) (a : Act) (w : World),
      (∀ j oj, ops[j]? = some oj → j ≠ i → listed.getD j true = false → (∀ e ∈ oj.after, Region.binds md e = true → e.on ≠ i) → oi.apart ops oj = true) →
      (∀ j, j ≠ i → j ∉ B → listed.getD j true = false → Keeps P ops Q S j) →
      i ∈ Region.ready md ops listed → (∀ k ∈ B, listed.getD k true = false) → YieldsIf P ops S oi v a → S w →
      wpAny P md ops Q fuel (listed.setIfInBounds i true) (a.put oi.dst v) w → wpAny P md ops Q (fuel + 1) listed a w := by
  intro fuel
  induction fuel with
  | zero =>
    intro listed a w _ _ hr _ hy hS H
    refine ⟨fun h => (by rw [h] at hr; cases hr), fun j hj => ?_⟩
    by_cases hji : j = i
    · subst hji; exact hy.wpOp hi hS H
    · have := ready_mono hj hji
      rw [H.1] at this
      cases this
  | succ fuel ih =>
    intro listed a w hfree hkeep hr hBu hy hS H
    refine ⟨fun h => (by rw [h] at hr; cases hr), fun j hj => ?_⟩
    by_cases hji : j = i
    · subst hji; exact hy.wpOp hi hS H
    · have h1 := H.2 j (ready_mono hj hji)
      obtain ⟨hjun, oj, hoj, hall⟩ := mem_ready.1 hj
      have hir := (mem_ready.1 hr).1
      have hnot : ∀ e ∈ oj.after, Region.binds md e = true → e.on ≠ i := fun e he hb heq => by
        have h1 := hall e he hb
        rw [heq] at h1
        exact listed_of hir h1
      have hjB : j ∉ B := fun hjB => by
        obtain ⟨e, he, hb, h | h⟩ := hB j hjB oj hoj
        · exact hnot e he hb h
        · exact listed_of (hBu e.on h) (hall e he hb)
      have h2 := wpOp_putIf hoj (hfree j oj hoj hji hjun hnot) (fun cs b => hsel i oi cs b hi) (fun cs b => hsel j oj cs b hoj) hQ hy h1
      have h4 := hkeep j hji hjB hjun _ _ _ hS h2
      have hun : ∀ k, (listed.setIfInBounds j true).getD k true = false → listed.getD k true = false := fun k hk => by
        by_cases hjk : j = k
        · subst hjk; exact hjun
        · rw [getD_set_ne true hjk] at hk; exact hk
      refine wpOp_mono (fun a' w' h3 => ih (listed.setIfInBounds j true) a' w' (fun k ok hk hki hk2 hno => hfree k ok hk hki (hun k hk2) hno) (fun k h1 h2 h3 => hkeep k h1 h2 (hun k h3)) (ready_mono hr (Ne.symm hji))
        (fun k hk => by rw [getD_set_ne true (fun e => hjB (by rw [e]; exact hk))]; exact hBu k hk) h3.2.1 h3.1 ?_) h4
      rw [Array.setIfInBounds_comm _ _ hji]
      exact h3.2.2
/-- The side conditions as Bools. -/
def waitsB (md : Region.Mode) (ops : Array Oper) (i : Nat) (B : List Nat) : Bool := B.all fun k => match ops[k]? with | some ok => ok.after.any fun e => Region.binds md e && (e.on == i || B.contains e.on) | none => true
theorem waitsB_spec {i : Nat} {B : List Nat} (h : waitsB md ops i B = true) : ∀ k ∈ B, ∀ ok, ops[k]? = some ok → ∃ e ∈ ok.after, Region.binds md e = true ∧ (e.on = i ∨ e.on ∈ B) := by
  intro k hk ok hok
  unfold waitsB at h
  rw [List.all_eq_true] at h
  have h1 := h k hk
  simp only [hok] at h1
  obtain ⟨e, he, hb⟩ := Array.any_eq_true'.1 h1
  simp only [Bool.and_eq_true, Bool.or_eq_true, beq_iff_eq, List.contains_iff_mem] at hb
  exact ⟨e, he, hb.1, hb.2⟩
def unB (listed : Array Bool) (B : List Nat) : Bool := B.all fun k => !listed.getD k true
theorem unB_spec {listed : Array Bool} {B : List Nat} (h : unB listed B = true) : ∀ k ∈ B, listed.getD k true = false := by
  intro k hk
  unfold unB at h
  rw [List.all_eq_true] at h
  simpa using h k hk
/-- Those that have not come up, but for i and those that wait for it. -/
def restB (listed : Array Bool) (i : Nat) (B R : List Nat) : Bool := (List.range listed.size).all fun j => listed.getD j true || j == i || B.contains j || R.contains j
theorem restB_spec {listed : Array Bool} {i : Nat} {B R : List Nat} (h : restB listed i B R = true) : ∀ j, j ≠ i → j ∉ B → listed.getD j true = false → j ∈ R := by
  intro j h1 h2 h3
  unfold restB at h
  rw [List.all_eq_true] at h
  rcases Nat.lt_or_ge j listed.size with h' | h'
  · have h4 := h j (List.mem_range.2 h')
    simp only [h3, Bool.false_or, Bool.or_eq_true, beq_iff_eq, List.contains_iff_mem] at h4
    rcases h4 with (h4 | h4) | h4
    · exact absurd h4 h1
    · exact absurd h4 h2
    · exact h4
  · simp [Array.getElem?_eq_none h'] at h3
theorem wpAny_take_held {i : Nat} {oi : Oper} {v : Value} {fuel : Nat} {listed : Array Bool} {a : Act} {w : World} (S : World → Prop) (B R : List Nat) (hi : ops[i]? = some oi)
    (hs : Region.noSelect ops = true) (hf : Region.free md ops listed i = true) (hr : (Region.ready md ops listed).contains i = true)
    (hQ : ∀ c a w, Q (.panic c) (a.put oi.dst v) w → Q (.panic c) a w) (hB : waitsB md ops i B = true) (hU : unB listed B = true) (hR : restB listed i B R = true)
    (hk : ∀ j ∈ R, Keeps P ops Q S j) (hy : YieldsIf P ops S oi v a) (hS : S w)
    (h : wpAny P md ops Q fuel (listed.setIfInBounds i true) (a.put oi.dst v) w) : wpAny P md ops Q (fuel + 1) listed a w :=
  wpAny_held B hi (Region.noSelect_spec hs) hQ (waitsB_spec hB) fuel listed a w (Region.free_spec hi hf) (fun j h1 h2 h3 => hk j (restB_spec hR j h1 h2 h3)) (by simpa using hr) (unB_spec hU) hy hS h
/-- A load leaves the world as it was. -/
theorem calm_load {o : Oper} {t : TypeId} {x : Operand} (ho : o.op = .load t x) (hA : ∀ w, (isAgg t).run P w = .ok false w) (ev : Operand → Value) (w : World) (hS : S w) : Calm S ((execOp ev o).run P w) := by
  unfold execOp
  rw [ho]
  simp only [Instr.loadAt]
  generalize ev x = y
  cases y with
  | pointer p =>
    cases p with
    | none => simp [Instr.sureAddr, Sem.run_bind, Calm, stuck, Sem.run, Result.andThen]
    | some p =>
      simp only [Instr.sureAddr, loadVar, Sem.run_bind, Sem.run_pure, Result.andThen, hA]
      simp only [Bool.false_eq_true, if_false, load, Sem.run]
      cases w.cell? p with
      | some u => simp [Calm, hS]
      | none =>
        simp only []
        generalize w.farLoad P p _ = r
        cases r with
        | ok q => simp [Calm, hS]
        | error e => simp [Calm]
  | _ => simp [Instr.sureAddr, Sem.run_bind, Calm, stuck, Sem.run, Result.andThen]
/-- A slice of one cell is laid behind the others. -/
theorem calm_build {o : Oper} {t e : TypeId} {x : Operand} {z : Value} (ho : o.op = .buildSlice t 1 #[(0, x)]) (hu : ∀ w, (underlying t).run P w = .ok (.slice e) w) (hs : ∀ w, (sizeOf e).run P w = .ok 1 w) (hz : ∀ w, (zeroValue e).run P w = .ok z w)
    (hal : ∀ w ob, S w → S (w.alloc ob)) (ev : Operand → Value) (w : World) (hS : S w) : Calm S ((execOp ev o).run P w) := by
  unfold execOp
  rw [ho]
  simp only [Instr.buildSlice, Sem.run_bind, hu, Result.andThen, hs]
  simp only [Nat.mul_one, show ¬ (1 > 2 ^ 24) by decide, if_false, Sem.run_bind, Sem.run_pure, Result.andThen, show ¬ (1 = 0) by decide, hz]
  generalize Instr.fill (fun i => some (i, 1)) (Array.map (fun x => z.cells[x % z.cells.size]!) (Array.range 1)) (Array.map (fun x => (x.fst, ev x.snd)) #[(0, x)]).toList = r
  cases r with
  | none => simp [Calm, stuck]
  | some c =>
    simp only [Sem.run_bind, newRow, run_newObj_alloc, Sem.run_pure, Result.andThen, Calm]
    exact hal _ _ hS
end
end Go.Proofs.Ytcngecibljgndaa
