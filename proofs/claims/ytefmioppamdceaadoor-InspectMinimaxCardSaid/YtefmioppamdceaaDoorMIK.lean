/- Inspect: IndexFunc, ContainsFunc; valid. -/
import Derived.Test.YtefmioppamdceaaDoorMDig
import Derived.Test.YtefmioppamdceaaDoorMOff
namespace Go.Proofs.YtefmioppamdceaaDoor
open Go.RowKit Go.Shelf

/-- The place of the first one at which p holds, or -1. -/
def firstL {α : Type} (p : α → Bool) (L : List α) : Int := match L.findIdx? p with | some k => (k : Int) | none => -1
theorem firstL_hit {α : Type} {p : α → Bool} {L : List α} {k : Nat} (hk : k < L.length) (h : p L[k] = true) (hn : ∀ j, (hj : j < k) → p (L[j]'(by omega)) = false) : firstL p L = k := by
  have : L.findIdx? p = some k := by
    rw [List.findIdx?_eq_some_iff_getElem]
    exact ⟨hk, h, fun j hj => by rw [hn j hj]; simp⟩
  simp [firstL, this]
theorem firstL_none {α : Type} {p : α → Bool} {L : List α} (hn : ∀ j, (hj : j < L.length) → p L[j] = false) : firstL p L = -1 := by
  have : L.findIdx? p = none := by
    rw [List.findIdx?_eq_none_iff]
    intro x hx
    obtain ⟨j, hj, rfl⟩ := List.getElem_of_mem hx
    exact hn j hj
  simp [firstL, this]
theorem firstL_any {α : Type} (p : α → Bool) (L : List α) : decide (0 ≤ firstL p L) = L.any p := by
  unfold firstL
  cases h : L.findIdx? p with
  | none =>
    rw [List.findIdx?_eq_none_iff] at h
    have : L.any p = false := by simp; exact h
    rw [this]; simp
  | some k =>
    rw [List.findIdx?_eq_some_iff_getElem] at h
    obtain ⟨hk, h, _⟩ := h
    have : L.any p = true := by simp; exact ⟨L[k], List.getElem_mem _, h⟩
    rw [this]; simp
theorem ith_get (L : List Int) (k : Nat) (hk : k < L.length) : ith L k = L[k] := by simp [ith, hk]
theorem rowI_get (g : List (List Int)) (k : Nat) (hk : k < g.length) : rowI g k = g[k] := by simp [rowI, hk]
structure PredI (w : World) (f : FuncId) (caps : Array Value) (F : Int → Bool) : Prop where
  enter : ∀ args w', Sem.run Tryd.prog (callFunc f args) w' = .ok (.enter f args) w'
  call : ∀ w' x, Ext w w' → Calls Tryd.prog f (#[.int .i64 x] ++ caps) w' fun e w'' => e = .returned (.bool (F x)) ∧ Ext w' w''
set_option maxRecDepth 100000 in
theorem indexFunc_calls (w : World) (ao : Option Addr) (cap : Nat) (L : List Int) (f : FuncId) (caps : Array Value) (F : Int → Bool)
    (hL : IntsIn w ao L) (hlen : L.length ≤ 10000000) (hp : PredI w f caps F) :
    Calls Tryd.prog 73 #[.slice ao L.length cap, .func (.func f) #[] caps] w fun e w' => e = .returned (.int .i64 (firstL F L)) ∧ Ext w w' := by
  have hent := hp.enter
  go_enter Tryd.func73, Tryd.ntmps73
  go_wp2_with fail
  go_loopw [8] (fun i wr => ∃ k : Nat, k ≤ L.length ∧ i = .int .i64 k ∧ Ext w wr ∧ Hid (∀ j, j < k → F (ith L j) = false)) (fun i _ => L.length - (intOf i).toNat)
  case atStart => exact ⟨0, by omega, rfl, Ext.refl _, Lib.hid (fun j hj => by omega)⟩
  case round =>
    obtain ⟨k, hk, rfl, hx, HN⟩ := hrel
    by_cases hlt : k < L.length
    · obtain ⟨b, off, hao, hb, h0⟩ := hL.ext hx k hlt
      subst hao
      go_wp2_with fail
      refine (hp.call _ (ith L k) hx).mono ?_
      rintro e w1 ⟨rfl, hx1⟩
      cases hF : F (ith L k) with
      | true =>
        have HF := Lib.hid hF
        clear hF
        go_wp2_with fail
        go_ret
        exact ⟨ret_int (firstL_hit hlt (by rw [← ith_get]; exact HF.out) (fun j hj => by rw [← ith_get]; exact HN.out j hj)).symm, hx.trans hx1⟩
      | false =>
        have HF := Lib.hid hF
        clear hF
        go_wp2_with fail
        refine ⟨⟨k + 1, by omega, rfl, hx.trans hx1, Lib.hid (fun j hj => ?_)⟩, by simp only [intOf]; omega⟩
        rcases Nat.lt_or_ge j k with h | h
        · exact HN.out j h
        · rw [show j = k by omega]; exact HF.out
    · go_wp2_with fail
      go_ret
      exact ⟨ret_int (firstL_none (fun j hj => by rw [← ith_get]; exact HN.out j (by omega))).symm, hx⟩
theorem containsFunc_calls (w : World) (ao : Option Addr) (cap : Nat) (L : List Int) (f : FuncId) (caps : Array Value) (F : Int → Bool)
    (hL : IntsIn w ao L) (hlen : L.length ≤ 10000000) (hp : PredI w f caps F) :
    Calls Tryd.prog 32 #[.slice ao L.length cap, .func (.func f) #[] caps] w fun e w' => e = .returned (.bool (L.any F)) ∧ Ext w w' := by
  go_enter Tryd.func32, Tryd.ntmps32
  go_wp2_with (go_at_call 73; refine (indexFunc_calls _ ao cap L f caps F hL hlen hp).mono ?_; rintro e w' ⟨rfl, hx⟩)
  go_ret
  exact ⟨ret_bool (firstL_any F L), hx⟩
/-- A function asked of rows. -/
structure PredR (w : World) (f : FuncId) (caps : Array Value) (F : List Int → Bool) : Prop where
  enter : ∀ args w', Sem.run Tryd.prog (callFunc f args) w' = .ok (.enter f args) w'
  call : ∀ w' ro rc (r : List Int), Ext w w' → IntsIn w' ro r → r.length ≤ 100000 → Calls Tryd.prog f (#[.slice ro r.length rc] ++ caps) w' fun e w'' => e = .returned (.bool (F r)) ∧ Ext w' w''
set_option maxRecDepth 100000 in
set_option maxHeartbeats 1000000 in
theorem indexRow_calls (w : World) (ao : Option Addr) (cap : Nat) (g : List (List Int)) (f : FuncId) (caps : Array Value) (F : List Int → Bool)
    (hL : GameIn w ao g) (hlen : g.length ≤ 10000000) (hr : ∀ k, k < g.length → (rowI g k).length ≤ 100000) (hp : PredR w f caps F) :
    Calls Tryd.prog 108 #[.slice ao g.length cap, .func (.func f) #[] caps] w fun e w' => e = .returned (.int .i64 (firstL F g)) ∧ Ext w w' := by
  have hent := hp.enter
  have HR := Lib.hid hr
  clear hr
  go_enter Tryd.func108, Tryd.ntmps108
  go_wp2_with fail
  go_loopw [8] (fun i wr => ∃ k : Nat, k ≤ g.length ∧ i = .int .i64 k ∧ Ext w wr ∧ Hid (∀ j, j < k → F (rowI g j) = false)) (fun i _ => g.length - (intOf i).toNat)
  case atStart => exact ⟨0, by omega, rfl, Ext.refl _, Lib.hid (fun j hj => by omega)⟩
  case round =>
    obtain ⟨k, hk, rfl, hx, HN⟩ := hrel
    by_cases hlt : k < g.length
    · obtain ⟨b, off, ro, rc, hao, hb, h0, -, hI⟩ := hL.ext hx k hlt
      subst hao
      have hrk := HR.out k hlt
      obtain ⟨r, hrd⟩ : ∃ r, r = rowI g k := ⟨_, rfl⟩
      rw [← hrd] at h0 hI hrk
      have hcall := hp.call wr ro rc r hx hI hrk
      have HRD := Lib.hid hrd
      clear hrd
      go_wp2_with fail
      refine hcall.mono ?_
      rintro e w1 ⟨rfl, hx1⟩
      have hx2 := hx.trans hx1
      clear hcall
      cases hF : F r with
      | true =>
        have HF := Lib.hid hF
        clear hF
        go_wp2_with fail
        go_ret
        exact ⟨ret_int (firstL_hit hlt (by rw [← rowI_get, ← HRD.out]; exact HF.out) (fun j hj => by rw [← rowI_get]; exact HN.out j hj)).symm, hx2⟩
      | false =>
        have HF := Lib.hid hF
        clear hF
        go_wp2_with fail
        refine ⟨⟨k + 1, by omega, rfl, hx2, Lib.hid (fun j hj => ?_)⟩, by simp only [intOf]; omega⟩
        rcases Nat.lt_or_ge j k with h | h
        · exact HN.out j h
        · rw [show j = k by omega, ← HRD.out]; exact HF.out
    · go_wp2_with fail
      go_ret
      exact ⟨ret_int (firstL_none (fun j hj => by rw [← rowI_get]; exact HN.out j (by omega))).symm, hx⟩
theorem containsRow_calls (w : World) (ao : Option Addr) (cap : Nat) (g : List (List Int)) (f : FuncId) (caps : Array Value) (F : List Int → Bool)
    (hL : GameIn w ao g) (hlen : g.length ≤ 10000000) (hr : ∀ k, k < g.length → (rowI g k).length ≤ 100000) (hp : PredR w f caps F) :
    Calls Tryd.prog 79 #[.slice ao g.length cap, .func (.func f) #[] caps] w fun e w' => e = .returned (.bool (g.any F)) ∧ Ext w w' := by
  go_enter Tryd.func79, Tryd.ntmps79
  go_wp2_with (go_at_call 108; refine (indexRow_calls _ ao cap g f caps F hL hlen hr hp).mono ?_; rintro e w' ⟨rfl, hx⟩)
  go_ret
  exact ⟨ret_bool (firstL_any F g), hx⟩

/-- Is a number no pay? -/
def outP (n : Int) : Bool := decide (n < -100 ∨ 100 < n)
theorem outP_calls (w : World) (n : Int) : Calls Tryd.prog 78 #[.int .i64 n] w fun e w' => e = .returned (.bool (outP n)) ∧ Ext w w' := by
  by_cases h0 : n < -100
  · go_enter Tryd.func78, Tryd.ntmps78
    go_wp2_with fail
    go_ret
    exact ⟨ret_bool (by simp [outP, h0]), (by repeat (first | exact Ext.refl _ | assumption | refine Ext.alloc ?_ _ | refine Ext.drewN ?_ _ | refine Ext.drew ?_))⟩
  · by_cases h1 : 100 < n
    · go_enter Tryd.func78, Tryd.ntmps78
      go_wp2_with fail
      go_ret
      exact ⟨ret_bool (by simp [outP, h1]), (by repeat (first | exact Ext.refl _ | assumption | refine Ext.alloc ?_ _ | refine Ext.drewN ?_ _ | refine Ext.drew ?_))⟩
    · go_enter Tryd.func78, Tryd.ntmps78
      go_wp2_with fail
      go_ret
      exact ⟨ret_bool (by simp [outP, h0, h1]), (by repeat (first | exact Ext.refl _ | assumption | refine Ext.alloc ?_ _ | refine Ext.drewN ?_ _ | refine Ext.drew ?_))⟩
theorem enters_outP : ∀ args w, (callFunc 78 args).run Tryd.prog w = .ok (.enter 78 args) w := enters_of Tryd.func78 (by kernel_rfl) rfl
theorem pred_outP (w : World) : PredI w 78 #[] outP := ⟨fun args w' => enters_outP args w', fun w' x _ => outP_calls w' x⟩
/-- Is a row no row of so many? -/
def badR (m : Nat) (r : List Int) : Bool := !(decide (r.length = m)) || r.any outP
theorem enters_badR : ∀ args w, (callFunc 77 args).run Tryd.prog w = .ok (.enter 77 args) w := enters_of Tryd.func77 (by kernel_rfl) rfl
set_option maxRecDepth 100000 in
set_option maxHeartbeats 1000000 in
theorem badR_calls (w : World) (B : Nat) (ao : Option Addr) (n cap : Nat) (g : List (List Int)) (hB : w.cell? ⟨B, 0, none⟩ = some (.slice ao n cap)) (hG : GameIn w ao g) (hn : n = g.length) (hn0 : 0 < n) (ro : Option Addr) (rc : Nat) (r : List Int) (hI : IntsIn w ro r) (hl : r.length ≤ 100000) :
    Calls Tryd.prog 77 #[.slice ro r.length rc, .pointer (some ⟨B, 0, none⟩)] w fun e w' => e = .returned (.bool (badR (rowI g 0).length r)) ∧ Ext w w' := by
  obtain ⟨b, off, so, sc, rfl, hb, h0, -, -⟩ := hG 0 (by omega)
  rw [Nat.add_zero] at h0
  obtain ⟨m, hm⟩ : ∃ m, m = (rowI g 0).length := ⟨_, rfl⟩
  rw [← hm] at h0 ⊢
  have hcc := containsFunc_calls w ro rc r 78 #[] outP hI (by omega) (pred_outP w)
  have hn1 : (0 : Int) < (n : Int) := by omega
  clear hm hG hn
  by_cases he : r.length = m
  · have hne : ((r.length : Int) != (m : Int)) = false := by simp; omega
    have HV : Hid (r.any outP = badR m r) := Lib.hid (by simp [badR, he])
    clear he
    go_enter Tryd.func77, Tryd.ntmps77
    go_wp2_with fail
    refine hcc.mono ?_
    rintro e w2 ⟨rfl, hx2⟩
    cases hv : r.any outP with
    | true =>
      rw [hv] at HV
      go_wp2_with fail
      go_ret
      exact ⟨ret_bool HV.out, hx2⟩
    | false =>
      rw [hv] at HV
      go_wp2_with fail
      go_ret
      exact ⟨ret_bool HV.out, hx2⟩
  · have hne : ((r.length : Int) != (m : Int)) = true := by simp; omega
    have HV : Hid (true = badR m r) := Lib.hid (by simp [badR, he])
    clear he
    go_enter Tryd.func77, Tryd.ntmps77
    go_wp2_with fail
    go_ret
    exact ⟨ret_bool HV.out, (by repeat (first | exact Ext.refl _ | assumption | refine Ext.alloc ?_ _ | refine Ext.drewN ?_ _ | refine Ext.drew ?_))⟩
/-- Is a matrix a game? -/
def gameB (g : List (List Int)) : Bool := decide (1 ≤ g.length ∧ g.length ≤ 5) && decide (1 ≤ (rowI g 0).length ∧ (rowI g 0).length ≤ 5) && !(g.any (badR (rowI g 0).length))
set_option maxRecDepth 100000 in
set_option maxHeartbeats 4000000 in
theorem valid_calls (w : World) (ao : Option Addr) (cap : Nat) (g : List (List Int)) (hG : GameIn w ao g) (hl : g.length ≤ 1000) (hr : ∀ k, k < g.length → (rowI g k).length ≤ 1000) :
    Calls Tryd.prog 44 #[.slice ao g.length cap] w fun e w' => e = .returned (.bool (gameB g)) ∧ Ext w w' := by
  have hent := enters_badR
  obtain ⟨n, hn⟩ : ∃ n, n = g.length := ⟨_, rfl⟩
  obtain ⟨m, hm⟩ : ∃ m, m = (rowI g 0).length := ⟨_, rfl⟩
  have HR := Lib.hid hr
  have HN := Lib.hid hn
  have HM := Lib.hid hm
  have hG0 := hG 0
  rw [← hn, ← hm] at hG0
  clear hr
  rw [← hn] at hl ⊢
  by_cases h1 : n < 1
  · have HV : Hid (false = gameB g) := Lib.hid (by simp [gameB]; omega)
    clear hG0 hn hm
    go_enter Tryd.func44, Tryd.ntmps44
    have h1b : (n : Int) < 1 := by omega
    go_wp2_with fail
    go_ret
    exact ⟨ret_bool HV.out, (by repeat (first | exact Ext.refl _ | assumption | refine Ext.alloc ?_ _ | refine Ext.drewN ?_ _ | refine Ext.drew ?_))⟩
  · have h1b : ¬ (n : Int) < 1 := by omega
    by_cases h2 : 5 < n
    · have HV : Hid (false = gameB g) := Lib.hid (by simp [gameB]; omega)
      have h2b : (5 : Int) < (n : Int) := by omega
      clear hG0 hn hm
      go_enter Tryd.func44, Tryd.ntmps44
      go_wp2_with fail
      go_ret
      exact ⟨ret_bool HV.out, (by repeat (first | exact Ext.refl _ | assumption | refine Ext.alloc ?_ _ | refine Ext.drewN ?_ _ | refine Ext.drew ?_))⟩
    · have h2b : ¬ (5 : Int) < (n : Int) := by omega
      obtain ⟨b, off, so, sc, rfl, hb, h0, -, -⟩ := hG0 (by omega)
      rw [Nat.add_zero] at h0
      have hn1 : (0 : Int) < (n : Int) := by omega
      have h0' := fun W (hW : Ext w W) => (hW.cell (p := ⟨b, off, none⟩) hb).trans h0
      by_cases h3 : m < 1
      · have HV : Hid (false = gameB g) := Lib.hid (by simp [gameB]; omega)
        have h3b : (m : Int) < 1 := by omega
        clear hn hm
        go_enter Tryd.func44, Tryd.ntmps44
        go_wp2_with fail
        go_ret
        exact ⟨ret_bool HV.out, (by repeat (first | exact Ext.refl _ | assumption | refine Ext.alloc ?_ _ | refine Ext.drewN ?_ _ | refine Ext.drew ?_))⟩
      · have h3b : ¬ (m : Int) < 1 := by omega
        by_cases h4 : 5 < m
        · have HV : Hid (false = gameB g) := Lib.hid (by simp [gameB]; omega)
          have h4b : (5 : Int) < (m : Int) := by omega
          clear hn hm
          go_enter Tryd.func44, Tryd.ntmps44
          go_wp2_with fail
          go_ret
          exact ⟨ret_bool HV.out, (by repeat (first | exact Ext.refl _ | assumption | refine Ext.alloc ?_ _ | refine Ext.drewN ?_ _ | refine Ext.drew ?_))⟩
        · have h4b : ¬ (5 : Int) < (m : Int) := by omega
          have HV : Hid ((!(g.any (badR m))) = gameB g) := Lib.hid (by
            have e1 : decide (1 ≤ g.length ∧ g.length ≤ 5) = true := by simp; omega
            have e2 : decide (1 ≤ (rowI g 0).length ∧ (rowI g 0).length ≤ 5) = true := by simp; omega
            rw [gameB, e1, e2, hm]; rfl)
          clear hn hm
          go_enter Tryd.func44, Tryd.ntmps44
          go_wp2_with fail
          have hx1 : Ext w (w.alloc (Obj.cells #[.slice (some ⟨b, off, none⟩) n cap] 48)) := (by repeat (first | exact Ext.refl _ | assumption | refine Ext.alloc ?_ _ | refine Ext.drewN ?_ _ | refine Ext.drew ?_))
          have hc1 : (w.alloc (Obj.cells #[.slice (some ⟨b, off, none⟩) n cap] 48)).cell? ⟨w.heap.size, 0, none⟩ = some (.slice (some ⟨b, off, none⟩) n cap) := by simp [go_sem]
          have hl1 : w.heap.size < (w.alloc (Obj.cells #[.slice (some ⟨b, off, none⟩) n cap] 48)).heap.size := by simp
          obtain ⟨B, hB⟩ : ∃ B, B = w.heap.size := ⟨_, rfl⟩
          generalize hw1 : (w.alloc (Obj.cells #[.slice (some ⟨b, off, none⟩) n cap] 48)) = w1 at *
          rw [← hB] at hc1 hl1 ⊢
          clear hw1 hB
          have hcc := containsRow_calls w1 (some ⟨b, off, none⟩) cap g 77 #[.pointer (some ⟨B, 0, none⟩)] (badR m) (hG.ext hx1) (by rw [← HN.out]; omega) (fun k hk => by have := HR.out k hk; omega)
            ⟨fun args w' => enters_badR args w', fun w' ro rc r hx hI hlr => by
              have := badR_calls w' B (some ⟨b, off, none⟩) n cap g ((hx.cell (p := ⟨B, 0, none⟩) hl1).trans hc1) ((hG.ext hx1).ext hx) HN.out (by omega) ro rc r hI hlr
              rw [← HM.out] at this
              exact this⟩
          rw [← HN.out] at hcc
          refine hcc.mono ?_
          rintro e w2 ⟨rfl, hx2⟩
          have hx12 := hx1.trans hx2
          clear hcc
          cases hv : g.any (badR m) with
          | true =>
            rw [hv] at HV
            go_wp2_with fail
            go_ret
            exact ⟨ret_bool HV.out, hx12⟩
          | false =>
            rw [hv] at HV
            go_wp2_with fail
            go_ret
            exact ⟨ret_bool HV.out, hx12⟩
end Go.Proofs.YtefmioppamdceaaDoor
