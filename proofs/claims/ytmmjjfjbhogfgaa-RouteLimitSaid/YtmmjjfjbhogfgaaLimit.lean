/- RouteLimit: the plain facts. -/
import Derived.Test.YtmmjjfjbhogfgaaStopE
namespace Go.Proofs.Ytmmjjfjbhogfgaa
open Go.ChangeShapes Go.WideShapes Go.ChangeAt Go.RowKit

def lim (n : Nat) : Stops := (List.range n).map (fun (i : Nat) => (2 * (i : Int), 2 * (i : Int) + 1))
theorem lim_length (n : Nat) : (lim n).length = n := by simp [lim]
theorem lim_fst {n k : Nat} (h : k < n) : tFst (lim n) k = 2 * (k : Int) := by simp [lim, tFst, List.getD_eq_getElem?_getD, h]
theorem lim_snd {n k : Nat} (h : k < n) : tSnd (lim n) k = 2 * (k : Int) + 1 := by simp [lim, tSnd, List.getD_eq_getElem?_getD, h]
theorem lim_snoc (n : Nat) : lim (n + 1) = lim n ++ [(2 * (n : Int), 2 * (n : Int) + 1)] := by simp [lim, List.range_succ]
theorem lim_ok : ProfOk (lim 1000) := by
  refine ⟨by rw [lim_length]; omega, fun i hi => ?_⟩
  rw [lim_length] at hi
  unfold OkAt
  rw [lim_fst hi, lim_snd hi]
  refine ⟨by omega, by omega, by omega, fun h => ?_⟩
  rw [lim_fst (by omega), lim_snd (by omega)]
  omega
theorem lim_bad : ¬ ProfOk (lim 1001) := fun h => by have := h.1; rw [lim_length] at this; omega
theorem lim_look {t : Int} (h0 : 0 ≤ t) (h1 : t ≤ 1998) : lookL (lim 1000) t = (t + 1) / 2 * 2 + 1 := by
  have e : (((t + 1) / 2).toNat : Int) = (t + 1) / 2 := by omega
  rw [lookL_at (k := ((t + 1) / 2).toNat) (by rw [lim_length]; omega) (fun j hj => by rw [lim_fst (by omega)]; omega) (by rw [lim_fst (by omega)]; omega), lim_snd (by omega)]
  omega
theorem fm_some {A B : Type} (f : A → Option B) (g : A → B) : ∀ (l : List A), (∀ x ∈ l, f x = some (g x)) → l.filterMap f = l.map g
  | [], _ => rfl
  | x :: r, h => by
    rw [List.filterMap_cons, h x (by simp), List.map_cons]
    exact congrArg _ (fm_some f g r (fun y hy => h y (by simp [hy])))
def lim3 (n : Nat) : Stops := (List.range n).map (fun (i : Nat) => (2 * (i : Int), 2 * (i : Int) + 3))
theorem lim3_len (n : Nat) : (lim3 n).length = n := by simp [lim3]
theorem lim3_at (n : Nat) : tFst (lim3 (n + 1)) 0 = 0 ∧ tSnd (lim3 (n + 1)) 0 = 3 := by
  simp [lim3, tFst, tSnd, List.getD_eq_getElem?_getD]
theorem lim_joined : joined (lim 1000) (lim 1000) 1 = lim3 999 := by
  unfold joined lim3
  rw [show (1000 : Nat) = 999 + 1 from rfl, lim_snoc 999, List.filterMap_append]
  have h1 : List.filterMap (goOn (lim 999 ++ [(2 * ((999 : Nat) : Int), 2 * ((999 : Nat) : Int) + 1)]) 1) [(2 * ((999 : Nat) : Int), 2 * ((999 : Nat) : Int) + 1)] = [] := by
    have : lookL (lim 999 ++ [(2 * ((999 : Nat) : Int), 2 * ((999 : Nat) : Int) + 1)]) (2 * ((999 : Nat) : Int) + 1 + 1) = -1 := by
      rw [← lim_snoc]
      refine lookL_none (fun j hj => ?_)
      rw [lim_length] at hj
      rw [lim_fst hj]
      omega
    simp only [List.filterMap_cons, List.filterMap_nil, goOn, this]
    rfl
  rw [h1, List.append_nil, ← lim_snoc]
  unfold lim
  rw [List.filterMap_map]
  have : ∀ i ∈ List.range 999, (goOn (lim 1000) 1 ∘ fun (i : Nat) => (2 * (i : Int), 2 * (i : Int) + 1)) i = some (2 * (i : Int), 2 * (i : Int) + 3) := by
    intro i hi
    rw [List.mem_range] at hi
    simp only [Function.comp, goOn]
    rw [lim_look (by omega) (by omega), if_pos (by omega)]
    rw [show (2 * (i : Int) + 1 + 1 + 1) / 2 * 2 + 1 = 2 * (i : Int) + 3 from by omega]
  exact fm_some _ _ _ this
theorem lim3_up (n : Nat) : Up (lim3 n) := by
  unfold Up lim3
  rw [List.pairwise_map]
  refine List.Pairwise.imp ?_ (List.pairwise_lt_range (n := n))
  intro a b hab
  simp only
  omega
theorem lim3_nonneg (n : Nat) : ∀ s ∈ lim3 n, 0 ≤ s.2 := by
  intro s hs
  unfold lim3 at hs
  rw [List.mem_map] at hs
  obtain ⟨i, _, rfl⟩ := hs
  simp only
  omega
theorem lim_then {R : Stops} {er : Int} (h : ThenOf (lim 1000) (lim 1000) 1 R er) : er = 0 ∧ R.length = 999 ∧ tFst R 0 = 0 ∧ tSnd R 0 = 3 := by
  rcases h with ⟨h, _⟩ | ⟨_, rfl, hF⟩
  · exact (h ⟨lim_ok, lim_ok, by omega, by omega⟩).elim
  · rw [lim_joined] at hF
    have e := hF.uniq (up_front (lim3_up 999) (lim3_nonneg 999)) (lim3_nonneg 999) (lim3_nonneg 999) (fun _ _ h => h)
    rw [e]
    exact ⟨rfl, lim3_len 999, lim3_at 998⟩
end Go.Proofs.Ytmmjjfjbhogfgaa
