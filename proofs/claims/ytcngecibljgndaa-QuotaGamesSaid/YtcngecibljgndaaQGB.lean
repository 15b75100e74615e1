/- SortFunc at the excesses: the greatest first. -/
import Derived.Test.YtcngecibljgndaaQU
import Derived.Test.YtcngecibljgndaaQGL
import Derived.Test.YtcngecibljgndaaQCA
namespace Go.Proofs.Ytcngecibljgndaa
open Go.RowKit Go.Sort Go.Shelf

/-- A number that is no greater than a bound, either way. -/
structure BInt where
  v : Int
  h : -1000000000000 ≤ v ∧ v ≤ 1000000000000
instance : Inhabited BInt := ⟨⟨0, by decide⟩⟩
theorem BInt.ext2 {x y : BInt} (h : x.v = y.v) : x = y := by
  obtain ⟨a, _⟩ := x
  obtain ⟨b, _⟩ := y
  simp only at h
  subst h
  rfl
def BdI (z : Int) : Prop := -1000000000000 ≤ z ∧ z ≤ 1000000000000
instance (z : Int) : Decidable (BdI z) := by unfold BdI; infer_instance
def toBI (z : Int) : BInt := if h : BdI z then ⟨z, h⟩ else default
theorem toBI_v {z : Int} (h : BdI z) : (toBI z).v = z := by unfold toBI; rw [dif_pos h]
def encBI (x : BInt) : Value := .int .i64 x.v
def cmpI (x y : BInt) : Int := y.v - x.v
theorem lt_cmpI (x y : BInt) : ltOf cmpI x y = decide (y.v < x.v) := by
  unfold ltOf cmpI
  rw [decide_eq_decide]
  omega
theorem swo_cmpI : SWO (ltOf cmpI) where
  irrefl x := by rw [lt_cmpI]; simp
  trans x y z h1 h2 := by rw [lt_cmpI] at *; simp only [decide_eq_true_eq] at *; omega
  ntrans x y z h1 h2 := by rw [lt_cmpI] at *; simp only [decide_eq_false_iff_not] at *; omega
theorem cmpI_calls (x y : BInt) (W : World) : Calls Try.prog 83 #[.int .i64 x.v, .int .i64 y.v] W fun e w' => e = .returned (.int .i64 (cmpI x y)) ∧ ∃ q os', w' = grow (W.drewN q) os' := by
  obtain ⟨xv, hx0, hx1⟩ := x
  obtain ⟨yv, hy0, hy1⟩ := y
  unfold cmpI
  simp only
  go_enter Try.func83, Try.ntmps83
  go_wp2_with fail
  go_ret
  exact ⟨rfl, 0, #[], by rw [grow_empty]; rfl⟩
theorem cmpI_lays (blk off size : Nat) (w : World) : CmpLays1 Try.prog 83 #[] encBI cmpI blk off size w :=
  fun _ _ _ _ x y => cmpI_calls x y _
theorem eg_cmpI : ∀ args w, (callFunc 83 args).run Try.prog w = .ok (.enter 83 args) w := enters_of Try.func83 (by kernel_rfl) rfl
def asArrI (l : List Int) : Array BInt := (l.map toBI).toArray
theorem asArrI_size (l : List Int) : (asArrI l).size = l.length := by simp [asArrI]
theorem map_toBI (l : List Int) (hb : ∀ z ∈ l, BdI z) : (l.map toBI).map (fun x => x.v) = l := by
  rw [List.map_map]
  refine (List.map_congr_left (fun s hs => ?_)).trans (List.map_id l)
  exact toBI_v (hb s hs)
theorem Own.holdsBI {w : World} {B g off cap : Nat} {l : List Int} (h : Own w B 1 (.slice (some ⟨g, off, none⟩) l.length cap) (ints l)) (hb : ∀ z ∈ l, BdI z) : Holds encBI w g off (asArrI l) := by
  intro j hj
  have hj2 : j < l.length := by rw [← asArrI_size]; exact hj
  have hc := h.intAt j hj2
  refine ⟨?_, hc.2⟩
  rw [hc.1, getElem!_pos _ j hj]
  have e : (asArrI l)[j] = toBI l[j] := by simp [asArrI]
  rw [e]
  unfold encBI
  rw [toBI_v (hb _ (List.getElem_mem hj2))]
  simp [ith, hj2]
theorem Own.putBI {w : World} {B g off n cap q : Nat} {zs : List Int} {d : List BInt} (hb : ∀ z ∈ zs, BdI z) (h : Own w B 1 (.slice (some ⟨g, off, none⟩) n cap) (ints zs)) (hn : n = zs.length) (hd : d.length = zs.length) :
    Own (putRow encBI (Sort.ahead w q) g off d.toArray) B 1 (.slice (some ⟨g, off, none⟩) n cap) (ints (d.map fun x => x.v)) ∧ w.grownBy (putRow encBI (Sort.ahead w q) g off d.toArray) (some g) := by
  have hH : Holds encBI (Sort.ahead w q) g off (asArrI zs) := by subst hn; exact h.holdsBI hb
  refine ⟨?_, ⟨rfl, rfl, rfl, by simp, fun k _ hk => ?_⟩⟩
  · obtain ⟨n', hl, ⟨hv, _⟩ | ⟨g', off', cap', hv, hb, hlt, hnc, hcm, hc, hx⟩⟩ := h
    · simp at hv
    · simp only [Value.slice.injEq, Option.some.injEq, Addr.mk.injEq, and_true] at hv
      obtain ⟨⟨rfl, rfl⟩, rfl, rfl⟩ := hv
      have hsz : d.toArray.size = (asArrI zs).size := by simp [hd, asArrI_size]
      have hin : ∀ j, j < d.length → (putRow encBI (Sort.ahead w q) g off d.toArray).cell? ⟨g, off + j, none⟩ = some (.int .i64 (ith (d.map fun x => x.v) j)) := fun j hj => by
        rw [cell?_putRow _ _ _ _ (asArrI zs) d.toArray hH hsz j (by simpa using hj), getElem!_pos _ j (by simpa using hj)]
        simp [ith, hj, encBI]
      refine ⟨n, by rw [ints_length, List.length_map]; omega, .inr ⟨g, off, cap, rfl, hb, by simpa using hlt, hnc, hcm, fun j hj => ⟨?_, ?_⟩, fun j hj => ?_⟩⟩
      · by_cases hjd : j < d.length
        · rw [hin j hjd]; rfl
        · rw [cell?_putRow_other _ _ _ _ _ _ (.inr (.inr (by simp; omega)))]
          exact (hc j hj).1
      · rw [frozen?_putRow]; exact (hc j hj).2
      · rw [hin j (by omega), ints_at _ _ (by rw [List.length_map]; omega)]
  · have hne : ¬ g = k := fun e => hk (by rw [e])
    unfold putRow mapBlock
    simp [Array.getElem?_modify, hne]
theorem grown_grow (w : World) (os : Array Obj) (row : Option Nat) : w.grownBy (grow w os) row := ⟨rfl, rfl, rfl, by simp, fun _ hk _ => heap_grow_old w os hk⟩
/-- Numbers, the greatest first. -/
def sortD (l : List Int) : List Int := l.mergeSort (fun x y => decide (y ≤ x))
theorem sortD_perm (l : List Int) : (sortD l).Perm l := List.mergeSort_perm _ _
theorem sortD_sorted (l : List Int) : (sortD l).Pairwise (fun x y => y ≤ x) := by
  have := List.pairwise_mergeSort (le := fun x y : Int => decide (y ≤ x)) (by intro a b c h1 h2; simp at *; omega) (by intro a b; simp; omega) l
  exact this.imp (fun h => by simpa using h)
theorem sortD_length (l : List Int) : (sortD l).length = l.length := (sortD_perm l).length_eq
theorem sortD_unique {l m : List Int} (hp : m.Perm l) (hs : m.Pairwise (fun x y => y ≤ x)) : m = sortD l :=
  List.Perm.eq_of_pairwise (le := fun x y => y ≤ x) (fun _ _ _ _ h1 h2 => Int.le_antisymm h2 h1) hs (sortD_sorted l) (hp.trans (sortD_perm l).symm)
theorem sort_calls (w : World) (B g off cap : Nat) (l : List Int) (hb : ∀ z ∈ l, BdI z) (ho : Own w B 1 (.slice (some ⟨g, off, none⟩) l.length cap) (ints l)) (hl : l.length ≤ 10000000) :
    Calls Try.prog 82 #[.slice (some ⟨g, off, none⟩) l.length cap, .func (.func 83) #[] #[]] w fun e w' => e = .returned (.tuple #[]) ∧ Own w' B 1 (.slice (some ⟨g, off, none⟩) l.length cap) (ints (sortD l)) ∧ w.grownBy w' (some g) := by
  have hH := ho.holdsBI hb
  have hg := (ho.lt g rfl).2
  have hT : ∀ x y : BInt, (ltOf cmpI) x y = false → (ltOf cmpI) y x = false → x = y := by
    intro x y h1 h2
    rw [lt_cmpI] at h1 h2
    simp only [decide_eq_false_iff_not] at h1 h2
    exact BInt.ext2 (by omega)
  have h := Any.slices_SortFunc_total sortF encBI (fun _ => rfl) cmpI swo_cmpI 83 #[] g off cap (asArrI l) w eg_cmpI (cmpI_lays g off (asArrI l).size w) hH hg (by rw [asArrI_size]; omega) hT
  rw [asArrI_size] at h
  refine h.mono ?_
  rintro e w' ⟨rfl, n, os, rfl⟩
  generalize hM : ((asArrI l).toList.mergeSort fun x y => !(ltOf cmpI) y x) = M
  have hMl : M.length = l.length := by rw [← hM, List.length_mergeSort, Array.length_toList, asArrI_size]
  have hMv : M.map (fun x => x.v) = sortD l := by
    refine sortD_unique ?_ ?_
    · rw [← hM]
      refine ((List.mergeSort_perm _ _).map _).trans ?_
      have : (asArrI l).toList = l.map toBI := by simp [asArrI]
      rw [this, map_toBI l hb]
    · rw [List.pairwise_map, ← hM]
      refine (List.pairwise_mergeSort ?_ ?_ _).imp ?_
      · intro x y z h1 h2
        rw [lt_cmpI] at *
        simp only [Bool.not_eq_true', decide_eq_false_iff_not] at *
        omega
      · intro x y
        rw [lt_cmpI, lt_cmpI]
        simp only [Bool.or_eq_true, Bool.not_eq_true', decide_eq_false_iff_not]
        omega
      · intro x y h1
        rw [lt_cmpI] at h1
        simp only [Bool.not_eq_true', decide_eq_false_iff_not] at h1
        omega
  obtain ⟨h1, h2⟩ := ho.putBI (q := n) (d := M) hb rfl hMl
  rw [hMv] at h1
  unfold sortWorld
  exact ⟨rfl, h1.keep (grown_grow _ os none) (by simp [Value.ownBlock]), grownBy_trans h2 (grown_grow _ os _)⟩
theorem sort_none (w : World) (p : Option Addr) (cap : Nat) (fv : Value) :
    Calls Try.prog 82 #[.slice p 0 cap, fv] w fun e w' => e = .returned (.tuple #[]) ∧ w' = w := AnyF.slices_SortFunc_none sortF0 p cap fv w
end Go.Proofs.Ytcngecibljgndaa
