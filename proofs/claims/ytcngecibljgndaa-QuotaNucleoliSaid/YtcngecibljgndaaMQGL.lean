/- The library's SortFunc at numbers: this program bears it. -/
import Derived.Test.YtcngecibljgndaaProg
import Derived.Shelf.SlLaysF
import Derived.Shelf.SlLaysF0
import Derived.Shelf.SlSortCmp.NoneTotal
import Derived.Test.YtcngecibljgndaaMQU
import Derived.Test.YtcngecibljgndaaMQCA
import Derived.Test.YtcngecibljgndaaMNE
namespace Go.Proofs.Ytcngecibljgndaa
open Go.Shelf
def sortFRen : Ren := ⟨fun | 6 => 82 | 15 => 119 | 14 => 118 | 28 => 136 | 29 => 137 | 20 => 128 | 21 => 129 | 22 => 130 | 23 => 131 | 24 => 132 | 25 => 133 | 26 => 134 | 27 => 135 | 46 => 147 | 47 => 148 | 48 => 149 | 49 => 150 | 50 => 151 | 57 => 156 | n => n, fun | 22 => 22 | 24 => 3 | 25 => 86 | 3 => 3 | 39 => 119 | 0 => 0 | 53 => 133 | 55 => 135 | 4 => 4 | 46 => 127 | 45 => 126 | 50 => 91 | 5 => 5 | 9 => 9 | 66 => 142 | 70 => 146 | 76 => 150 | 77 => 151 | n => n, fun n => n⟩
theorem sortF : SlLaysF.n6 Try.prog sortFRen where
  mixed := by kernel_rfl
  f6 := ⟨Try.f82.name, by kernel_rfl, Try.func82.trans (congrArg some (by kernel_rfl))⟩
  f14 := ⟨Try.f118.name, by kernel_rfl, Try.func118.trans (congrArg some (by kernel_rfl))⟩
  f15 := Try.func119.trans (congrArg some (by kernel_rfl))
  f20 := ⟨Try.f128.name, by kernel_rfl, Try.func128.trans (congrArg some (by kernel_rfl))⟩
  f21 := ⟨Try.f129.name, by kernel_rfl, Try.func129.trans (congrArg some (by kernel_rfl))⟩
  f22 := ⟨Try.f130.name, by kernel_rfl, Try.func130.trans (congrArg some (by kernel_rfl))⟩
  f23 := ⟨Try.f131.name, by kernel_rfl, Try.func131.trans (congrArg some (by kernel_rfl))⟩
  f24 := ⟨Try.f132.name, by kernel_rfl, Try.func132.trans (congrArg some (by kernel_rfl))⟩
  f25 := ⟨Try.f133.name, by kernel_rfl, Try.func133.trans (congrArg some (by kernel_rfl))⟩
  f26 := ⟨Try.f134.name, by kernel_rfl, Try.func134.trans (congrArg some (by kernel_rfl))⟩
  f27 := ⟨Try.f135.name, by kernel_rfl, Try.func135.trans (congrArg some (by kernel_rfl))⟩
  f28 := Try.func136.trans (congrArg some (by kernel_rfl))
  f29 := Try.func137.trans (congrArg some (by kernel_rfl))
  f46 := ⟨Try.f147.name, by kernel_rfl, Try.func147.trans (congrArg some (by kernel_rfl))⟩
  f47 := Try.func148.trans (congrArg some (by kernel_rfl))
  f48 := Try.func149.trans (congrArg some (by kernel_rfl))
  f49 := ⟨Try.f150.name, by kernel_rfl, Try.func150.trans (congrArg some (by kernel_rfl))⟩
  f50 := ⟨Try.f151.name, by kernel_rfl, Try.func151.trans (congrArg some (by kernel_rfl))⟩
  f57 := ⟨Try.f156.name, by kernel_rfl, Try.func156.trans (congrArg some (by kernel_rfl))⟩
  t0 := Try.underlying0
  a0 := Try.isAgg0
  z0 := Try.sizeOf0
  v0 := Try.zeroValue0
  t3 := Try.underlying3
  a3 := Try.isAgg3
  z3 := Try.sizeOf3
  v3 := Try.zeroValue3
  t4 := Try.underlying4
  a4 := Try.isAgg4
  z4 := Try.sizeOf4
  v4 := Try.zeroValue4
  t5 := Try.underlying5
  a5 := Try.isAgg5
  z5 := Try.sizeOf5
  v5 := Try.zeroValue5
  t9 := Try.underlying9
  a9 := Try.isAgg9
  z9 := Try.sizeOf9
  v9 := Try.zeroValue9
  t22 := Try.underlying22
  a22 := Try.isAgg22
  z22 := Try.sizeOf22
  v22 := Try.zeroValue22
  a24 := Try.isAgg3
  z24 := Try.sizeOf3
  t25 := Try.underlying86
  a25 := Try.isAgg86
  z25 := Try.sizeOf86
  v25 := Try.zeroValue86
  t39 := Try.underlying119
  a39 := Try.isAgg119
  z39 := Try.sizeOf119
  v39 := Try.zeroValue119
  t45 := Try.underlying126
  a45 := Try.isAgg126
  z45 := Try.sizeOf126
  v45 := Try.zeroValue126
  t46 := Try.underlying127
  a46 := Try.isAgg127
  z46 := Try.sizeOf127
  v46 := Try.zeroValue127
  t50 := Try.underlying91
  a50 := Try.isAgg91
  z50 := Try.sizeOf91
  v50 := Try.zeroValue91
  t53 := Try.underlying133
  a53 := Try.isAgg133
  z53 := Try.sizeOf133
  v53 := Try.zeroValue133
  t55 := Try.underlying135
  a55 := Try.isAgg135
  z55 := Try.sizeOf135
  v55 := Try.zeroValue135
  t66 := Try.underlying142
  a66 := Try.isAgg142
  z66 := Try.sizeOf142
  v66 := Try.zeroValue142
  t70 := Try.underlying146
  a70 := Try.isAgg146
  z70 := Try.sizeOf146
  v70 := Try.zeroValue146
  t76 := Try.underlying150
  a76 := Try.isAgg150
  z76 := Try.sizeOf150
  v76 := Try.zeroValue150
  t77 := Try.underlying151
  a77 := Try.isAgg151
  z77 := Try.sizeOf151
  v77 := Try.zeroValue151
def sortF0Ren : Ren := ⟨fun | 6 => 82 | 15 => 119 | 14 => 118 | 28 => 136 | 29 => 137 | 20 => 128 | 21 => 129 | 22 => 130 | 23 => 131 | 24 => 132 | 25 => 133 | 26 => 134 | 27 => 135 | 46 => 147 | 47 => 148 | 48 => 149 | 49 => 150 | 50 => 151 | 57 => 156 | n => n, fun | 22 => 22 | 24 => 3 | 25 => 86 | 3 => 3 | 39 => 119 | 0 => 0 | 53 => 133 | 55 => 135 | 4 => 4 | 46 => 127 | 45 => 126 | 50 => 91 | 5 => 5 | 9 => 9 | 66 => 142 | 70 => 146 | 76 => 150 | 77 => 151 | n => n, fun n => n⟩
theorem sortF0 : SlLaysF0.n6 Try.prog sortF0Ren where
  mixed := by kernel_rfl
  f6 := ⟨Try.f82.name, by kernel_rfl, Try.func82.trans (congrArg some (by kernel_rfl))⟩
  f14 := ⟨Try.f118.name, by kernel_rfl, Try.func118.trans (congrArg some (by kernel_rfl))⟩
  f15 := Try.func119.trans (congrArg some (by kernel_rfl))
  f20 := ⟨Try.f128.name, by kernel_rfl, Try.func128.trans (congrArg some (by kernel_rfl))⟩
  f21 := ⟨Try.f129.name, by kernel_rfl, Try.func129.trans (congrArg some (by kernel_rfl))⟩
  f22 := ⟨Try.f130.name, by kernel_rfl, Try.func130.trans (congrArg some (by kernel_rfl))⟩
  f23 := ⟨Try.f131.name, by kernel_rfl, Try.func131.trans (congrArg some (by kernel_rfl))⟩
  f24 := ⟨Try.f132.name, by kernel_rfl, Try.func132.trans (congrArg some (by kernel_rfl))⟩
  f25 := ⟨Try.f133.name, by kernel_rfl, Try.func133.trans (congrArg some (by kernel_rfl))⟩
  f26 := ⟨Try.f134.name, by kernel_rfl, Try.func134.trans (congrArg some (by kernel_rfl))⟩
  f27 := ⟨Try.f135.name, by kernel_rfl, Try.func135.trans (congrArg some (by kernel_rfl))⟩
  f28 := Try.func136.trans (congrArg some (by kernel_rfl))
  f29 := Try.func137.trans (congrArg some (by kernel_rfl))
  f46 := ⟨Try.f147.name, by kernel_rfl, Try.func147.trans (congrArg some (by kernel_rfl))⟩
  f47 := Try.func148.trans (congrArg some (by kernel_rfl))
  f48 := Try.func149.trans (congrArg some (by kernel_rfl))
  f49 := ⟨Try.f150.name, by kernel_rfl, Try.func150.trans (congrArg some (by kernel_rfl))⟩
  f50 := ⟨Try.f151.name, by kernel_rfl, Try.func151.trans (congrArg some (by kernel_rfl))⟩
  f57 := ⟨Try.f156.name, by kernel_rfl, Try.func156.trans (congrArg some (by kernel_rfl))⟩
  t0 := Try.underlying0
  a0 := Try.isAgg0
  z0 := Try.sizeOf0
  v0 := Try.zeroValue0
  t3 := Try.underlying3
  a3 := Try.isAgg3
  z3 := Try.sizeOf3
  v3 := Try.zeroValue3
  t4 := Try.underlying4
  a4 := Try.isAgg4
  z4 := Try.sizeOf4
  v4 := Try.zeroValue4
  t5 := Try.underlying5
  a5 := Try.isAgg5
  z5 := Try.sizeOf5
  v5 := Try.zeroValue5
  t9 := Try.underlying9
  a9 := Try.isAgg9
  z9 := Try.sizeOf9
  v9 := Try.zeroValue9
  t22 := Try.underlying22
  a22 := Try.isAgg22
  z22 := Try.sizeOf22
  v22 := Try.zeroValue22
  t25 := Try.underlying86
  a25 := Try.isAgg86
  z25 := Try.sizeOf86
  v25 := Try.zeroValue86
  t39 := Try.underlying119
  a39 := Try.isAgg119
  z39 := Try.sizeOf119
  v39 := Try.zeroValue119
  t45 := Try.underlying126
  a45 := Try.isAgg126
  z45 := Try.sizeOf126
  v45 := Try.zeroValue126
  t46 := Try.underlying127
  a46 := Try.isAgg127
  z46 := Try.sizeOf127
  v46 := Try.zeroValue127
  t50 := Try.underlying91
  a50 := Try.isAgg91
  z50 := Try.sizeOf91
  v50 := Try.zeroValue91
  t53 := Try.underlying133
  a53 := Try.isAgg133
  z53 := Try.sizeOf133
  v53 := Try.zeroValue133
  t55 := Try.underlying135
  a55 := Try.isAgg135
  z55 := Try.sizeOf135
  v55 := Try.zeroValue135
  t66 := Try.underlying142
  a66 := Try.isAgg142
  z66 := Try.sizeOf142
  v66 := Try.zeroValue142
  t70 := Try.underlying146
  a70 := Try.isAgg146
  z70 := Try.sizeOf146
  v70 := Try.zeroValue146
  t76 := Try.underlying150
  a76 := Try.isAgg150
  z76 := Try.sizeOf150
  v76 := Try.zeroValue150
  t77 := Try.underlying151
  a77 := Try.isAgg151
  z77 := Try.sizeOf151
  v77 := Try.zeroValue151
end Go.Proofs.Ytcngecibljgndaa

/- SortFunc at the excesses: the greatest first. -/
namespace Go.Proofs.Ytcngecibljgndaa
open Go.RowKit Go.Sort Go.Shelf

/-- A number that is no greater than a bound, either way. -/
structure BInt where
  v : Int
  h : -1000000000000 ≤ v ∧ v ≤ 1000000000000
instance : Inhabited BInt := ⟨⟨0, by decide⟩⟩
theorem BInt.ext2 {x y : BInt} (h : x.v = y.v) : x = y := by
  obtain ⟨a, _⟩ := x
  obtain ⟨b, _⟩ := y
  simp only at h
  subst h
  rfl
def BdI (z : Int) : Prop := -1000000000000 ≤ z ∧ z ≤ 1000000000000
instance (z : Int) : Decidable (BdI z) := by unfold BdI; infer_instance
def toBI (z : Int) : BInt := if h : BdI z then ⟨z, h⟩ else default
theorem toBI_v {z : Int} (h : BdI z) : (toBI z).v = z := by unfold toBI; rw [dif_pos h]
def encBI (x : BInt) : Value := .int .i64 x.v
def cmpI (x y : BInt) : Int := y.v - x.v
theorem lt_cmpI (x y : BInt) : ltOf cmpI x y = decide (y.v < x.v) := by
  unfold ltOf cmpI
  rw [decide_eq_decide]
  omega
theorem swo_cmpI : SWO (ltOf cmpI) where
  irrefl x := by rw [lt_cmpI]; simp
  trans x y z h1 h2 := by rw [lt_cmpI] at *; simp only [decide_eq_true_eq] at *; omega
  ntrans x y z h1 h2 := by rw [lt_cmpI] at *; simp only [decide_eq_false_iff_not] at *; omega
theorem cmpI_calls (x y : BInt) (W : World) : Calls Try.prog 83 #[.int .i64 x.v, .int .i64 y.v] W fun e w' => e = .returned (.int .i64 (cmpI x y)) ∧ ∃ q os', w' = grow (W.drewN q) os' := by
  obtain ⟨xv, hx0, hx1⟩ := x
  obtain ⟨yv, hy0, hy1⟩ := y
  unfold cmpI
  simp only
  go_enter Try.func83, Try.ntmps83
  go_wp2_with fail
  go_ret
  exact ⟨rfl, 0, #[], by rw [grow_empty]; rfl⟩
theorem cmpI_lays (blk off size : Nat) (w : World) : CmpLays1 Try.prog 83 #[] encBI cmpI blk off size w :=
  fun _ _ _ _ x y => cmpI_calls x y _
theorem eg_cmpI : ∀ args w, (callFunc 83 args).run Try.prog w = .ok (.enter 83 args) w := enters_of Try.func83 (by kernel_rfl) rfl
def asArrI (l : List Int) : Array BInt := (l.map toBI).toArray
theorem asArrI_size (l : List Int) : (asArrI l).size = l.length := by simp [asArrI]
theorem map_toBI (l : List Int) (hb : ∀ z ∈ l, BdI z) : (l.map toBI).map (fun x => x.v) = l := by
  rw [List.map_map]
  refine (List.map_congr_left (fun s hs => ?_)).trans (List.map_id l)
  exact toBI_v (hb s hs)
theorem Own.holdsBI {w : World} {B g off cap : Nat} {l : List Int} (h : Own w B 1 (.slice (some ⟨g, off, none⟩) l.length cap) (ints l)) (hb : ∀ z ∈ l, BdI z) : Holds encBI w g off (asArrI l) := by
  intro j hj
  have hj2 : j < l.length := by rw [← asArrI_size]; exact hj
  have hc := h.intAt j hj2
  refine ⟨?_, hc.2⟩
  rw [hc.1, getElem!_pos _ j hj]
  have e : (asArrI l)[j] = toBI l[j] := by simp [asArrI]
  rw [e]
  unfold encBI
  rw [toBI_v (hb _ (List.getElem_mem hj2))]
  simp [ith, hj2]
theorem Own.putBI {w : World} {B g off n cap q : Nat} {zs : List Int} {d : List BInt} (hb : ∀ z ∈ zs, BdI z) (h : Own w B 1 (.slice (some ⟨g, off, none⟩) n cap) (ints zs)) (hn : n = zs.length) (hd : d.length = zs.length) :
    Own (putRow encBI (Sort.ahead w q) g off d.toArray) B 1 (.slice (some ⟨g, off, none⟩) n cap) (ints (d.map fun x => x.v)) ∧ w.grownBy (putRow encBI (Sort.ahead w q) g off d.toArray) (some g) := by
  have hH : Holds encBI (Sort.ahead w q) g off (asArrI zs) := by subst hn; exact h.holdsBI hb
  refine ⟨?_, ⟨rfl, rfl, rfl, by simp, fun k _ hk => ?_⟩⟩
  · obtain ⟨n', hl, ⟨hv, _⟩ | ⟨g', off', cap', hv, hb, hlt, hnc, hcm, hc, hx⟩⟩ := h
    · simp at hv
    · simp only [Value.slice.injEq, Option.some.injEq, Addr.mk.injEq, and_true] at hv
      obtain ⟨⟨rfl, rfl⟩, rfl, rfl⟩ := hv
      have hsz : d.toArray.size = (asArrI zs).size := by simp [hd, asArrI_size]
      have hin : ∀ j, j < d.length → (putRow encBI (Sort.ahead w q) g off d.toArray).cell? ⟨g, off + j, none⟩ = some (.int .i64 (ith (d.map fun x => x.v) j)) := fun j hj => by
        rw [cell?_putRow _ _ _ _ (asArrI zs) d.toArray hH hsz j (by simpa using hj), getElem!_pos _ j (by simpa using hj)]
        simp [ith, hj, encBI]
      refine ⟨n, by rw [ints_length, List.length_map]; omega, .inr ⟨g, off, cap, rfl, hb, by simpa using hlt, hnc, hcm, fun j hj => ⟨?_, ?_⟩, fun j hj => ?_⟩⟩
      · by_cases hjd : j < d.length
        · rw [hin j hjd]; rfl
        · rw [cell?_putRow_other _ _ _ _ _ _ (.inr (.inr (by simp; omega)))]
          exact (hc j hj).1
      · rw [frozen?_putRow]; exact (hc j hj).2
      · rw [hin j (by omega), ints_at _ _ (by rw [List.length_map]; omega)]
  · have hne : ¬ g = k := fun e => hk (by rw [e])
    unfold putRow mapBlock
    simp [Array.getElem?_modify, hne]
theorem grown_grow (w : World) (os : Array Obj) (row : Option Nat) : w.grownBy (grow w os) row := ⟨rfl, rfl, rfl, by simp, fun _ hk _ => heap_grow_old w os hk⟩
/-- Numbers, the greatest first. -/
def sortD (l : List Int) : List Int := l.mergeSort (fun x y => decide (y ≤ x))
theorem sortD_perm (l : List Int) : (sortD l).Perm l := List.mergeSort_perm _ _
theorem sortD_sorted (l : List Int) : (sortD l).Pairwise (fun x y => y ≤ x) := by
  have := List.pairwise_mergeSort (le := fun x y : Int => decide (y ≤ x)) (by intro a b c h1 h2; simp at *; omega) (by intro a b; simp; omega) l
  exact this.imp (fun h => by simpa using h)
theorem sortD_length (l : List Int) : (sortD l).length = l.length := (sortD_perm l).length_eq
theorem sortD_unique {l m : List Int} (hp : m.Perm l) (hs : m.Pairwise (fun x y => y ≤ x)) : m = sortD l :=
  List.Perm.eq_of_pairwise (le := fun x y => y ≤ x) (fun _ _ _ _ h1 h2 => Int.le_antisymm h2 h1) hs (sortD_sorted l) (hp.trans (sortD_perm l).symm)
theorem sort_calls (w : World) (B g off cap : Nat) (l : List Int) (hb : ∀ z ∈ l, BdI z) (ho : Own w B 1 (.slice (some ⟨g, off, none⟩) l.length cap) (ints l)) (hl : l.length ≤ 10000000) :
    Calls Try.prog 82 #[.slice (some ⟨g, off, none⟩) l.length cap, .func (.func 83) #[] #[]] w fun e w' => e = .returned (.tuple #[]) ∧ Own w' B 1 (.slice (some ⟨g, off, none⟩) l.length cap) (ints (sortD l)) ∧ w.grownBy w' (some g) := by
  have hH := ho.holdsBI hb
  have hg := (ho.lt g rfl).2
  have hT : ∀ x y : BInt, (ltOf cmpI) x y = false → (ltOf cmpI) y x = false → x = y := by
    intro x y h1 h2
    rw [lt_cmpI] at h1 h2
    simp only [decide_eq_false_iff_not] at h1 h2
    exact BInt.ext2 (by omega)
  have h := Any.slices_SortFunc_total sortF encBI (fun _ => rfl) cmpI swo_cmpI 83 #[] g off cap (asArrI l) w eg_cmpI (cmpI_lays g off (asArrI l).size w) hH hg (by rw [asArrI_size]; omega) hT
  rw [asArrI_size] at h
  refine h.mono ?_
  rintro e w' ⟨rfl, n, os, rfl⟩
  generalize hM : ((asArrI l).toList.mergeSort fun x y => !(ltOf cmpI) y x) = M
  have hMl : M.length = l.length := by rw [← hM, List.length_mergeSort, Array.length_toList, asArrI_size]
  have hMv : M.map (fun x => x.v) = sortD l := by
    refine sortD_unique ?_ ?_
    · rw [← hM]
      refine ((List.mergeSort_perm _ _).map _).trans ?_
      have : (asArrI l).toList = l.map toBI := by simp [asArrI]
      rw [this, map_toBI l hb]
    · rw [List.pairwise_map, ← hM]
      refine (List.pairwise_mergeSort ?_ ?_ _).imp ?_
      · intro x y z h1 h2
        rw [lt_cmpI] at *
        simp only [Bool.not_eq_true', decide_eq_false_iff_not] at *
        omega
      · intro x y
        rw [lt_cmpI, lt_cmpI]
        simp only [Bool.or_eq_true, Bool.not_eq_true', decide_eq_false_iff_not]
        omega
      · intro x y h1
        rw [lt_cmpI] at h1
        simp only [Bool.not_eq_true', decide_eq_false_iff_not] at h1
        omega
  obtain ⟨h1, h2⟩ := ho.putBI (q := n) (d := M) hb rfl hMl
  rw [hMv] at h1
  unfold sortWorld
  exact ⟨rfl, h1.keep (grown_grow _ os none) (by simp [Value.ownBlock]), grownBy_trans h2 (grown_grow _ os _)⟩
theorem sort_none (w : World) (p : Option Addr) (cap : Nat) (fv : Value) :
    Calls Try.prog 82 #[.slice p 0 cap, fv] w fun e w' => e = .returned (.tuple #[]) ∧ w' = w := AnyF.slices_SortFunc_none sortF0 p cap fv w
end Go.Proofs.Ytcngecibljgndaa

/- Excesses in order: those of the Talmud's shares come first; plain. -/
namespace Go.Proofs.Ytcngecibljgndaa
open Go.RowKit Go.Shelf

theorem countP_le_of {p q : Nat → Bool} : ∀ {l : List Nat}, (∀ x ∈ l, p x = true → q x = true) → l.countP p ≤ l.countP q
  | [], _ => Nat.le_refl _
  | x :: l, h => by
    have ih := countP_le_of (l := l) (fun y hy => h y (List.mem_cons_of_mem _ hy))
    have hx := h x (by simp)
    rw [List.countP_cons, List.countP_cons]
    cases hp : p x <;> cases hq : q x <;> simp_all <;> omega
theorem countP_lt_of {p q : Nat → Bool} {a : Nat} (hq : q a = true) (hp : p a = false) : ∀ {l : List Nat}, a ∈ l → (∀ x ∈ l, p x = true → q x = true) → l.countP p < l.countP q
  | x :: l, ha, h => by
    have h1 : ∀ y ∈ l, p y = true → q y = true := fun y hy => h y (List.mem_cons_of_mem _ hy)
    have hx := h x (by simp)
    rw [List.countP_cons, List.countP_cons]
    rcases List.mem_cons.1 ha with e | e
    · subst e
      have := countP_le_of h1
      rw [hp, hq]
      simp; omega
    · have := countP_lt_of hq hp e h1
      cases hp : p x <;> cases hq : q x <;> simp_all <;> omega
theorem countP_idx (l : List Int) (p : Int → Bool) : l.countP p = (List.range l.length).countP fun j => p (ith l j) := by
  have e : l = (List.range l.length).map (ith l) := by
    refine List.ext_getElem (by simp) (fun i h1 h2 => ?_)
    simp [ith, h1]
  rw [show (fun j => p (ith l j)) = p ∘ ith l from rfl, ← List.countP_map]
  conv => lhs; rw [e]
theorem desc_count (k m : Int) (hk : 0 < k) : ∀ (L : List Int), L.Pairwise (fun x y => y ≤ x) → ∀ i, i < L.length → (m ≤ ith L i * k ↔ i < L.countP fun a => decide (m ≤ a * k))
  | [], _, i, hi => by simp at hi
  | x :: r, hs, i, hi => by
    rw [List.pairwise_cons] at hs
    rw [List.countP_cons]
    by_cases hx : m ≤ x * k
    · rw [if_pos (by simpa using hx)]
      match i with
      | 0 => exact ⟨fun _ => by omega, fun _ => by simpa [ith] using hx⟩
      | i + 1 =>
        have e : ith (x :: r) (i + 1) = ith r i := by simp [ith]
        rw [e, desc_count k m hk r hs.2 i (by simpa using hi)]
        omega
    · rw [if_neg (by simpa using hx)]
      have hall : ∀ y ∈ r, ¬ m ≤ y * k := fun y hy h => by
        have := Int.mul_le_mul_of_nonneg_right (hs.1 y hy) (show 0 ≤ k by omega)
        omega
      have h0 : (r.countP fun a => decide (m ≤ a * k)) = 0 := by
        rw [List.countP_eq_zero]
        intro y hy
        simpa using hall y hy
      rw [h0]
      refine ⟨fun h => ?_, fun h => by omega⟩
      match i with
      | 0 => exact absurd h (by simpa [ith] using hx)
      | i + 1 =>
        have e : ith (x :: r) (i + 1) = ith r i := by simp [ith]
        rw [e] at h
        refine absurd h (hall _ ?_)
        have hi' : i < r.length := by simpa using hi
        rw [ith_get _ hi']
        exact List.getElem_mem _
/-- One list comes lexicographically at or behind another one, each divided by a number. -/
def LaterB (A : List Int) (x : Int) (B : List Int) (y : Int) : Prop := ∀ i, i < A.length → i < B.length → (∀ j, j < i → ith A j * y = ith B j * x) → ith B i * x ≤ ith A i * y
/-- Excesses with Kohlberg's condition come first. -/
theorem KP.first {n : Nat} {v : Nat → Int} {E dx dy : Int} {x y : Nat → Int} {lx ly : List Int} (hx : ExcOf n v E x dx lx) (hy : ExcOf n v E y dy ly) (hl : ly.length = lx.length) (hk : KP n lx) : LaterB (sortD ly) dy (sortD lx) dx := by
  intro i hi1 hi2 hj
  rw [sortD_length] at hi1 hi2
  refine Classical.byContradiction fun hn => ?_
  have hdx := hx.den
  have hdy := hy.den
  have cA : ∀ m i, i < ly.length → (m ≤ ith (sortD ly) i * dx ↔ i < (List.range lx.length).countP fun j => decide (m ≤ ith ly j * dx)) := fun m i hi => by
    rw [desc_count dx m hdx _ (sortD_sorted ly) i (by rw [sortD_length]; exact hi), (sortD_perm ly).countP_eq, countP_idx, hl]
  have cB : ∀ m i, i < lx.length → (m ≤ ith (sortD lx) i * dy ↔ i < (List.range lx.length).countP fun j => decide (m ≤ ith lx j * dy)) := fun m i hi => by
    rw [desc_count dy m hdy _ (sortD_sorted lx) i (by rw [sortD_length]; exact hi), (sortD_perm lx).countP_eq, countP_idx]
  have key : ∀ p, p < lx.length → ith lx p * dy ≠ ith ly p * dx → ∃ M, (∀ j, j < lx.length → ith lx j * dy ≠ ith ly j * dx → ith lx j * dy < M ∧ ith ly j * dx ≤ M) ∧ ∃ q, q < lx.length ∧ ith lx q * dy < M ∧ ith ly q * dx = M := by
    intro p hp hne
    obtain ⟨q, hq, hqp, hqm⟩ := argmax (fun j => ith lx j * dy ≠ ith ly j * dx) (fun j => max (ith lx j * dy) (ith ly j * dx)) lx.length ⟨p, hp, hne⟩
    have hcore : ∀ j, j < lx.length → ith ly j * dx < ith lx j * dy → ith lx j * dy < max (ith lx q * dy) (ith ly q * dx) := fun j h1 h2 => by
      obtain ⟨i2, h3, h4, h5⟩ := hk.core hx hy hl h1 h2
      have h6 := hqm i2 h3 (by omega)
      have h7 := Int.mul_le_mul_of_nonneg_right h4 (show 0 ≤ dy by omega)
      omega
    refine ⟨max (ith lx q * dy) (ith ly q * dx), fun j h1 h2 => ?_, q, hq, ?_, ?_⟩
    · have h3 := hqm j h1 h2
      rcases Int.lt_or_le (ith ly j * dx) (ith lx j * dy) with h4 | h4
      · have := hcore j h1 h4; omega
      · omega
    · rcases Int.lt_or_le (ith ly q * dx) (ith lx q * dy) with h4 | h4
      · have := hcore q hq h4; omega
      · omega
    · rcases Int.lt_or_le (ith ly q * dx) (ith lx q * dy) with h4 | h4
      · have := hcore q hq h4; omega
      · omega
  have hB : i < (List.range lx.length).countP fun j => decide (ith (sortD lx) i * dy ≤ ith lx j * dy) := (cB _ i (by omega)).1 (Int.le_refl _)
  have hA : ¬ i < (List.range lx.length).countP fun j => decide (ith (sortD lx) i * dy ≤ ith ly j * dx) := fun h => hn ((cA _ i (by omega)).2 h)
  have hdiff : ∃ p, p < lx.length ∧ ith lx p * dy ≠ ith ly p * dx := Classical.byContradiction fun hno => by
    have := countP_le_of (p := fun j => decide (ith (sortD lx) i * dy ≤ ith lx j * dy)) (q := fun j => decide (ith (sortD lx) i * dy ≤ ith ly j * dx)) (l := List.range lx.length) (fun j hj h => by
      rw [List.mem_range] at hj
      have he : ith lx j * dy = ith ly j * dx := Classical.byContradiction fun h' => hno ⟨j, hj, h'⟩
      rw [decide_eq_true_eq] at h ⊢; omega)
    omega
  obtain ⟨p, hp, hpn⟩ := hdiff
  obtain ⟨M, hM, q, hq, hq1, hq2⟩ := key p hp hpn
  by_cases hm : M ≤ ith (sortD lx) i * dy
  · have := countP_le_of (p := fun j => decide (ith (sortD lx) i * dy ≤ ith lx j * dy)) (q := fun j => decide (ith (sortD lx) i * dy ≤ ith ly j * dx)) (l := List.range lx.length) (fun j hj h => by
      rw [List.mem_range] at hj
      rw [decide_eq_true_eq] at h ⊢
      by_cases he : ith lx j * dy = ith ly j * dx
      · omega
      · have := hM j hj he; omega)
    omega
  · have hlt := countP_lt_of (p := fun j => decide (M ≤ ith lx j * dy)) (q := fun j => decide (M ≤ ith ly j * dx)) (a := q) (l := List.range lx.length) (by simp; omega) (by simp; omega) (List.mem_range.2 hq) (fun j hj h => by
      rw [List.mem_range] at hj
      rw [decide_eq_true_eq] at h ⊢
      by_cases he : ith lx j * dy = ith ly j * dx
      · omega
      · have := hM j hj he; omega)
    obtain ⟨c, hc⟩ : ∃ c, c = (List.range lx.length).countP fun j => decide (M ≤ ith lx j * dy) := ⟨_, rfl⟩
    rw [← hc] at hlt
    have hclen : c < lx.length := by
      have := List.countP_le_length (l := List.range lx.length) (p := fun j => decide (M ≤ ith ly j * dx))
      rw [List.length_range] at this; omega
    have a1 := (cA M c (by omega)).2 hlt
    have b1 : ¬ M ≤ ith (sortD lx) c * dy := fun h => by
      have := (cB M c hclen).1 h
      omega
    rcases Nat.lt_or_ge c i with h1 | h1
    · have := hj c h1; omega
    · rcases Nat.lt_or_ge i c with h2 | h2
      · have := (cB M i (by omega)).2 (by omega)
        omega
      · obtain rfl : c = i := by omega
        omega
theorem exc_first {E : Int} {xs : List Int} (h : IsProb E xs) {l : List Int} {d : Int} (hS : IsSh E xs l d) : LaterB (sortD (excP E xs l d)) d (sortD (excP E xs (lowP (talmudP E xs)).1 (lowP (talmudP E xs)).2)) (lowP (talmudP E xs)).2 := by
  by_cases hn : 2 ≤ xs.length
  · have hr : Shares E xs (talmudP E xs) := rule_shares (rule := 3) h
    have hT := low_is hr
    obtain ⟨g, hg, g1, g2⟩ := low_times (p := talmudP E xs) (by have := hr.den; omega)
    have hlen : (talmudP E xs).1.length = xs.length := hr.len
    have hL := talmud_levels h hn hT (fun i hi => by rw [g1, g2 i (by omega)]; grind)
    have hd := hS.den
    have htd := hT.den
    exact (levels_KP hL).first (exc_of (by omega) hT.len hT.sum) (exc_of (by omega) hS.len hS.sum) (by rw [exc_len, exc_len])
  · intro i hi
    have := h.one
    rw [sortD_length, exc_len, show xs.length = 1 by omega] at hi
    omega
end Go.Proofs.Ytcngecibljgndaa
