/- The library's Sorted, Sort, Compact, Reverse, Delete and Index: this program bears them. -/
import Derived.Test.YtcngecibljgndaaProg
import Derived.Shelf.SlIterI.Sorted
import Derived.Shelf.SortM.Plain
import Derived.Shelf.SortM.SortNone
import Derived.Shelf.SlicesG.CompactI
import Derived.Shelf.SlicesG.Reverse
import Derived.Shelf.SlicesE.Delete
import Derived.Shelf.SlicesE.Index
import Derived.Test.YtcngecibljgndaaMQK
namespace Go.Proofs.Ytcngecibljgndaa
open Go.Shelf
def sortedIRen : Ren := ⟨fun | 6 => 63 | 8 => 99 | 9 => 100 | 11 => 122 | 13 => 119 | 12 => 123 | 23 => 136 | 24 => 137 | 14 => 138 | 15 => 139 | 16 => 140 | 17 => 141 | 18 => 142 | 19 => 143 | 20 => 144 | 21 => 145 | 22 => 146 | 25 => 152 | 26 => 148 | 27 => 149 | 28 => 153 | 29 => 154 | 30 => 155 | 31 => 157 | n => n, fun | 26 => 3 | 28 => 70 | 24 => 22 | 0 => 0 | 3 => 3 | 37 => 119 | 48 => 133 | 50 => 135 | 4 => 4 | 40 => 127 | 39 => 126 | 45 => 91 | 5 => 5 | 9 => 9 | 51 => 142 | 55 => 146 | 57 => 150 | 58 => 151 | 33 => 85 | n => n, fun n => n⟩
theorem sortedI : SlLaysZI.n6 Try.prog sortedIRen where
  mixed := by kernel_rfl
  f6 := ⟨Try.f63.name, by kernel_rfl, Try.func63.trans (congrArg some (by kernel_rfl))⟩
  f8 := ⟨Try.f99.name, by kernel_rfl, Try.func99.trans (congrArg some (by kernel_rfl))⟩
  f11 := ⟨Try.f122.name, by kernel_rfl, Try.func122.trans (congrArg some (by kernel_rfl))⟩
  t0 := Try.underlying0
  a0 := Try.isAgg0
  z0 := Try.sizeOf0
  v0 := Try.zeroValue0
  t24 := Try.underlying22
  a24 := Try.isAgg22
  z24 := Try.sizeOf22
  v24 := Try.zeroValue22
  t26 := Try.underlying3
  a26 := Try.isAgg3
  z26 := Try.sizeOf3
  v26 := Try.zeroValue3
  t28 := Try.underlying70
  a28 := Try.isAgg70
  z28 := Try.sizeOf70
  v28 := Try.zeroValue70
  i26 := by kernel_rfl
def sortIntsRen : Ren := ⟨fun | 5 => 100 | 8 => 119 | 7 => 123 | 19 => 136 | 20 => 137 | 10 => 138 | 11 => 139 | 12 => 140 | 13 => 141 | 14 => 142 | 15 => 143 | 16 => 144 | 17 => 145 | 18 => 146 | 30 => 152 | 31 => 148 | 32 => 149 | 33 => 153 | 34 => 154 | 35 => 155 | 40 => 157 | n => n, fun | 23 => 22 | 25 => 3 | 3 => 3 | 32 => 119 | 22 => 22 | 0 => 0 | 44 => 133 | 46 => 135 | 4 => 4 | 36 => 127 | 35 => 126 | 41 => 91 | 5 => 5 | 9 => 9 | 53 => 142 | 57 => 146 | 63 => 150 | 64 => 151 | n => n, fun n => n⟩
theorem sortInts : SlLaysM.n5 Try.prog sortIntsRen where
  mixed := by kernel_rfl
  f5 := ⟨Try.f100.name, by kernel_rfl, Try.func100.trans (congrArg some (by kernel_rfl))⟩
  f7 := ⟨Try.f123.name, by kernel_rfl, Try.func123.trans (congrArg some (by kernel_rfl))⟩
  f8 := Try.func119.trans (congrArg some (by kernel_rfl))
  f10 := ⟨Try.f138.name, by kernel_rfl, Try.func138.trans (congrArg some (by kernel_rfl))⟩
  f11 := ⟨Try.f139.name, by kernel_rfl, Try.func139.trans (congrArg some (by kernel_rfl))⟩
  f12 := ⟨Try.f140.name, by kernel_rfl, Try.func140.trans (congrArg some (by kernel_rfl))⟩
  f13 := ⟨Try.f141.name, by kernel_rfl, Try.func141.trans (congrArg some (by kernel_rfl))⟩
  f14 := ⟨Try.f142.name, by kernel_rfl, Try.func142.trans (congrArg some (by kernel_rfl))⟩
  f15 := ⟨Try.f143.name, by kernel_rfl, Try.func143.trans (congrArg some (by kernel_rfl))⟩
  f16 := ⟨Try.f144.name, by kernel_rfl, Try.func144.trans (congrArg some (by kernel_rfl))⟩
  f17 := ⟨Try.f145.name, by kernel_rfl, Try.func145.trans (congrArg some (by kernel_rfl))⟩
  f18 := ⟨Try.f146.name, by kernel_rfl, Try.func146.trans (congrArg some (by kernel_rfl))⟩
  f19 := Try.func136.trans (congrArg some (by kernel_rfl))
  f20 := Try.func137.trans (congrArg some (by kernel_rfl))
  f30 := ⟨Try.f152.name, by kernel_rfl, Try.func152.trans (congrArg some (by kernel_rfl))⟩
  f31 := Try.func148.trans (congrArg some (by kernel_rfl))
  f32 := Try.func149.trans (congrArg some (by kernel_rfl))
  f33 := ⟨Try.f153.name, by kernel_rfl, Try.func153.trans (congrArg some (by kernel_rfl))⟩
  f34 := ⟨Try.f154.name, by kernel_rfl, Try.func154.trans (congrArg some (by kernel_rfl))⟩
  f35 := ⟨Try.f155.name, by kernel_rfl, Try.func155.trans (congrArg some (by kernel_rfl))⟩
  f40 := ⟨Try.f157.name, by kernel_rfl, Try.func157.trans (congrArg some (by kernel_rfl))⟩
  t0 := Try.underlying0
  a0 := Try.isAgg0
  z0 := Try.sizeOf0
  v0 := Try.zeroValue0
  t3 := Try.underlying3
  a3 := Try.isAgg3
  z3 := Try.sizeOf3
  v3 := Try.zeroValue3
  t4 := Try.underlying4
  a4 := Try.isAgg4
  z4 := Try.sizeOf4
  v4 := Try.zeroValue4
  t5 := Try.underlying5
  a5 := Try.isAgg5
  z5 := Try.sizeOf5
  v5 := Try.zeroValue5
  t9 := Try.underlying9
  a9 := Try.isAgg9
  z9 := Try.sizeOf9
  v9 := Try.zeroValue9
  t22 := Try.underlying22
  a22 := Try.isAgg22
  z22 := Try.sizeOf22
  v22 := Try.zeroValue22
  t23 := Try.underlying22
  a23 := Try.isAgg22
  z23 := Try.sizeOf22
  v23 := Try.zeroValue22
  t25 := Try.underlying3
  a25 := Try.isAgg3
  z25 := Try.sizeOf3
  v25 := Try.zeroValue3
  t32 := Try.underlying119
  a32 := Try.isAgg119
  z32 := Try.sizeOf119
  v32 := Try.zeroValue119
  t35 := Try.underlying126
  a35 := Try.isAgg126
  z35 := Try.sizeOf126
  v35 := Try.zeroValue126
  t36 := Try.underlying127
  a36 := Try.isAgg127
  z36 := Try.sizeOf127
  v36 := Try.zeroValue127
  t41 := Try.underlying91
  a41 := Try.isAgg91
  z41 := Try.sizeOf91
  v41 := Try.zeroValue91
  t44 := Try.underlying133
  a44 := Try.isAgg133
  z44 := Try.sizeOf133
  v44 := Try.zeroValue133
  t46 := Try.underlying135
  a46 := Try.isAgg135
  z46 := Try.sizeOf135
  v46 := Try.zeroValue135
  t53 := Try.underlying142
  a53 := Try.isAgg142
  z53 := Try.sizeOf142
  v53 := Try.zeroValue142
  t57 := Try.underlying146
  a57 := Try.isAgg146
  z57 := Try.sizeOf146
  v57 := Try.zeroValue146
  t63 := Try.underlying150
  a63 := Try.isAgg150
  z63 := Try.sizeOf150
  v63 := Try.zeroValue150
  t64 := Try.underlying151
  a64 := Try.isAgg151
  z64 := Try.sizeOf151
  v64 := Try.zeroValue151
def compactIRen : Ren := ⟨fun | 43 => 62 | n => n, fun | 22 => 22 | 23 => 3 | 3 => 3 | 4 => 4 | 0 => 0 | n => n, fun n => n⟩
theorem compactI : SlLaysN.n43 Try.prog compactIRen where
  mixed := by kernel_rfl
  f43 := ⟨Try.f62.name, by kernel_rfl, Try.func62.trans (congrArg some (by kernel_rfl))⟩
  t0 := Try.underlying0
  a0 := Try.isAgg0
  z0 := Try.sizeOf0
  v0 := Try.zeroValue0
  t3 := Try.underlying3
  a3 := Try.isAgg3
  z3 := Try.sizeOf3
  v3 := Try.zeroValue3
  t4 := Try.underlying4
  a4 := Try.isAgg4
  z4 := Try.sizeOf4
  v4 := Try.zeroValue4
  t22 := Try.underlying22
  a22 := Try.isAgg22
  z22 := Try.sizeOf22
  v22 := Try.zeroValue22
  t23 := Try.underlying3
  a23 := Try.isAgg3
  z23 := Try.sizeOf3
  v23 := Try.zeroValue3
  i23 := by kernel_rfl
def revIntsRen : Ren := ⟨fun | 35 => 65 | n => n, fun | 22 => 22 | 23 => 3 | 3 => 3 | 4 => 4 | 0 => 0 | n => n, fun n => n⟩
theorem revInts : SlLaysN.n35 Try.prog revIntsRen where
  mixed := by kernel_rfl
  f35 := ⟨Try.f65.name, by kernel_rfl, Try.func65.trans (congrArg some (by kernel_rfl))⟩
  t0 := Try.underlying0
  a0 := Try.isAgg0
  z0 := Try.sizeOf0
  v0 := Try.zeroValue0
  t3 := Try.underlying3
  a3 := Try.isAgg3
  z3 := Try.sizeOf3
  v3 := Try.zeroValue3
  t4 := Try.underlying4
  a4 := Try.isAgg4
  z4 := Try.sizeOf4
  v4 := Try.zeroValue4
  t22 := Try.underlying22
  a22 := Try.isAgg22
  z22 := Try.sizeOf22
  v22 := Try.zeroValue22
  t23 := Try.underlying3
  a23 := Try.isAgg3
  z23 := Try.sizeOf3
  v23 := Try.zeroValue3
def delRowsRen : Ren := ⟨fun | 45 => 105 | n => n, fun | 22 => 101 | 23 => 22 | 3 => 3 | 4 => 4 | 0 => 0 | n => n, fun n => n⟩
theorem delRows : SlLaysE.n45 Try.prog delRowsRen where
  mixed := by kernel_rfl
  f45 := ⟨Try.f105.name, by kernel_rfl, Try.func105.trans (congrArg some (by kernel_rfl))⟩
  t0 := Try.underlying0
  a0 := Try.isAgg0
  z0 := Try.sizeOf0
  v0 := Try.zeroValue0
  t3 := Try.underlying3
  a3 := Try.isAgg3
  z3 := Try.sizeOf3
  v3 := Try.zeroValue3
  t4 := Try.underlying4
  a4 := Try.isAgg4
  z4 := Try.sizeOf4
  v4 := Try.zeroValue4
  t22 := Try.underlying101
  a22 := Try.isAgg101
  z22 := Try.sizeOf101
  v22 := Try.zeroValue101
  a23 := Try.isAgg22
  z23 := Try.sizeOf22
def delIntsRen : Ren := ⟨fun | 45 => 106 | n => n, fun | 22 => 22 | 23 => 3 | 3 => 3 | 4 => 4 | 0 => 0 | n => n, fun n => n⟩
theorem delInts : SlLaysE.n45 Try.prog delIntsRen where
  mixed := by kernel_rfl
  f45 := ⟨Try.f106.name, by kernel_rfl, Try.func106.trans (congrArg some (by kernel_rfl))⟩
  t0 := Try.underlying0
  a0 := Try.isAgg0
  z0 := Try.sizeOf0
  v0 := Try.zeroValue0
  t3 := Try.underlying3
  a3 := Try.isAgg3
  z3 := Try.sizeOf3
  v3 := Try.zeroValue3
  t4 := Try.underlying4
  a4 := Try.isAgg4
  z4 := Try.sizeOf4
  v4 := Try.zeroValue4
  t22 := Try.underlying22
  a22 := Try.isAgg22
  z22 := Try.sizeOf22
  v22 := Try.zeroValue22
  a23 := Try.isAgg3
  z23 := Try.sizeOf3
end Go.Proofs.Ytcngecibljgndaa

/- ready: the walk. -/
namespace Go.Proofs.Ytcngecibljgndaa
open Go.RowKit Go.Shelf Go.Sort

def nzB (n : Int) : Bool := n != 0
theorem nz_calls (w : World) (n : Int) : Calls Try.prog 104 #[.int .i64 n] w fun e w' => e = .returned (.bool (nzB n)) ∧ Ext w w' := by
  go_enter Try.func104, Try.ntmps104
  go_wp2_with fail
  go_ret
  exact ⟨rfl, Ext.refl _⟩
theorem enters_nz : ∀ args w, (callFunc 104 args).run Try.prog w = .ok (.enter 104 args) w := enters_of Try.func104 (by kernel_rfl) rfl
theorem pred_nz (w : World) : PredI w 104 #[] nzB := ⟨fun args w' => enters_nz args w', fun w' x _ => nz_calls w' x⟩

/-- A slice without its last element. -/
def DropRes (w : World) (g n c : Nat) (e : Ending) (w' : World) : Prop := e = .returned (.slice (some ⟨g, 0, none⟩) (n - 1) c) ∧ w.grownBy w' (some g) ∧ ∀ q, q + 1 < n → w'.cell? ⟨g, q, none⟩ = w.cell? ⟨g, q, none⟩ ∧ w'.frozen? ⟨g, q, none⟩ = w.frozen? ⟨g, q, none⟩
theorem dropRes_of {α : Type} [Inhabited α] (enc : α → Value) (w : World) (g n c q : Nat) (d : Array α) (x : α) (hn : d.size = n) (h1 : 1 ≤ n) (hH : Holds enc w g 0 d) :
    DropRes w g n c (.returned (.slice (some ⟨g, 0, none⟩) (d.size - (n - 1 + 1 - (n - 1))) c)) (putRow enc (Sort.ahead w q) g 0 (d.toList.take (n - 1) ++ d.toList.drop (n - 1 + 1) ++ List.replicate (n - 1 + 1 - (n - 1)) x).toArray) := by
  have hsz : (d.toList.take (n - 1) ++ d.toList.drop (n - 1 + 1) ++ List.replicate (n - 1 + 1 - (n - 1)) x).toArray.size = d.size := by simp; omega
  have hH2 : Holds enc (Sort.ahead w q) g 0 d := hH
  refine ⟨by rw [hn]; congr 2; omega, ⟨rfl, rfl, rfl, by simp, fun k _ hk => ?_⟩, fun k hk => ⟨?_, by rw [frozen?_putRow]; rfl⟩⟩
  · have hne : ¬ g = k := fun e => hk (by rw [e])
    unfold putRow mapBlock
    simp [Array.getElem?_modify, hne]
  · have h3 := cell?_putRow enc (Sort.ahead w q) g 0 d _ hH2 hsz k (by rw [hsz, hn]; omega)
    have h4 := (hH k (by omega)).1
    rw [Nat.zero_add] at h3 h4
    rw [h3, h4]
    congr 2
    rw [getElem!_pos _ k (by rw [hsz, hn]; omega), getElem!_pos d k (by omega)]
    simp only [List.getElem_toArray]
    rw [List.getElem_append_left (by simp; omega), List.getElem_append_left (by simp; omega)]
    simp

def encR (m : Nat) : Option Nat → Value
  | none => .slice none 0 0
  | some b => .slice (some ⟨b, 0, none⟩) m m
theorem info_row : (Try.prog.info? 22).map (fun i => (i.zero, i.size, i.bytes)) = some (some (.slice none 0 0), 1, 24) := by kernel_rfl
theorem delRows_calls (w : World) (g n c m : Nat) (rb : Nat → Nat) (hc : ∀ q, q < n → w.cell? ⟨g, q, none⟩ = some (.slice (some ⟨rb q, 0, none⟩) m m) ∧ w.frozen? ⟨g, q, none⟩ = false) (h1 : 1 ≤ n) (hnc : n ≤ c) (hcm : c ≤ 9223372036854775807) :
    Calls Try.prog 105 #[.slice (some ⟨g, 0, none⟩) n c, .int .i64 ((n - 1 : Nat) : Int), .int .i64 ((n - 1 + 1 : Nat) : Int)] w (DropRes w g n c) := by
  obtain ⟨i0, hi, hz0, hz1, hz2⟩ := info_parts info_row
  have hsz : ((List.range n).map (fun q => some (rb q))).toArray.size = n := by simp
  have hH : Holds (encR m) w g 0 ((List.range n).map (fun q => some (rb q))).toArray := by
    intro j hj
    rw [hsz] at hj
    have := hc j hj
    rw [Nat.zero_add]
    refine ⟨?_, this.2⟩
    rw [this.1, getElem!_pos _ j (by rw [hsz]; exact hj)]
    simp [encR]
  have := AnyE.slices_Delete delRows (encR m) (by intro x; cases x <;> rfl) none (fun w => Try.zeroValue22 w) i0 hi hz1 g 0 c (n - 1) (n - 1 + 1) ((List.range n).map (fun q => some (rb q))).toArray w hH (by rw [hsz]; exact hnc) (by omega) (by omega) (by rw [hsz]; omega)
  rw [hsz] at this
  refine Calls.mono this ?_
  rintro e w' ⟨rfl, q, rfl⟩
  have h := dropRes_of (encR m) w g n c q _ none hsz h1 hH
  rw [hsz] at h
  exact h
theorem delInts_calls (w : World) (g n c : Nat) (xs : List Int) (hl : xs.length = n) (hc : ∀ q, q < n → w.cell? ⟨g, q, none⟩ = some (.int .i64 (ith xs q)) ∧ w.frozen? ⟨g, q, none⟩ = false) (h1 : 1 ≤ n) (hnc : n ≤ c) (hcm : c ≤ 9223372036854775807) :
    Calls Try.prog 106 #[.slice (some ⟨g, 0, none⟩) n c, .int .i64 ((n - 1 : Nat) : Int), .int .i64 ((n - 1 + 1 : Nat) : Int)] w (DropRes w g n c) := by
  obtain ⟨i0, hi, hz0, hz1, hz2⟩ := info_parts info_int
  have hsz : xs.toArray.size = n := by simp [hl]
  have hH : Holds (Value.int .i64) w g 0 xs.toArray := by
    intro j hj
    rw [hsz] at hj
    have := hc j hj
    rw [Nat.zero_add]
    refine ⟨?_, this.2⟩
    rw [this.1, getElem!_pos _ j (by rw [hsz]; exact hj)]
    simp [ith, hl, hj]
  have := AnyE.slices_Delete delInts (Value.int .i64) (by intro x; rfl) 0 (fun w => Try.zeroValue3 w) i0 hi hz1 g 0 c (n - 1) (n - 1 + 1) xs.toArray w hH (by rw [hsz]; exact hnc) (by omega) (by omega) (by rw [hsz]; omega)
  rw [hsz] at this
  refine Calls.mono this ?_
  rintro e w' ⟨rfl, q, rfl⟩
  have h := dropRes_of (Value.int .i64) w g n c q _ 0 hsz h1 hH
  rw [hsz] at h
  exact h
end Go.Proofs.Ytcngecibljgndaa

/- ready: the loop. -/
namespace Go.Proofs.Ytcngecibljgndaa
open Go.RowKit Go.Shelf

def dropP (T : Tab) : Tab := { T with rows := T.rows.dropLast, basis := T.basis.dropLast }
def readyLoop : Nat → Nat → Tab → Option Tab
  | 0, _, _ => none
  | f + 1, i, T => if T.sm = true then (if i < T.rows.length then (if ith T.basis i < T.sets then readyLoop f (i + 1) T
      else if firstI nzB ((T.row i).take T.sets) < 0 then (if i + 1 = T.rows.length ∧ 2 ≤ T.rows.length then readyLoop f i (dropP T) else none)
      else if T.ent i (firstI nzB ((T.row i).take T.sets)).toNat < 0 then none else readyLoop f (i + 1) (pivotP T i (firstI nzB ((T.row i).take T.sets)).toNat)) else some T) else none
def readyP (f : Nat) (T : Tab) : Option Tab := match runP (T.sets + T.n) f T with | none => none | some T1 => if T1.sets = T.sets ∧ T1.n = T.n ∧ T1.sm = true ∧ ith T1.goal (T.sets + T.n) = 0 then readyLoop f 0 T1 else none

theorem ith_take (xs : List Int) (n k : Nat) (h : k < n) : ith (xs.take n) k = ith xs k := by
  simp only [ith, List.getD_eq_getElem?_getD, List.getElem?_take]
  rw [if_pos h]
theorem ith_dropLast (xs : List Int) (k : Nat) (h : k + 1 < xs.length) : ith xs.dropLast k = ith xs k := by
  rw [List.dropLast_eq_take, ith_take _ _ _ (by omega)]
theorem dropP_row (T : Tab) (q : Nat) (h : q + 1 < T.rows.length) : (dropP T).row q = T.row q := by
  simp only [dropP, Tab.row, List.dropLast_eq_take, List.getD_eq_getElem?_getD, List.getElem?_take]
  rw [if_pos (by omega)]
theorem dropP_len (T : Tab) : (dropP T).rows.length = T.rows.length - 1 := by simp [dropP]
theorem TabAt.drop {w w' : World} {B : Nat} {A : Ats} {T : Tab} (h : TabAt w B A T) (hl : 2 ≤ T.rows.length) (hb : T.basis.length = T.rows.length) (hs : w.heap.size ≤ w'.heap.size)
    (hc : ∀ b o, b < w.heap.size → b ≠ A.rg → b ≠ A.bg → b ≠ A.t → w'.cell? ⟨b, o, none⟩ = w.cell? ⟨b, o, none⟩ ∧ w'.frozen? ⟨b, o, none⟩ = w.frozen? ⟨b, o, none⟩)
    (hr : ∀ q, q + 1 < T.rows.length → w'.cell? ⟨A.rg, q, none⟩ = w.cell? ⟨A.rg, q, none⟩ ∧ w'.frozen? ⟨A.rg, q, none⟩ = w.frozen? ⟨A.rg, q, none⟩)
    (hg : ∀ q, q + 1 < T.rows.length → w'.cell? ⟨A.bg, q, none⟩ = w.cell? ⟨A.bg, q, none⟩ ∧ w'.frozen? ⟨A.bg, q, none⟩ = w.frozen? ⟨A.bg, q, none⟩)
    (ht : ∀ o, o ≠ 2 → o ≠ 4 → w'.cell? ⟨A.t, o, none⟩ = w.cell? ⟨A.t, o, none⟩) (hf : ∀ o, w'.frozen? ⟨A.t, o, none⟩ = w.frozen? ⟨A.t, o, none⟩)
    (h2 : w'.cell? ⟨A.t, 2, none⟩ = some (.slice (some ⟨A.rg, 0, none⟩) (T.rows.length - 1) A.rc)) (h4 : w'.cell? ⟨A.t, 4, none⟩ = some (.slice (some ⟨A.bg, 0, none⟩) (T.rows.length - 1) A.bc)) : TabAt w' B A (dropP T) := by
  have t2 := h.tIn.2
  have r2 := h.rgIn.2
  have b2 := h.bgIn.2
  have g2 := h.gbIn.2
  have hlen := dropP_len T
  have hw : (dropP T).wide = T.wide := rfl
  have ng : A.gb ≠ A.rg ∧ A.gb ≠ A.bg ∧ A.gb ≠ A.t := ⟨fun e => h.ap.2.2.2.2.1 e.symm, fun e => h.ap.2.2.2.2.2 e.symm, fun e => h.ap.2.2.1 e.symm⟩
  refine ⟨⟨h.tIn.1, by omega⟩, ⟨h.rgIn.1, by omega⟩, ⟨h.bgIn.1, by omega⟩, ⟨h.gbIn.1, by omega⟩, (ht 0 (by omega) (by omega)).trans h.c0, (ht 1 (by omega) (by omega)).trans h.c1, by rw [hlen]; exact h2, (ht 3 (by omega) (by omega)).trans h.c3, by rw [hlen]; exact h4, (ht 5 (by omega) (by omega)).trans h.c5,
    fun k k1 k2 => (hf k).trans (h.free k k1 k2), fun i hi => ?_, fun i j hi hj => ?_, fun j hj => ?_, fun i hi => ?_, fun i hi => ?_, fun i hi => ?_, fun i j hi hj hne => ?_, h.ap, by have := h.caps; omega⟩
  all_goals try rw [hlen] at hi
  · exact ⟨(hr i (by omega)).1.trans (h.rowC i (by omega)).1, (hr i (by omega)).2.trans (h.rowC i (by omega)).2⟩
  · have hx := h.rbNe i (by omega)
    have e : (dropP T).ent i j = T.ent i j := by simp only [Tab.ent, dropP_row T i (by omega)]
    rw [e]
    have := hc (A.rb i) j (h.rbIn i (by omega)).2 hx.2.1 hx.2.2.1 hx.1
    exact ⟨this.1.trans (h.entC i j (by omega) hj).1, this.2.trans (h.entC i j (by omega) hj).2⟩
  · have := hc A.gb j g2 ng.1 ng.2.1 ng.2.2
    exact ⟨this.1.trans (h.goalC j hj).1, this.2.trans (h.goalC j hj).2⟩
  · have e : ith (dropP T).basis i = ith T.basis i := ith_dropLast _ _ (by omega)
    rw [e]
    exact ⟨(hg i (by omega)).1.trans (h.basC i (by omega)).1, (hg i (by omega)).2.trans (h.basC i (by omega)).2⟩
  · exact ⟨(h.rbIn i (by omega)).1, Nat.lt_of_lt_of_le (h.rbIn i (by omega)).2 hs⟩
  · exact h.rbNe i (by omega)
  · rw [hlen] at hj; exact h.rbAp i j (by omega) (by omega) hne

theorem size_set (w : World) (a : Addr) (v : Value) : (w.setCell a v).heap.size = w.heap.size := by simp [World.setCell]
theorem TabAt.dropped {w4 wR wB : World} {B : Nat} {A : Ats} {T : Tab} (h : TabAt w4 B A T) (hl : 2 ≤ T.rows.length) (hb : T.basis.length = T.rows.length) (hgR : w4.drew.grownBy wR (some A.rg)) (hgB : wR.grownBy wB (some A.bg))
    (hcR : ∀ q, q + 1 < T.rows.length → wR.cell? ⟨A.rg, q, none⟩ = w4.drew.cell? ⟨A.rg, q, none⟩ ∧ wR.frozen? ⟨A.rg, q, none⟩ = w4.drew.frozen? ⟨A.rg, q, none⟩)
    (hcB : ∀ q, q + 1 < T.rows.length → wB.cell? ⟨A.bg, q, none⟩ = wR.cell? ⟨A.bg, q, none⟩ ∧ wB.frozen? ⟨A.bg, q, none⟩ = wR.frozen? ⟨A.bg, q, none⟩) :
    TabAt ((wB.setCell ⟨A.t, 2, none⟩ (.slice (some ⟨A.rg, 0, none⟩) (T.rows.length - 1) A.rc)).setCell ⟨A.t, 4, none⟩ (.slice (some ⟨A.bg, 0, none⟩) (T.rows.length - 1) A.bc)) B A (dropP T) := by
  have s1 : w4.heap.size ≤ wR.heap.size := hgR.size
  have s2 := hgB.size
  have t2 := h.tIn.2
  have r2 := h.rgIn.2
  have b2 := h.bgIn.2
  have n1 := h.ap
  have eR : ∀ b o, b < w4.heap.size → b ≠ A.rg → wR.cell? ⟨b, o, none⟩ = w4.cell? ⟨b, o, none⟩ ∧ wR.frozen? ⟨b, o, none⟩ = w4.frozen? ⟨b, o, none⟩ := fun b o hb hn =>
    ⟨(grownBy_cell (p := ⟨b, o, none⟩) hgR hb (fun e => hn (by simpa using e))), (grownBy_frozen (p := ⟨b, o, none⟩) hgR hb (fun e => hn (by simpa using e)))⟩
  have eB : ∀ b o, b < w4.heap.size → b ≠ A.bg → wB.cell? ⟨b, o, none⟩ = wR.cell? ⟨b, o, none⟩ ∧ wB.frozen? ⟨b, o, none⟩ = wR.frozen? ⟨b, o, none⟩ := fun b o hb hn =>
    ⟨(grownBy_cell (p := ⟨b, o, none⟩) hgB (Nat.lt_of_lt_of_le hb s1) (fun e => hn (by simpa using e))), (grownBy_frozen (p := ⟨b, o, none⟩) hgB (Nat.lt_of_lt_of_le hb s1) (fun e => hn (by simpa using e)))⟩
  generalize hv2 : (Value.slice (some ⟨A.rg, 0, none⟩) (T.rows.length - 1) A.rc) = v2
  generalize hv4 : (Value.slice (some ⟨A.bg, 0, none⟩) (T.rows.length - 1) A.bc) = v4
  have eF : ∀ b o, b ≠ A.t → ((wB.setCell ⟨A.t, 2, none⟩ v2).setCell ⟨A.t, 4, none⟩ v4).cell? ⟨b, o, none⟩ = wB.cell? ⟨b, o, none⟩ := fun b o hn => by
    rw [World.cell?_setCell_other _ _ _ _ (fun e => hn (by simp only [Addr.mk.injEq] at e; exact e.1.symm)), World.cell?_setCell_other _ _ _ _ (fun e => hn (by simp only [Addr.mk.injEq] at e; exact e.1.symm))]
  have eZ : ∀ b o, ((wB.setCell ⟨A.t, 2, none⟩ v2).setCell ⟨A.t, 4, none⟩ v4).frozen? ⟨b, o, none⟩ = wB.frozen? ⟨b, o, none⟩ := fun b o => by rw [World.frozen?_setCell, World.frozen?_setCell]
  have eT : ∀ o, wB.cell? ⟨A.t, o, none⟩ = w4.cell? ⟨A.t, o, none⟩ := fun o => (eB _ o t2 n1.2.1).1.trans (eR _ o t2 n1.1).1
  refine h.drop hl hb (by rw [size_set, size_set]; omega) (fun b o hb1 h1 h2 h3 => ⟨(eF b o h3).trans ((eB b o hb1 h2).1.trans (eR b o hb1 h1).1), (eZ b o).trans ((eB b o hb1 h2).2.trans (eR b o hb1 h1).2)⟩)
    (fun q hq => ⟨(eF _ q (fun e => n1.1 e.symm)).trans ((eB _ q r2 n1.2.2.2.1).1.trans (hcR q hq).1), (eZ _ q).trans ((eB _ q r2 n1.2.2.2.1).2.trans (hcR q hq).2)⟩)
    (fun q hq => ⟨(eF _ q (fun e => n1.2.1 e.symm)).trans ((hcB q hq).1.trans (eR _ q b2 (fun e => n1.2.2.2.1 e.symm)).1), (eZ _ q).trans ((hcB q hq).2.trans (eR _ q b2 (fun e => n1.2.2.2.1 e.symm)).2)⟩)
    (fun o h1 h2 => ?_) (fun o => (eZ _ o).trans ((eB _ o t2 n1.2.1).2.trans (eR _ o t2 n1.1).2)) ?_ ?_
  · rw [World.cell?_setCell_other _ _ _ _ (fun e => h2 (by simp only [Addr.mk.injEq, and_true, true_and] at e; exact e.symm)), World.cell?_setCell_other _ _ _ _ (fun e => h1 (by simp only [Addr.mk.injEq, and_true, true_and] at e; exact e.symm))]
    exact eT o
  · rw [World.cell?_setCell_other _ _ _ _ (by simp), hv2]
    exact World.cell?_setCell_same _ _ _ ((eT 2).trans h.c2)
  · rw [hv4]
    exact World.cell?_setCell_same _ _ _ (by rw [World.cell?_setCell_other _ _ _ _ (by simp)]; exact (eT 4).trans h.c4)
def ReadyRes (w0 : World) (B : Nat) (A : Ats) (T : Tab) (e : Ending) (w' : World) : Prop := e = .returned (.bool true) ∧ TabAt w' B A T ∧ Ext w0 w'
set_option maxRecDepth 100000 in
set_option maxHeartbeats 4000000 in
theorem ready_calls (w0 w : World) (B : Nat) (A : Ats) (T0 T' : Tab) (f : Nat) (hT0 : TabAt w B A T0) (hx0 : Ext w0 w) (h0 : w0.heap.size ≤ B) (hse : T0.sets ≤ 1000) (hsn : T0.n ≤ 100) (hr : readyP f T0 = some T') :
    Calls Try.prog 67 #[.pointer (some ⟨A.t, 0, none⟩)] w (ReadyRes w0 B A T') := by
  have hent := enters_nz
  have h1 := hT0.c0
  have h2 := hT0.c1
  have hw1 : IntKind.i64.wrap ((T0.sets : Int) + (T0.n : Int)) = (T0.sets : Int) + (T0.n : Int) := by rw [IntKind.wrap_i64]; omega
  unfold readyP at hr
  cases hrun : runP (T0.sets + T0.n) f T0 with
  | none => rw [hrun] at hr; simp at hr
  | some T1 =>
    rw [hrun] at hr
    simp only [] at hr
    by_cases hcnd : T1.sets = T0.sets ∧ T1.n = T0.n ∧ T1.sm = true ∧ ith T1.goal (T0.sets + T0.n) = 0
    · rw [if_pos hcnd] at hr
      obtain ⟨hq1, hq2, hq3, hq4⟩ := hcnd
      have HR := Lib.hid hr
      have HRUN := Lib.hid hrun
      have HQ := Lib.hid (And.intro hq1 (And.intro hq2 hq4))
      have HS1 := Lib.hid (Tab.sm_iff hq3)
      clear hr hrun hq1 hq2 hq3 hq4
      go_enter Try.func67, Try.ntmps67
      go_wp2_with fail
      go_region
      go_wp2_with fail
      have hT0d := hT0.ext ((Ext.refl w).drew)
      have hx0d := hx0.drew
      generalize w.drew = w1 at *
      clear h1 h2 hT0 hx0
      rw [show (T0.sets : Int) + (T0.n : Int) = ((T0.sets + T0.n : Nat) : Int) by simp]
      refine (run_calls w0 w1 B A T0 T1 (T0.sets + T0.n) f hT0d hx0d h0 (Nat.le_refl _) HRUN.out).mono ?_
      rintro e w2 ⟨⟨v, rfl⟩, hT2, hx2⟩
      have hlw : T0.sets + T0.n < T1.wide := by unfold Tab.wide; have := HQ.out; omega
      have h3 := hT2.c3
      have h4 := (hT2.goalC _ hlw).1
      rw [HQ.out.2.2] at h4
      have hg2 := hT2.gbIn.2
      have ht2 := hT2.tIn.2
      generalize hL : T0.sets + T0.n = last at *
      have HLL := Lib.hid hL
      have hlwz : (last : Int) < (T1.wide : Int) := by omega
      clear hL hw1 hT0d hx0d
      go_wp2_with fail
      clear h3 h4
      go_loopg [4] f (fun q iv wr => ∃ (i : Nat) (T : Tab), iv = .int .i64 i ∧ TabAt wr B A T ∧ Ext w0 wr ∧ Hid (readyLoop q i T = some T') ∧ i ≤ 1000)
      case atStart => exact ⟨0, T1, rfl, hT2, hx2, HR, by omega⟩
      case round =>
        obtain ⟨i, T, rfl, hT, hx, HG, hi1000⟩ := hrel
        obtain ⟨q, rfl⟩ : ∃ q, gk = q + 1 := by
          cases gk with
          | zero => have := HG.out; simp [readyLoop] at this
          | succ q => exact ⟨q, rfl⟩
        have hG := HG.out
        rw [readyLoop] at hG
        by_cases hsm : T.sm = true
        · rw [if_pos hsm] at hG
          have hS := Lib.hid (Tab.sm_iff hsm)
          have hmany := hS.out.many
          have hc2 := hT.c2
          clear HG hsm
          by_cases hi : i < T.rows.length
          · rw [if_pos hi] at hG
            have hc4 := hT.c4
            have hc0 := hT.c0
            have hbi := (hT.basC i hi).1
            have hbl := hT.bgIn.2
            have htl := hT.tIn.2
            have hiz : (i : Int) < (T.rows.length : Int) := by omega
            have hi0 : (0 : Int) ≤ (i : Int) := by omega
            by_cases hbs : ith T.basis i < T.sets
            · rw [if_pos hbs] at hG
              have HGX := Lib.hid hG
              clear hG
              go_wp2_with fail
              go_region
              go_wp2_with fail
              go_roundg q
              case measure => omega
              case rel => exact ⟨i + 1, T, by simp, hT.ext (Ext.refl _).drew, hx.drew, HGX, by omega⟩
            · rw [if_neg hbs] at hG
              have HGX := Lib.hid hG
              clear hG
              go_wp2_with fail
              go_region
              go_wp2_with fail
              have hTd := hT.ext (Ext.refl _).drew
              have hxd := hx.drew
              generalize wr.drew = w3 at *
              clear hc2 hc4 hc0 hbi hbl htl hT hx
              have hwd : T.sets ≤ T.wide := by unfold Tab.wide; omega
              have hwz : (T.sets : Int) ≤ (T.wide : Int) := by omega
              have hz0 : (0 : Int) ≤ (T.sets : Int) := by omega
              have hrow : IntsIn w3 (some ⟨A.rb i, 0, none⟩) ((T.row i).take T.sets) := by
                intro k hk
                rw [List.length_take, (hS.out.row i hi).len] at hk
                rw [ith_take _ _ _ (by omega)]
                exact ⟨A.rb i, 0, rfl, (hTd.rbIn i hi).2, by rw [Nat.zero_add]; exact (hTd.entC i k hi (by omega)).1⟩
              have hrl : ((T.row i).take T.sets).length = T.sets := by rw [List.length_take, (hS.out.row i hi).len]; omega
              have hsets := hS.out.sets
              have hidx := fun s : After w3 => indexFunc_calls s.at_ (some ⟨A.rb i, 0, none⟩) T.wide ((T.row i).take T.sets) 104 #[] nzB (hrow.ext s.ext) (by omega) (pred_nz _)
              rw [hrl] at hidx
              have a1 := After.cell hTd.c2 hTd.tIn.2
              have a2 := After.cell hTd.c0 hTd.tIn.2
              have a3 := After.cell (hTd.rowC i hi).1 hTd.rgIn.2
              go_wp2_with fail
              refine wp_region_after (by kernel_rfl) (by kernel_rfl) ?_
              intro hne
              repeat (go_big_quiet_step ((go_at_call 103; exact Calls.after (hidx _))))
              refine wpQuiet_nil ?_
              intro w4 hx4
              have hT4 := hTd.ext hx4
              have hx04 := hxd.trans hx4
              clear a1 a2 a3 hidx hrow hTd hxd
              by_cases hneg : firstI nzB ((T.row i).take T.sets) < 0
              · have hG := HGX.out
                rw [if_pos hneg] at hG
                by_cases hlst : i + 1 = T.rows.length ∧ 2 ≤ T.rows.length
                · rw [if_pos hlst] at hG
                  have HGY := Lib.hid hG
                  clear hG HGX
                  obtain ⟨hn, hn2⟩ := hlst
                  have hne1 := hT4.ap
                  have htl := hT4.tIn.2
                  have hrl4 := hT4.rgIn.2
                  have hbl4 := hT4.bgIn.2
                  have hcaps := hT4.caps
                  obtain ⟨hR0, hB0⟩ : (∀ q, q < T.rows.length → w4.cell? ⟨A.rg, q, none⟩ = some (.slice (some ⟨A.rb q, 0, none⟩) T.wide T.wide) ∧ w4.frozen? ⟨A.rg, q, none⟩ = false) ∧ (∀ q, q < T.rows.length → w4.cell? ⟨A.bg, q, none⟩ = some (.int .i64 (ith T.basis q)) ∧ w4.frozen? ⟨A.bg, q, none⟩ = false) := ⟨hT4.rowC, hT4.basC⟩
                  have hdR : ∀ W : World, (∀ q, q < T.rows.length → W.cell? ⟨A.rg, q, none⟩ = w4.cell? ⟨A.rg, q, none⟩ ∧ W.frozen? ⟨A.rg, q, none⟩ = w4.frozen? ⟨A.rg, q, none⟩) →
                      Calls Try.prog 105 #[.slice (some ⟨A.rg, 0, none⟩) T.rows.length A.rc, .int .i64 i, .int .i64 ((i : Int) + 1)] W (DropRes W A.rg T.rows.length A.rc) := by
                    intro W hW
                    have := delRows_calls W A.rg T.rows.length A.rc T.wide A.rb (fun q hq => ⟨(hW q hq).1.trans (hR0 q hq).1, (hW q hq).2.trans (hR0 q hq).2⟩) (by omega) hcaps.1 hcaps.2.1
                    rw [show T.rows.length - 1 = i by omega] at this
                    simpa using this
                  have hdB : ∀ W : World, (∀ q, q < T.rows.length → W.cell? ⟨A.bg, q, none⟩ = w4.cell? ⟨A.bg, q, none⟩ ∧ W.frozen? ⟨A.bg, q, none⟩ = w4.frozen? ⟨A.bg, q, none⟩) →
                      Calls Try.prog 106 #[.slice (some ⟨A.bg, 0, none⟩) T.rows.length A.bc, .int .i64 i, .int .i64 ((i : Int) + 1)] W (DropRes W A.bg T.rows.length A.bc) := by
                    intro W hW
                    have := delInts_calls W A.bg T.rows.length A.bc T.basis hS.out.bas (fun q hq => ⟨(hW q hq).1.trans (hB0 q hq).1, (hW q hq).2.trans (hB0 q hq).2⟩) (by omega) hcaps.2.2.1 hcaps.2.2.2
                    rw [show T.rows.length - 1 = i by omega] at this
                    simpa using this
                  have hw5 : IntKind.i64.wrap ((i : Int) + 1) = (i : Int) + 1 := by rw [IntKind.wrap_i64]; omega
                  have b2 := hT4.c2
                  have b4 := hT4.c4
                  have bf2 := hT4.free 2 (by omega) (by omega)
                  have bf4 := hT4.free 4 (by omega) (by omega)
                  have HR0 := Lib.hid hR0
                  have HB0 := Lib.hid hB0
                  clear hR0 hB0
                  go_wp2_with fail
                  have r1 : ∀ (W : World) (v : Value) (o q : Nat), (W.setCell ⟨A.t, o, none⟩ v).cell? ⟨A.bg, q, none⟩ = W.cell? ⟨A.bg, q, none⟩ := fun W v o q => World.cell?_setCell_other _ _ _ _ (fun e => hne1.2.1 (by simp only [Addr.mk.injEq] at e; exact e.1))
                  have r2 : ∀ (W : World) (v : Value) (o q : Nat), (W.setCell ⟨A.t, o, none⟩ v).cell? ⟨A.rg, q, none⟩ = W.cell? ⟨A.rg, q, none⟩ := fun W v o q => World.cell?_setCell_other _ _ _ _ (fun e => hne1.1 (by simp only [Addr.mk.injEq] at e; exact e.1))
                  have r3 : ∀ (W : World) (v : Value), (W.setCell ⟨A.t, 2, none⟩ v).cell? ⟨A.t, 4, none⟩ = W.cell? ⟨A.t, 4, none⟩ := fun W v => World.cell?_setCell_other _ _ _ _ (by simp)
                  have r4 : ∀ (W : World) (v : Value), (W.setCell ⟨A.t, 4, none⟩ v).cell? ⟨A.t, 2, none⟩ = W.cell? ⟨A.t, 2, none⟩ := fun W v => World.cell?_setCell_other _ _ _ _ (by simp)
                  go_region_with ((first
                    | (go_at_call 105; refine (hdR _ (by intro q hq; first | exact ⟨rfl, rfl⟩ | (constructor <;> simp [*]))).mono ?_; rintro e wR ⟨rfl, hgR, hcR⟩; have hszR := hgR.size; (try simp only [World.size_drew] at hszR); have ltR : A.t < wR.heap.size := (by omega); have ltRg : A.rg < wR.heap.size := (by omega); have ltRb : A.bg < wR.heap.size := (by omega)
                       have cR : ∀ o, wR.cell? ⟨A.t, o, none⟩ = _ := fun o => grownBy_cell hgR (p := ⟨A.t, o, none⟩) (by show A.t < _; first | omega | (simp <;> omega) | (simp only [World.size_drew, size_set] <;> omega)) (fun e => hne1.1 (by simpa using e))
                       have fR : ∀ o, wR.frozen? ⟨A.t, o, none⟩ = _ := fun o => grownBy_frozen hgR (p := ⟨A.t, o, none⟩) (by show A.t < _; first | omega | (simp <;> omega) | (simp only [World.size_drew, size_set] <;> omega)) (fun e => hne1.1 (by simpa using e))
                       have cRb : ∀ o, wR.cell? ⟨A.bg, o, none⟩ = _ := fun o => grownBy_cell hgR (p := ⟨A.bg, o, none⟩) (by show A.bg < _; first | omega | (simp <;> omega) | (simp only [World.size_drew, size_set] <;> omega)) (fun e => hne1.2.2.2.1 (by simpa using e.symm))
                       have fRb : ∀ o, wR.frozen? ⟨A.bg, o, none⟩ = _ := fun o => grownBy_frozen hgR (p := ⟨A.bg, o, none⟩) (by show A.bg < _; first | omega | (simp <;> omega) | (simp only [World.size_drew, size_set] <;> omega)) (fun e => hne1.2.2.2.1 (by simpa using e.symm))
                       have HcR := Lib.hid hcR; have HgR := Lib.hid hgR; clear hcR hgR)
                    | (go_at_call 106; refine (hdB _ (by intro q hq; first | exact ⟨rfl, rfl⟩ | (constructor <;> simp [*]))).mono ?_; rintro e wB ⟨rfl, hgB, hcB⟩; have hszB := hgB.size; (try simp only [World.size_drew, size_set] at hszB); have ltB : A.t < wB.heap.size := (by omega); have ltBg : A.rg < wB.heap.size := (by omega); have ltBb : A.bg < wB.heap.size := (by omega)
                       have cB : ∀ o, wB.cell? ⟨A.t, o, none⟩ = _ := fun o => grownBy_cell hgB (p := ⟨A.t, o, none⟩) (by show A.t < _; first | omega | (simp <;> omega) | (simp only [World.size_drew, size_set] <;> omega)) (fun e => hne1.2.1 (by simpa using e))
                       have fB : ∀ o, wB.frozen? ⟨A.t, o, none⟩ = _ := fun o => grownBy_frozen hgB (p := ⟨A.t, o, none⟩) (by show A.t < _; first | omega | (simp <;> omega) | (simp only [World.size_drew, size_set] <;> omega)) (fun e => hne1.2.1 (by simpa using e))
                       have cBr : ∀ o, wB.cell? ⟨A.rg, o, none⟩ = _ := fun o => grownBy_cell hgB (p := ⟨A.rg, o, none⟩) (by show A.rg < _; first | omega | (simp <;> omega) | (simp only [World.size_drew, size_set] <;> omega)) (fun e => hne1.2.2.2.1 (by simpa using e))
                       have fBr : ∀ o, wB.frozen? ⟨A.rg, o, none⟩ = _ := fun o => grownBy_frozen hgB (p := ⟨A.rg, o, none⟩) (by show A.rg < _; first | omega | (simp <;> omega) | (simp only [World.size_drew, size_set] <;> omega)) (fun e => hne1.2.2.2.1 (by simpa using e))
                       have HcB := Lib.hid hcB; have HgB := Lib.hid hgB; clear hcB hgB)))
                  all_goals
                    have hT5 := hT4.dropped hn2 hS.out.bas HgR.out HgB.out HcR.out HcB.out
                    have hx5 := (((hx04.drew.onto HgR.out (fun k hk => by simp only [Option.some.injEq] at hk; have := hT4.rgIn.1; omega)).onto HgB.out (fun k hk => by simp only [Option.some.injEq] at hk; have := hT4.bgIn.1; omega)).setOwn ⟨A.t, 2, none⟩ (.slice (some ⟨A.rg, 0, none⟩) (T.rows.length - 1) A.rc) (by have := hT4.tIn.1; simp; omega)).setOwn ⟨A.t, 4, none⟩ (.slice (some ⟨A.bg, 0, none⟩) (T.rows.length - 1) A.bc) (by have := hT4.tIn.1; simp; omega)
                    clear r1 r2 r3 r4 hdR hdB b2 b4 bf2 bf4
                    go_wp2_with fail
                    go_roundg q
                    case measure => omega
                    case rel => exact ⟨i, dropP T, by simp, hT5, hx5, HGY, hi1000⟩
                · rw [if_neg hlst] at hG
                  simp at hG
              · obtain ⟨c, hcf, hcl⟩ := firstI_bounds nzB _ hneg
                have hG := HGX.out
                rw [if_neg hneg, hcf] at hG
                simp only [Int.toNat_natCast] at hG
                rw [hrl] at hcl
                have hcw : c < T.wide := by omega
                by_cases hen : T.ent i c < 0
                · rw [if_pos hen] at hG
                  simp at hG
                · rw [if_neg hen] at hG
                  have HGY := Lib.hid hG
                  rw [hcf]
                  clear hG HGX hneg hcf
                  have b1 := hT4.c2
                  have b2 := (hT4.rowC i hi).1
                  have b3 := (hT4.entC i c hi hcw).1
                  have b4 := hT4.tIn.2
                  have b5 := hT4.rgIn.2
                  have b6 := (hT4.rbIn i hi).2
                  go_wp2_with fail
                  refine (pivot_calls w0 w4 B A T i c hT4 hS.out hx04 h0 hi hcw).mono ?_
                  rintro e w5 ⟨⟨v, rfl⟩, hT5, hx5⟩
                  go_wp2_with fail
                  go_roundg q
                  case measure => omega
                  case rel => exact ⟨i + 1, pivotP T i c, by simp, hT5, hx5, HGY, by omega⟩
          · rw [if_neg hi] at hG
            have hTT := Lib.hid (Option.some.inj hG)
            clear hG
            go_wp2_with fail
            go_ret
            rw [← hTT.out]
            exact ⟨rfl, hT, hx⟩
        · rw [if_neg hsm] at hG
          simp at hG
    · rw [if_neg hcnd] at hr
      simp at hr
end Go.Proofs.Ytcngecibljgndaa
