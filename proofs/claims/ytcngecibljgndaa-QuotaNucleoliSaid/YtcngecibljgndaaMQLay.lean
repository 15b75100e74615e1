/- The library's Sorted, Sort, Compact, Reverse, Delete and Index: this program bears them. -/
import Derived.Test.YtcngecibljgndaaProg
import Derived.Shelf.SlIterI.Sorted
import Derived.Shelf.SortM.Plain
import Derived.Shelf.SortM.SortNone
import Derived.Shelf.SlicesG.CompactI
import Derived.Shelf.SlicesG.Reverse
import Derived.Shelf.SlicesE.Delete
import Derived.Shelf.SlicesE.Index
import Derived.Test.YtcngecibljgndaaMQK
namespace Go.Proofs.Ytcngecibljgndaa
open Go.Shelf
def sortedIRen : Ren := ⟨fun | 6 => 63 | 8 => 99 | 9 => 100 | 11 => 122 | 13 => 119 | 12 => 123 | 23 => 136 | 24 => 137 | 14 => 138 | 15 => 139 | 16 => 140 | 17 => 141 | 18 => 142 | 19 => 143 | 20 => 144 | 21 => 145 | 22 => 146 | 25 => 152 | 26 => 148 | 27 => 149 | 28 => 153 | 29 => 154 | 30 => 155 | 31 => 157 | n => n, fun | 26 => 3 | 28 => 70 | 24 => 22 | 0 => 0 | 3 => 3 | 37 => 119 | 48 => 133 | 50 => 135 | 4 => 4 | 40 => 127 | 39 => 126 | 45 => 91 | 5 => 5 | 9 => 9 | 51 => 142 | 55 => 146 | 57 => 150 | 58 => 151 | 33 => 85 | n => n, fun n => n⟩
theorem sortedI : SlLaysZI.n6 Try.prog sortedIRen where
  mixed := by kernel_rfl
  f6 := ⟨Try.f63.name, by kernel_rfl, Try.func63.trans (congrArg some (by kernel_rfl))⟩
  f8 := ⟨Try.f99.name, by kernel_rfl, Try.func99.trans (congrArg some (by kernel_rfl))⟩
  f11 := ⟨Try.f122.name, by kernel_rfl, Try.func122.trans (congrArg some (by kernel_rfl))⟩
  t0 := Try.underlying0
  a0 := Try.isAgg0
  z0 := Try.sizeOf0
  v0 := Try.zeroValue0
  t24 := Try.underlying22
  a24 := Try.isAgg22
  z24 := Try.sizeOf22
  v24 := Try.zeroValue22
  t26 := Try.underlying3
  a26 := Try.isAgg3
  z26 := Try.sizeOf3
  v26 := Try.zeroValue3
  t28 := Try.underlying70
  a28 := Try.isAgg70
  z28 := Try.sizeOf70
  v28 := Try.zeroValue70
  i26 := by kernel_rfl
def sortIntsRen : Ren := ⟨fun | 5 => 100 | 8 => 119 | 7 => 123 | 19 => 136 | 20 => 137 | 10 => 138 | 11 => 139 | 12 => 140 | 13 => 141 | 14 => 142 | 15 => 143 | 16 => 144 | 17 => 145 | 18 => 146 | 30 => 152 | 31 => 148 | 32 => 149 | 33 => 153 | 34 => 154 | 35 => 155 | 40 => 157 | n => n, fun | 23 => 22 | 25 => 3 | 3 => 3 | 32 => 119 | 22 => 22 | 0 => 0 | 44 => 133 | 46 => 135 | 4 => 4 | 36 => 127 | 35 => 126 | 41 => 91 | 5 => 5 | 9 => 9 | 53 => 142 | 57 => 146 | 63 => 150 | 64 => 151 | n => n, fun n => n⟩
theorem sortInts : SlLaysM.n5 Try.prog sortIntsRen where
  mixed := by kernel_rfl
  f5 := ⟨Try.f100.name, by kernel_rfl, Try.func100.trans (congrArg some (by kernel_rfl))⟩
  f7 := ⟨Try.f123.name, by kernel_rfl, Try.func123.trans (congrArg some (by kernel_rfl))⟩
  f8 := Try.func119.trans (congrArg some (by kernel_rfl))
  f10 := ⟨Try.f138.name, by kernel_rfl, Try.func138.trans (congrArg some (by kernel_rfl))⟩
  f11 := ⟨Try.f139.name, by kernel_rfl, Try.func139.trans (congrArg some (by kernel_rfl))⟩
  f12 := ⟨Try.f140.name, by kernel_rfl, Try.func140.trans (congrArg some (by kernel_rfl))⟩
  f13 := ⟨Try.f141.name, by kernel_rfl, Try.func141.trans (congrArg some (by kernel_rfl))⟩
  f14 := ⟨Try.f142.name, by kernel_rfl, Try.func142.trans (congrArg some (by kernel_rfl))⟩
  f15 := ⟨Try.f143.name, by kernel_rfl, Try.func143.trans (congrArg some (by kernel_rfl))⟩
  f16 := ⟨Try.f144.name, by kernel_rfl, Try.func144.trans (congrArg some (by kernel_rfl))⟩
  f17 := ⟨Try.f145.name, by kernel_rfl, Try.func145.trans (congrArg some (by kernel_rfl))⟩
  f18 := ⟨Try.f146.name, by kernel_rfl, Try.func146.trans (congrArg some (by kernel_rfl))⟩
  f19 := Try.func136.trans (congrArg some (by kernel_rfl))
  f20 := Try.func137.trans (congrArg some (by kernel_rfl))
  f30 := ⟨Try.f152.name, by kernel_rfl, Try.func152.trans (congrArg some (by kernel_rfl))⟩
  f31 := Try.func148.trans (congrArg some (by kernel_rfl))
  f32 := Try.func149.trans (congrArg some (by kernel_rfl))
  f33 := ⟨Try.f153.name, by kernel_rfl, Try.func153.trans (congrArg some (by kernel_rfl))⟩
  f34 := ⟨Try.f154.name, by kernel_rfl, Try.func154.trans (congrArg some (by kernel_rfl))⟩
  f35 := ⟨Try.f155.name, by kernel_rfl, Try.func155.trans (congrArg some (by kernel_rfl))⟩
  f40 := ⟨Try.f157.name, by kernel_rfl, Try.func157.trans (congrArg some (by kernel_rfl))⟩
  t0 := Try.underlying0
  a0 := Try.isAgg0
  z0 := Try.sizeOf0
  v0 := Try.zeroValue0
  t3 := Try.underlying3
  a3 := Try.isAgg3
  z3 := Try.sizeOf3
  v3 := Try.zeroValue3
  t4 := Try.underlying4
  a4 := Try.isAgg4
  z4 := Try.sizeOf4
  v4 := Try.zeroValue4
  t5 := Try.underlying5
  a5 := Try.isAgg5
  z5 := Try.sizeOf5
  v5 := Try.zeroValue5
  t9 := Try.underlying9
  a9 := Try.isAgg9
  z9 := Try.sizeOf9
  v9 := Try.zeroValue9
  t22 := Try.underlying22
  a22 := Try.isAgg22
  z22 := Try.sizeOf22
  v22 := Try.zeroValue22
  t23 := Try.underlying22
  a23 := Try.isAgg22
  z23 := Try.sizeOf22
  v23 := Try.zeroValue22
  t25 := Try.underlying3
  a25 := Try.isAgg3
  z25 := Try.sizeOf3
  v25 := Try.zeroValue3
  t32 := Try.underlying119
  a32 := Try.isAgg119
  z32 := Try.sizeOf119
  v32 := Try.zeroValue119
  t35 := Try.underlying126
  a35 := Try.isAgg126
  z35 := Try.sizeOf126
  v35 := Try.zeroValue126
  t36 := Try.underlying127
  a36 := Try.isAgg127
  z36 := Try.sizeOf127
  v36 := Try.zeroValue127
  t41 := Try.underlying91
  a41 := Try.isAgg91
  z41 := Try.sizeOf91
  v41 := Try.zeroValue91
  t44 := Try.underlying133
  a44 := Try.isAgg133
  z44 := Try.sizeOf133
  v44 := Try.zeroValue133
  t46 := Try.underlying135
  a46 := Try.isAgg135
  z46 := Try.sizeOf135
  v46 := Try.zeroValue135
  t53 := Try.underlying142
  a53 := Try.isAgg142
  z53 := Try.sizeOf142
  v53 := Try.zeroValue142
  t57 := Try.underlying146
  a57 := Try.isAgg146
  z57 := Try.sizeOf146
  v57 := Try.zeroValue146
  t63 := Try.underlying150
  a63 := Try.isAgg150
  z63 := Try.sizeOf150
  v63 := Try.zeroValue150
  t64 := Try.underlying151
  a64 := Try.isAgg151
  z64 := Try.sizeOf151
  v64 := Try.zeroValue151
def compactIRen : Ren := ⟨fun | 43 => 62 | n => n, fun | 22 => 22 | 23 => 3 | 3 => 3 | 4 => 4 | 0 => 0 | n => n, fun n => n⟩
theorem compactI : SlLaysN.n43 Try.prog compactIRen where
  mixed := by kernel_rfl
  f43 := ⟨Try.f62.name, by kernel_rfl, Try.func62.trans (congrArg some (by kernel_rfl))⟩
  t0 := Try.underlying0
  a0 := Try.isAgg0
  z0 := Try.sizeOf0
  v0 := Try.zeroValue0
  t3 := Try.underlying3
  a3 := Try.isAgg3
  z3 := Try.sizeOf3
  v3 := Try.zeroValue3
  t4 := Try.underlying4
  a4 := Try.isAgg4
  z4 := Try.sizeOf4
  v4 := Try.zeroValue4
  t22 := Try.underlying22
  a22 := Try.isAgg22
  z22 := Try.sizeOf22
  v22 := Try.zeroValue22
  t23 := Try.underlying3
  a23 := Try.isAgg3
  z23 := Try.sizeOf3
  v23 := Try.zeroValue3
  i23 := by kernel_rfl
def revIntsRen : Ren := ⟨fun | 35 => 65 | n => n, fun | 22 => 22 | 23 => 3 | 3 => 3 | 4 => 4 | 0 => 0 | n => n, fun n => n⟩
theorem revInts : SlLaysN.n35 Try.prog revIntsRen where
  mixed := by kernel_rfl
  f35 := ⟨Try.f65.name, by kernel_rfl, Try.func65.trans (congrArg some (by kernel_rfl))⟩
  t0 := Try.underlying0
  a0 := Try.isAgg0
  z0 := Try.sizeOf0
  v0 := Try.zeroValue0
  t3 := Try.underlying3
  a3 := Try.isAgg3
  z3 := Try.sizeOf3
  v3 := Try.zeroValue3
  t4 := Try.underlying4
  a4 := Try.isAgg4
  z4 := Try.sizeOf4
  v4 := Try.zeroValue4
  t22 := Try.underlying22
  a22 := Try.isAgg22
  z22 := Try.sizeOf22
  v22 := Try.zeroValue22
  t23 := Try.underlying3
  a23 := Try.isAgg3
  z23 := Try.sizeOf3
  v23 := Try.zeroValue3
def delRowsRen : Ren := ⟨fun | 45 => 105 | n => n, fun | 22 => 101 | 23 => 22 | 3 => 3 | 4 => 4 | 0 => 0 | n => n, fun n => n⟩
theorem delRows : SlLaysE.n45 Try.prog delRowsRen where
  mixed := by kernel_rfl
  f45 := ⟨Try.f105.name, by kernel_rfl, Try.func105.trans (congrArg some (by kernel_rfl))⟩
  t0 := Try.underlying0
  a0 := Try.isAgg0
  z0 := Try.sizeOf0
  v0 := Try.zeroValue0
  t3 := Try.underlying3
  a3 := Try.isAgg3
  z3 := Try.sizeOf3
  v3 := Try.zeroValue3
  t4 := Try.underlying4
  a4 := Try.isAgg4
  z4 := Try.sizeOf4
  v4 := Try.zeroValue4
  t22 := Try.underlying101
  a22 := Try.isAgg101
  z22 := Try.sizeOf101
  v22 := Try.zeroValue101
  a23 := Try.isAgg22
  z23 := Try.sizeOf22
def delIntsRen : Ren := ⟨fun | 45 => 106 | n => n, fun | 22 => 22 | 23 => 3 | 3 => 3 | 4 => 4 | 0 => 0 | n => n, fun n => n⟩
theorem delInts : SlLaysE.n45 Try.prog delIntsRen where
  mixed := by kernel_rfl
  f45 := ⟨Try.f106.name, by kernel_rfl, Try.func106.trans (congrArg some (by kernel_rfl))⟩
  t0 := Try.underlying0
  a0 := Try.isAgg0
  z0 := Try.sizeOf0
  v0 := Try.zeroValue0
  t3 := Try.underlying3
  a3 := Try.isAgg3
  z3 := Try.sizeOf3
  v3 := Try.zeroValue3
  t4 := Try.underlying4
  a4 := Try.isAgg4
  z4 := Try.sizeOf4
  v4 := Try.zeroValue4
  t22 := Try.underlying22
  a22 := Try.isAgg22
  z22 := Try.sizeOf22
  v22 := Try.zeroValue22
  a23 := Try.isAgg3
  z23 := Try.sizeOf3
def indexIRen : Ren := ⟨fun | 29 => 108 | n => n, fun | 22 => 22 | 23 => 3 | 3 => 3 | 0 => 0 | 4 => 4 | n => n, fun n => n⟩
theorem indexI : SlLaysE.n29 Try.prog indexIRen where
  mixed := by kernel_rfl
  f29 := ⟨Try.f108.name, by kernel_rfl, Try.func108.trans (congrArg some (by kernel_rfl))⟩
  t0 := Try.underlying0
  a0 := Try.isAgg0
  z0 := Try.sizeOf0
  v0 := Try.zeroValue0
  t3 := Try.underlying3
  a3 := Try.isAgg3
  z3 := Try.sizeOf3
  v3 := Try.zeroValue3
  t4 := Try.underlying4
  a4 := Try.isAgg4
  z4 := Try.sizeOf4
  v4 := Try.zeroValue4
  t22 := Try.underlying22
  a22 := Try.isAgg22
  z22 := Try.sizeOf22
  v22 := Try.zeroValue22
  a23 := Try.isAgg3
  z23 := Try.sizeOf3
end Go.Proofs.Ytcngecibljgndaa

/- ready: the walk. -/
namespace Go.Proofs.Ytcngecibljgndaa
open Go.RowKit Go.Shelf Go.Sort

def nzB (n : Int) : Bool := n != 0
theorem nz_calls (w : World) (n : Int) : Calls Try.prog 104 #[.int .i64 n] w fun e w' => e = .returned (.bool (nzB n)) ∧ Ext w w' := by
  go_enter Try.func104, Try.ntmps104
  go_wp2_with fail
  go_ret
  exact ⟨rfl, Ext.refl _⟩
theorem enters_nz : ∀ args w, (callFunc 104 args).run Try.prog w = .ok (.enter 104 args) w := enters_of Try.func104 (by kernel_rfl) rfl
theorem pred_nz (w : World) : PredI w 104 #[] nzB := ⟨fun args w' => enters_nz args w', fun w' x _ => nz_calls w' x⟩

/-- A slice without its last element. -/
def DropRes (w : World) (g n c : Nat) (e : Ending) (w' : World) : Prop := e = .returned (.slice (some ⟨g, 0, none⟩) (n - 1) c) ∧ w.grownBy w' (some g) ∧ ∀ q, q + 1 < n → w'.cell? ⟨g, q, none⟩ = w.cell? ⟨g, q, none⟩ ∧ w'.frozen? ⟨g, q, none⟩ = w.frozen? ⟨g, q, none⟩
theorem dropRes_of {α : Type} [Inhabited α] (enc : α → Value) (w : World) (g n c q : Nat) (d : Array α) (x : α) (hn : d.size = n) (h1 : 1 ≤ n) (hH : Holds enc w g 0 d) :
    DropRes w g n c (.returned (.slice (some ⟨g, 0, none⟩) (d.size - (n - 1 + 1 - (n - 1))) c)) (putRow enc (Sort.ahead w q) g 0 (d.toList.take (n - 1) ++ d.toList.drop (n - 1 + 1) ++ List.replicate (n - 1 + 1 - (n - 1)) x).toArray) := by
  have hsz : (d.toList.take (n - 1) ++ d.toList.drop (n - 1 + 1) ++ List.replicate (n - 1 + 1 - (n - 1)) x).toArray.size = d.size := by simp; omega
  have hH2 : Holds enc (Sort.ahead w q) g 0 d := hH
  refine ⟨by rw [hn]; congr 2; omega, ⟨rfl, rfl, rfl, by simp, fun k _ hk => ?_⟩, fun k hk => ⟨?_, by rw [frozen?_putRow]; rfl⟩⟩
  · have hne : ¬ g = k := fun e => hk (by rw [e])
    unfold putRow mapBlock
    simp [Array.getElem?_modify, hne]
  · have h3 := cell?_putRow enc (Sort.ahead w q) g 0 d _ hH2 hsz k (by rw [hsz, hn]; omega)
    have h4 := (hH k (by omega)).1
    rw [Nat.zero_add] at h3 h4
    rw [h3, h4]
    congr 2
    rw [getElem!_pos _ k (by rw [hsz, hn]; omega), getElem!_pos d k (by omega)]
    simp only [List.getElem_toArray]
    rw [List.getElem_append_left (by simp; omega), List.getElem_append_left (by simp; omega)]
    simp

def encR (m : Nat) : Option Nat → Value
  | none => .slice none 0 0
  | some b => .slice (some ⟨b, 0, none⟩) m m
theorem info_row : (Try.prog.info? 22).map (fun i => (i.zero, i.size, i.bytes)) = some (some (.slice none 0 0), 1, 24) := by kernel_rfl
theorem delRows_calls (w : World) (g n c m : Nat) (rb : Nat → Nat) (hc : ∀ q, q < n → w.cell? ⟨g, q, none⟩ = some (.slice (some ⟨rb q, 0, none⟩) m m) ∧ w.frozen? ⟨g, q, none⟩ = false) (h1 : 1 ≤ n) (hnc : n ≤ c) (hcm : c ≤ 9223372036854775807) :
    Calls Try.prog 105 #[.slice (some ⟨g, 0, none⟩) n c, .int .i64 ((n - 1 : Nat) : Int), .int .i64 ((n - 1 + 1 : Nat) : Int)] w (DropRes w g n c) := by
  obtain ⟨i0, hi, hz0, hz1, hz2⟩ := info_parts info_row
  have hsz : ((List.range n).map (fun q => some (rb q))).toArray.size = n := by simp
  have hH : Holds (encR m) w g 0 ((List.range n).map (fun q => some (rb q))).toArray := by
    intro j hj
    rw [hsz] at hj
    have := hc j hj
    rw [Nat.zero_add]
    refine ⟨?_, this.2⟩
    rw [this.1, getElem!_pos _ j (by rw [hsz]; exact hj)]
    simp [encR]
  have := AnyE.slices_Delete delRows (encR m) (by intro x; cases x <;> rfl) none (fun w => Try.zeroValue22 w) i0 hi hz1 g 0 c (n - 1) (n - 1 + 1) ((List.range n).map (fun q => some (rb q))).toArray w hH (by rw [hsz]; exact hnc) (by omega) (by omega) (by rw [hsz]; omega)
  rw [hsz] at this
  refine Calls.mono this ?_
  rintro e w' ⟨rfl, q, rfl⟩
  have h := dropRes_of (encR m) w g n c q _ none hsz h1 hH
  rw [hsz] at h
  exact h
theorem delInts_calls (w : World) (g n c : Nat) (xs : List Int) (hl : xs.length = n) (hc : ∀ q, q < n → w.cell? ⟨g, q, none⟩ = some (.int .i64 (ith xs q)) ∧ w.frozen? ⟨g, q, none⟩ = false) (h1 : 1 ≤ n) (hnc : n ≤ c) (hcm : c ≤ 9223372036854775807) :
    Calls Try.prog 106 #[.slice (some ⟨g, 0, none⟩) n c, .int .i64 ((n - 1 : Nat) : Int), .int .i64 ((n - 1 + 1 : Nat) : Int)] w (DropRes w g n c) := by
  obtain ⟨i0, hi, hz0, hz1, hz2⟩ := info_parts info_int
  have hsz : xs.toArray.size = n := by simp [hl]
  have hH : Holds (Value.int .i64) w g 0 xs.toArray := by
    intro j hj
    rw [hsz] at hj
    have := hc j hj
    rw [Nat.zero_add]
    refine ⟨?_, this.2⟩
    rw [this.1, getElem!_pos _ j (by rw [hsz]; exact hj)]
    simp [ith, hl, hj]
  have := AnyE.slices_Delete delInts (Value.int .i64) (by intro x; rfl) 0 (fun w => Try.zeroValue3 w) i0 hi hz1 g 0 c (n - 1) (n - 1 + 1) xs.toArray w hH (by rw [hsz]; exact hnc) (by omega) (by omega) (by rw [hsz]; omega)
  rw [hsz] at this
  refine Calls.mono this ?_
  rintro e w' ⟨rfl, q, rfl⟩
  have h := dropRes_of (Value.int .i64) w g n c q _ 0 hsz h1 hH
  rw [hsz] at h
  exact h
end Go.Proofs.Ytcngecibljgndaa
