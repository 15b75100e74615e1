/- ready: the walk. -/
import Derived.Test.YtcngecibljgndaaQL
import Derived.Test.YtcngecibljgndaaQLay
namespace Go.Proofs.Ytcngecibljgndaa
open Go.RowKit Go.Shelf Go.Sort

def nzB (n : Int) : Bool := n != 0
theorem nz_calls (w : World) (n : Int) : Calls Try.prog 104 #[.int .i64 n] w fun e w' => e = .returned (.bool (nzB n)) ∧ Ext w w' := by
  go_enter Try.func104, Try.ntmps104
  go_wp2_with fail
  go_ret
  exact ⟨rfl, Ext.refl _⟩
theorem enters_nz : ∀ args w, (callFunc 104 args).run Try.prog w = .ok (.enter 104 args) w := enters_of Try.func104 (by kernel_rfl) rfl
theorem pred_nz (w : World) : PredI w 104 #[] nzB := ⟨fun args w' => enters_nz args w', fun w' x _ => nz_calls w' x⟩

/-- A slice without its last element. -/
def DropRes (w : World) (g n c : Nat) (e : Ending) (w' : World) : Prop := e = .returned (.slice (some ⟨g, 0, none⟩) (n - 1) c) ∧ w.grownBy w' (some g) ∧ ∀ q, q + 1 < n → w'.cell? ⟨g, q, none⟩ = w.cell? ⟨g, q, none⟩ ∧ w'.frozen? ⟨g, q, none⟩ = w.frozen? ⟨g, q, none⟩
theorem dropRes_of {α : Type} [Inhabited α] (enc : α → Value) (w : World) (g n c q : Nat) (d : Array α) (x : α) (hn : d.size = n) (h1 : 1 ≤ n) (hH : Holds enc w g 0 d) :
    DropRes w g n c (.returned (.slice (some ⟨g, 0, none⟩) (d.size - (n - 1 + 1 - (n - 1))) c)) (putRow enc (Sort.ahead w q) g 0 (d.toList.take (n - 1) ++ d.toList.drop (n - 1 + 1) ++ List.replicate (n - 1 + 1 - (n - 1)) x).toArray) := by
  have hsz : (d.toList.take (n - 1) ++ d.toList.drop (n - 1 + 1) ++ List.replicate (n - 1 + 1 - (n - 1)) x).toArray.size = d.size := by simp; omega
  have hH2 : Holds enc (Sort.ahead w q) g 0 d := hH
  refine ⟨by rw [hn]; congr 2; omega, ⟨rfl, rfl, rfl, by simp, fun k _ hk => ?_⟩, fun k hk => ⟨?_, by rw [frozen?_putRow]; rfl⟩⟩
  · have hne : ¬ g = k := fun e => hk (by rw [e])
    unfold putRow mapBlock
    simp [Array.getElem?_modify, hne]
  · have h3 := cell?_putRow enc (Sort.ahead w q) g 0 d _ hH2 hsz k (by rw [hsz, hn]; omega)
    have h4 := (hH k (by omega)).1
    rw [Nat.zero_add] at h3 h4
    rw [h3, h4]
    congr 2
    rw [getElem!_pos _ k (by rw [hsz, hn]; omega), getElem!_pos d k (by omega)]
    simp only [List.getElem_toArray]
    rw [List.getElem_append_left (by simp; omega), List.getElem_append_left (by simp; omega)]
    simp

def encR (m : Nat) : Option Nat → Value
  | none => .slice none 0 0
  | some b => .slice (some ⟨b, 0, none⟩) m m
theorem info_row : (Try.prog.info? 22).map (fun i => (i.zero, i.size, i.bytes)) = some (some (.slice none 0 0), 1, 24) := by kernel_rfl
theorem delRows_calls (w : World) (g n c m : Nat) (rb : Nat → Nat) (hc : ∀ q, q < n → w.cell? ⟨g, q, none⟩ = some (.slice (some ⟨rb q, 0, none⟩) m m) ∧ w.frozen? ⟨g, q, none⟩ = false) (h1 : 1 ≤ n) (hnc : n ≤ c) (hcm : c ≤ 9223372036854775807) :
    Calls Try.prog 105 #[.slice (some ⟨g, 0, none⟩) n c, .int .i64 ((n - 1 : Nat) : Int), .int .i64 ((n - 1 + 1 : Nat) : Int)] w (DropRes w g n c) := by
  obtain ⟨i0, hi, hz0, hz1, hz2⟩ := info_parts info_row
  have hsz : ((List.range n).map (fun q => some (rb q))).toArray.size = n := by simp
  have hH : Holds (encR m) w g 0 ((List.range n).map (fun q => some (rb q))).toArray := by
    intro j hj
    rw [hsz] at hj
    have := hc j hj
    rw [Nat.zero_add]
    refine ⟨?_, this.2⟩
    rw [this.1, getElem!_pos _ j (by rw [hsz]; exact hj)]
    simp [encR]
  have := AnyE.slices_Delete delRows (encR m) (by intro x; cases x <;> rfl) none (fun w => Try.zeroValue22 w) i0 hi hz1 g 0 c (n - 1) (n - 1 + 1) ((List.range n).map (fun q => some (rb q))).toArray w hH (by rw [hsz]; exact hnc) (by omega) (by omega) (by rw [hsz]; omega)
  rw [hsz] at this
  refine Calls.mono this ?_
  rintro e w' ⟨rfl, q, rfl⟩
  have h := dropRes_of (encR m) w g n c q _ none hsz h1 hH
  rw [hsz] at h
  exact h
theorem delInts_calls (w : World) (g n c : Nat) (xs : List Int) (hl : xs.length = n) (hc : ∀ q, q < n → w.cell? ⟨g, q, none⟩ = some (.int .i64 (ith xs q)) ∧ w.frozen? ⟨g, q, none⟩ = false) (h1 : 1 ≤ n) (hnc : n ≤ c) (hcm : c ≤ 9223372036854775807) :
    Calls Try.prog 106 #[.slice (some ⟨g, 0, none⟩) n c, .int .i64 ((n - 1 : Nat) : Int), .int .i64 ((n - 1 + 1 : Nat) : Int)] w (DropRes w g n c) := by
  obtain ⟨i0, hi, hz0, hz1, hz2⟩ := info_parts info_int
  have hsz : xs.toArray.size = n := by simp [hl]
  have hH : Holds (Value.int .i64) w g 0 xs.toArray := by
    intro j hj
    rw [hsz] at hj
    have := hc j hj
    rw [Nat.zero_add]
    refine ⟨?_, this.2⟩
    rw [this.1, getElem!_pos _ j (by rw [hsz]; exact hj)]
    simp [ith, hl, hj]
  have := AnyE.slices_Delete delInts (Value.int .i64) (by intro x; rfl) 0 (fun w => Try.zeroValue3 w) i0 hi hz1 g 0 c (n - 1) (n - 1 + 1) xs.toArray w hH (by rw [hsz]; exact hnc) (by omega) (by omega) (by rw [hsz]; omega)
  rw [hsz] at this
  refine Calls.mono this ?_
  rintro e w' ⟨rfl, q, rfl⟩
  have h := dropRes_of (Value.int .i64) w g n c q _ 0 hsz h1 hH
  rw [hsz] at h
  exact h
end Go.Proofs.Ytcngecibljgndaa
