/- The library's Compact and Reverse at a list that the call itself has made. -/
import Derived.Test.YtcngecibljgndaaQB
import Derived.Test.YtcngecibljgndaaQLay
namespace Go.Proofs.Ytcngecibljgndaa
open Go.RowKit Go.Shelf Go.Sort

theorem Own.holds {w : World} {B g off n cap : Nat} {zs : List Int} (h : Own w B 1 (.slice (some ⟨g, off, none⟩) n cap) (ints zs)) : Holds (Value.int .i64) w g off zs.toArray := by
  intro j hj
  have hj' : j < zs.length := by simpa using hj
  have := h.intAt j hj'
  refine ⟨?_, this.2⟩
  rw [this.1, getElem!_pos _ j hj]
  simp [ith, hj']
theorem Own.put {w : World} {B g off n cap q : Nat} {zs d : List Int} (h : Own w B 1 (.slice (some ⟨g, off, none⟩) n cap) (ints zs)) (hd : d.length = zs.length) :
    Own (putRow (Value.int .i64) (Sort.ahead w q) g off d.toArray) B 1 (.slice (some ⟨g, off, none⟩) n cap) (ints d) ∧ w.grownBy (putRow (Value.int .i64) (Sort.ahead w q) g off d.toArray) (some g) := by
  have hH : Holds (Value.int .i64) (Sort.ahead w q) g off zs.toArray := h.holds
  refine ⟨?_, ⟨rfl, rfl, rfl, by simp, fun k _ hk => ?_⟩⟩
  · obtain ⟨n', hl, ⟨hv, _⟩ | ⟨g', off', cap', hv, hb, hlt, hnc, hcm, hc, hx⟩⟩ := h
    · simp at hv
    · simp only [Value.slice.injEq, Option.some.injEq, Addr.mk.injEq, and_true] at hv
      obtain ⟨⟨rfl, rfl⟩, rfl, rfl⟩ := hv
      have hsz : d.toArray.size = zs.toArray.size := by simp [hd]
      rw [ints_length] at hl
      have hin : ∀ j, j < d.length → (putRow (Value.int .i64) (Sort.ahead w q) g off d.toArray).cell? ⟨g, off + j, none⟩ = some (.int .i64 (ith d j)) := fun j hj => by
        rw [cell?_putRow _ _ _ _ zs.toArray d.toArray hH hsz j (by simpa using hj), getElem!_pos _ j (by simpa using hj)]
        simp [ith, hj]
      refine ⟨n, by rw [ints_length]; omega, .inr ⟨g, off, cap, rfl, hb, by simpa using hlt, hnc, hcm, fun j hj => ⟨?_, ?_⟩, fun j hj => ?_⟩⟩
      · by_cases hjd : j < d.length
        · rw [hin j hjd]; rfl
        · rw [cell?_putRow_other _ _ _ _ _ _ (.inr (.inr (by simp; omega)))]
          exact (hc j hj).1
      · rw [frozen?_putRow]; exact (hc j hj).2
      · rw [hin j (by omega), ints_at _ _ (by omega)]
  · have hne : ¬ g = k := fun e => hk (by rw [e])
    unfold putRow mapBlock
    simp [Array.getElem?_modify, hne]
theorem Own.shorter {w : World} {B g off n cap m : Nat} {zs : List Int} (h : Own w B 1 (.slice (some ⟨g, off, none⟩) n cap) (ints zs)) (hm : m ≤ zs.length) : Own w B 1 (.slice (some ⟨g, off, none⟩) m cap) (ints (zs.take m)) := by
  obtain ⟨n', hl, ⟨hv, _⟩ | ⟨g', off', cap', hv, hb, hlt, hnc, hcm, hc, hx⟩⟩ := h
  · simp at hv
  · simp only [Value.slice.injEq, Option.some.injEq, Addr.mk.injEq, and_true] at hv
    obtain ⟨⟨rfl, rfl⟩, rfl, rfl⟩ := hv
    rw [ints_length] at hl
    refine ⟨m, by rw [ints_length, List.length_take]; omega, .inr ⟨g, off, cap, rfl, hb, hlt, by omega, hcm, hc, fun j hj => ?_⟩⟩
    rw [hx j (by omega), ints_at _ _ (by omega), ints_at _ _ (by rw [List.length_take]; omega)]
    congr 2
    simp only [ith, List.getD_eq_getElem?_getD, List.getElem?_take]
    rw [if_pos (by omega)]

theorem compact_le (zs : List Int) : (Lib.compact zs).length ≤ zs.length := by
  unfold Lib.compact Lib.compactUpTo
  rw [List.length_map]
  exact Nat.le_trans (List.length_filter_le _ _) (by simp)
def CompactRes (w : World) (B g off cap : Nat) (zs : List Int) (e : Ending) (w' : World) : Prop :=
  e = .returned (.slice (some ⟨g, off, none⟩) (Lib.compact zs).length cap) ∧ Own w' B 1 (.slice (some ⟨g, off, none⟩) (Lib.compact zs).length cap) (ints (Lib.compact zs)) ∧ w.grownBy w' (some g)
theorem compact_calls (w : World) (B g off cap : Nat) (zs : List Int) (h : Own w B 1 (.slice (some ⟨g, off, none⟩) zs.length cap) (ints zs)) (hl : zs.length ≤ cap) (hl2 : zs.length ≤ 1000000) :
    Calls Try.prog 62 #[.slice (some ⟨g, off, none⟩) zs.length cap] w (CompactRes w B g off cap zs) := by
  refine Calls.mono (AnyG.slices_Compact_int compactI g off cap zs w h.holds (by omega) hl) ?_
  rintro e w' ⟨rfl, q, rfl⟩
  have hc := compact_le zs
  obtain ⟨h1, h2⟩ := h.put (q := q) (d := Lib.compact zs ++ List.replicate (zs.length - (Lib.compact zs).length) 0) (by simp; omega)
  have h3 := h1.shorter (m := (Lib.compact zs).length) (by simp)
  rw [List.take_left'] at h3
  · exact ⟨rfl, h3, h2⟩
  · rfl
theorem reverse_calls (w : World) (B g off cap : Nat) (zs : List Int) (h : Own w B 1 (.slice (some ⟨g, off, none⟩) zs.length cap) (ints zs)) (hl2 : zs.length ≤ 1000000) :
    Calls Try.prog 65 #[.slice (some ⟨g, off, none⟩) zs.length cap] w (fun e w' => e = .returned (.tuple #[]) ∧ Own w' B 1 (.slice (some ⟨g, off, none⟩) zs.length cap) (ints zs.reverse) ∧ w.grownBy w' (some g)) := by
  refine Calls.mono (AnyG.slices_Reverse_int revInts g off cap zs w h.holds (by omega)) ?_
  rintro e w' ⟨rfl, q, rfl⟩
  obtain ⟨h1, h2⟩ := h.put (q := q) (d := zs.reverse) (by simp)
  exact ⟨rfl, h1, h2⟩
end Go.Proofs.Ytcngecibljgndaa
