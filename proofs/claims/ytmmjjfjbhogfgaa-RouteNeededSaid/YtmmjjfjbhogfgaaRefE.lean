/- The specification's choice among the journeys: best and fewest. -/
import Derived.Test.YtmmjjfjbhogfgaaRefD
namespace Go.Proofs.Ytmmjjfjbhogfgaa
open Go.RowKit
attribute [local go_sem] Leg.val run_store_fn

def lastN (x : List Nat) : Nat := x.getD (x.length - 1) 0
theorem jk_last {m : Nat} {fol : Nat → Nat → Bool} {first : Nat → Bool} {k i : Nat} {x : List Nat} (h : JK m fol first k i x) : lastN x = i := by
  have := (jn_last h.1).2.1
  simpa [lastN] using this
/-- The journeys that have been looked at, and that end well. -/
def Cand (m : Nat) (fol : Nat → Nat → Bool) (first ok : Nat → Bool) (k i : Nat) (y : List Nat) : Prop := ∃ k' i', (k' < k ∨ (k' = k ∧ i' < i)) ∧ i' < m ∧ JK m fol first k' i' y ∧ ok i' = true
theorem cand_succ {m : Nat} {fol : Nat → Nat → Bool} {first ok : Nat → Bool} {k i : Nat} {y : List Nat} : Cand m fol first ok k (i + 1) y ↔ Cand m fol first ok k i y ∨ (i < m ∧ JK m fol first k i y ∧ ok i = true) := by
  constructor
  · rintro ⟨k', i', h1, h2, h3, h4⟩
    by_cases e : k' = k ∧ i' = i
    · obtain ⟨rfl, rfl⟩ := e; exact .inr ⟨h2, h3, h4⟩
    · exact .inl ⟨k', i', by omega, h2, h3, h4⟩
  · rintro (⟨k', i', h1, h2, h3, h4⟩ | ⟨h2, h3, h4⟩)
    · exact ⟨k', i', by omega, h2, h3, h4⟩
    · exact ⟨k, i, .inr ⟨rfl, by omega⟩, h2, h3, h4⟩
theorem cand_row {m : Nat} {fol : Nat → Nat → Bool} {first ok : Nat → Bool} {k : Nat} {y : List Nat} : Cand m fol first ok k m y ↔ Cand m fol first ok (k + 1) 0 y := by
  constructor
  · rintro ⟨k', i', h1, h2, h3, h4⟩
    exact ⟨k', i', by omega, h2, h3, h4⟩
  · rintro ⟨k', i', h1, h2, h3, h4⟩
    exact ⟨k', i', by omega, h2, h3, h4⟩
theorem cand_len {m : Nat} {fol : Nat → Nat → Bool} {first ok : Nat → Bool} {k i : Nat} {y : List Nat} (h : Cand m fol first ok k i y) : y.length ≤ k + 1 ∧ lastN y < m ∧ y ≠ [] := by
  obtain ⟨k', i', h1, h2, h3, h4⟩ := h
  have := h3.2
  exact ⟨by omega, by rw [jk_last h3]; exact h2, by rintro rfl; simp at this⟩
def BestSt (L : List Leg) (C : List Nat → Prop) (o : Option (List Nat)) (arr : Int) : Prop :=
  (o = none ∧ ∀ y, ¬ C y) ∨ ∃ x, o = some x ∧ C x ∧ arr = (leg L (lastN x)).Arr ∧ ∀ y, C y → arr < (leg L (lastN y)).Arr ∨ (arr = (leg L (lastN y)).Arr ∧ (x.length < y.length ∨ (x.length = y.length ∧ Lx x y)))
theorem BestSt.congr {L : List Leg} {C C' : List Nat → Prop} {o : Option (List Nat)} {arr : Int} (h : BestSt L C o arr) (hc : ∀ y, C y ↔ C' y) : BestSt L C' o arr := by
  rcases h with ⟨h1, h2⟩ | ⟨x, h1, h2, h3, h4⟩
  · exact .inl ⟨h1, fun y hy => h2 y ((hc y).2 hy)⟩
  · exact .inr ⟨x, h1, (hc x).1 h2, h3, fun y hy => h4 y ((hc y).2 hy)⟩
theorem BestSt.skip {L : List Leg} {m : Nat} {fol : Nat → Nat → Bool} {first ok : Nat → Bool} {k i : Nat} {o : Option (List Nat)} {arr : Int} (h : BestSt L (Cand m fol first ok k i) o arr) (hn : ok i = true → ∀ y, ¬ JK m fol first k i y) : BestSt L (Cand m fol first ok k (i + 1)) o arr :=
  h.congr (fun y => by rw [cand_succ]; exact ⟨.inl, fun h => h.elim id (fun h => (hn h.2.2 y h.2.1).elim)⟩)
theorem BestSt.take {L : List Leg} {m : Nat} {fol : Nat → Nat → Bool} {first ok : Nat → Bool} {k i : Nat} {o : Option (List Nat)} {arr : Int} {x' : List Nat} (h : BestSt L (Cand m fol first ok k i) o arr) (hi : i < m) (hx : JK m fol first k i x' ∧ ∀ y, JK m fol first k i y → Lx x' y) (hok : ok i = true)
    (hb : ∀ x, o = some x → (leg L i).Arr < arr ∨ ((leg L i).Arr = arr ∧ x'.length = x.length ∧ Lx x' x)) : BestSt L (Cand m fol first ok k (i + 1)) (some x') (leg L i).Arr := by
  refine .inr ⟨x', rfl, cand_succ.2 (.inr ⟨hi, hx.1, hok⟩), by rw [jk_last hx.1], fun y hy => ?_⟩
  rcases cand_succ.1 hy with hy | ⟨_, hy, _⟩
  · rcases h with ⟨_, h⟩ | ⟨x, h1, h2, h3, h4⟩
    · exact (h y hy).elim
    · have h5 := h4 y hy
      rcases hb x h1 with h6 | ⟨h6, h7, h8⟩
      · left; omega
      · rcases h5 with h5 | ⟨h5, h9⟩
        · left; omega
        · refine .inr ⟨by omega, ?_⟩
          rcases h9 with h9 | ⟨h9, h10⟩
          · left; omega
          · exact .inr ⟨by omega, h8.trans h10⟩
  · exact .inr ⟨by rw [jk_last hy], .inr ⟨by rw [hx.1.2, hy.2], hx.2 y hy⟩⟩
theorem BestSt.keep {L : List Leg} {m : Nat} {fol : Nat → Nat → Bool} {first ok : Nat → Bool} {k i : Nat} {z : List Nat} {arr : Int} {x' : List Nat} (h : BestSt L (Cand m fol first ok k i) (some z) arr) (hx : JK m fol first k i x' ∧ ∀ y, JK m fol first k i y → Lx x' y)
    (hb : arr < (leg L i).Arr ∨ (arr = (leg L i).Arr ∧ (z.length = x'.length → Lx z x'))) : BestSt L (Cand m fol first ok k (i + 1)) (some z) arr := by
  rcases h with ⟨h, _⟩ | ⟨x, h1, h2, h3, h4⟩
  · cases h
  · cases h1
    refine .inr ⟨z, rfl, cand_succ.2 (.inl h2), h3, fun y hy => ?_⟩
    rcases cand_succ.1 hy with hy | ⟨_, hy, _⟩
    · exact h4 y hy
    · rw [jk_last hy]
      rcases hb with hb | ⟨hb, hl⟩
      · exact .inl hb
      · refine .inr ⟨hb, ?_⟩
        have g1 := (cand_len h2).1
        have g2 := hy.2
        have g3 := hx.1.2
        by_cases e : z.length = k + 1
        · exact .inr ⟨by omega, (hl (by omega)).trans (hx.2 y hy)⟩
        · left; omega
theorem BestSt.arr {L : List Leg} {C : List Nat → Prop} {z : List Nat} {a : Int} (h : BestSt L C (some z) a) : a = (leg L (lastN z)).Arr ∧ C z := by
  rcases h with ⟨h, _⟩ | ⟨x, h1, h2, h3, h4⟩
  · cases h
  · cases h1; exact ⟨h3, h2⟩

def PickRes (w : World) (P : Option (List Nat) → Prop) (e : Ending) (w' : World) : Prop :=
  ∃ v o, e = .returned v ∧ IntsRow Any w' v o ∧ P o ∧ Ext w w'

theorem PlanesIn.at_ {S : Nat → Prop} {w : World} {ao : Option Addr} {ps : List (List (Option (List Nat)))} (h : PlanesIn S w ao ps) {k i : Nat} (hk : k < ps.length) (hi : i < (ps.getD k []).length) :
    ∃ b off rb roff rc v, ao = some ⟨b, off, none⟩ ∧ b < w.heap.size ∧ w.cell? ⟨b, off + k, none⟩ = some (.slice (some ⟨rb, roff, none⟩) (ps.getD k []).length rc) ∧ rb < w.heap.size ∧ w.cell? ⟨rb, roff + i, none⟩ = some v ∧ IntsRow S w v ((ps.getD k []).getD i none) := by
  obtain ⟨b, off, ro, rc, h1, h2, _, h4, h5⟩ := h k hk
  obtain ⟨rb, roff, v, g1, g2, _, g4, g5⟩ := h5 i hi
  subst g1
  exact ⟨b, off, rb, roff, rc, v, h1, h2, h4, g2, g4, g5⟩

set_option maxRecDepth 100000 in
set_option maxHeartbeats 8000000 in
theorem best_calls (w : World) (ao : Option Addr) (cap : Nat) (L : List Leg) (po : Option Addr) (pcap : Nat) (ps : List (List (Option (List Nat)))) (fol : Nat → Nat → Bool) (first : Nat → Bool) (dst by_ : Int)
    (hL : LegsIn w ao L) (hlen : L.length ≤ 100) (hP : PlanesIn Any w po ps) (hA : AllOf L.length fol first ps) :
    Calls Try.prog 43 #[.slice ao L.length cap, .slice po ps.length pcap, .int .i64 dst, .int .i64 by_] w (PickRes w (fun o => ∃ arr, BestSt L (Cand L.length fol first (fun i => lastB dst by_ (leg L i)) ps.length 0) o arr)) := by
  have HA := Lib.hid hA
  have hpl := hA.len
  clear hA
  have hrun := fun (w : World) (a : Option Addr) (n c : Nat) => Lib.run_eql_slice_nil (P := Try.prog) w 25 3 a n c 0 0 Try.underlying25
  go_enter Try.func43, Try.ntmps43
  go_wp2_with fail
  go_loopw [11, 9, 10] (fun kk out av wr => ∃ (k : Nat) (outv : Value) (o : Option (List Nat)) (arr : Int), k ≤ ps.length ∧ kk = .int .i64 k ∧ out = outv ∧ av = .int .i64 arr ∧ Ext w wr ∧ IntsRow Any wr outv o ∧ Hid (BestSt L (Cand L.length fol first (fun i => lastB dst by_ (leg L i)) k 0) o arr)) (fun kk _ _ _ => ps.length - (intOf kk).toNat)
  case atStart => exact ⟨0, _, none, 0, by omega, rfl, rfl, rfl, Ext.refl _, .inl ⟨rfl, rfl⟩, Lib.hid (.inl ⟨rfl, by rintro y ⟨k', i', h, _⟩; omega⟩)⟩
  case round =>
    obtain ⟨k, outv, o, arr, hk, rfl, rfl, rfl, hx, hrow, HB⟩ := hrel
    by_cases hltk : k < ps.length
    · go_wp2_with fail
      go_loopw [12, 9, 10] (fun ii out av ws => ∃ (i : Nat) (outv : Value) (o : Option (List Nat)) (arr : Int), i ≤ L.length ∧ ii = .int .i64 i ∧ out = outv ∧ av = .int .i64 arr ∧ Ext w ws ∧ IntsRow Any ws outv o ∧ Hid (BestSt L (Cand L.length fol first (fun i => lastB dst by_ (leg L i)) k i) o arr)) (fun ii _ _ _ => L.length - (intOf ii).toNat)
      case atStart => exact ⟨0, _, o, arr, by omega, rfl, rfl, rfl, hx, hrow, HB⟩
      case round =>
        clear hx hrow HB
        obtain ⟨i, outv, o, arr, hi, rfl, rfl, rfl, hx, hrow, HB⟩ := hrel
        by_cases hlt : i < L.length
        · obtain ⟨hplen, hle⟩ := HA.out.row k hltk
          have HL := Lib.hid (hle i hlt)
          clear hle
          obtain ⟨pb, pf, rb, rf, rc, v, hpo, hpb, hpc, hrb, hrc, hrowx⟩ := (hP.ext hx).at_ hltk (i := i) (by omega)
          subst hpo
          have HPL := Lib.hid hplen
          rw [hplen] at hpc
          clear hplen
          obtain ⟨lb, lf, hao, hlb, h0, h1, h2, h3, h4⟩ := hL.ext hx i hlt
          subst hao
          rcases hrowx with ⟨hno, rfl⟩ | ⟨x', xb, xf, xcap, hxo, hxne, rfl, hxb, -, hxi⟩
          · have HQ : Hid (∀ y, ¬ JK L.length fol first k i y) := Lib.hid (by have := HL.out; rw [hno] at this; exact this.no)
            clear hno
            have HK := Lib.hid (HB.out.skip (fun _ => HQ.out))
            go_wp2_with fail
            exact ⟨⟨i + 1, _, _, arr, by omega, rfl, rfl, rfl, hx, hrow, Lib.hid HK.out⟩, by simp only [intOf]; omega⟩
          · have HX : Hid (JK L.length fol first k i x' ∧ ∀ y, JK L.length fol first k i y → Lx x' y) := Lib.hid (by have := HL.out; rw [hxo] at this; exact this.mem)
            have hxl := HX.out.1.2
            have hxl2 : x'.length ≤ 200 := by omega
            have HXL := Lib.hid hxl
            clear hxo hxl
            cases hd : ((leg L i).To != dst) with
            | true =>
              have HK := Lib.hid (HB.out.skip (fun h => by simp [lastB] at h; simp [h.1] at hd))
              go_wp2_with fail
              exact ⟨⟨i + 1, _, _, arr, by omega, rfl, rfl, rfl, hx, hrow, Lib.hid HK.out⟩, by simp only [intOf]; omega⟩
            | false =>
              cases hd2 : decide (by_ < (leg L i).Arr) with
              | true =>
                have HK := Lib.hid (HB.out.skip (fun h => by simp [lastB] at h; simp at hd2; omega))
                go_wp2_with fail
                exact ⟨⟨i + 1, _, _, arr, by omega, rfl, rfl, rfl, hx, hrow, Lib.hid HK.out⟩, by simp only [intOf]; omega⟩
              | false =>
                have hok : Hid (lastB dst by_ (leg L i) = true) := Lib.hid (by simp [lastB]; simp at hd hd2; exact ⟨hd, hd2⟩)
                rcases hrow with ⟨rfl, rfl⟩ | ⟨z, zb, zf, zcap, rfl, hzne, rfl, hzb, -, hzi⟩
                · have HK := Lib.hid (HB.out.take hlt HX.out hok.out (fun x h => by cases h))
                  go_wp2_with fail
                  exact ⟨⟨i + 1, _, some x', (leg L i).Arr, by omega, rfl, rfl, rfl, hx, .inr ⟨x', xb, xf, xcap, rfl, hxne, rfl, hxb, trivial, hxi⟩, Lib.hid HK.out⟩, by simp only [intOf]; omega⟩
                · have hrow : IntsRow Any wr (.slice (some ⟨zb, zf, none⟩) z.length zcap) (some z) := .inr ⟨z, zb, zf, zcap, rfl, hzne, rfl, hzb, trivial, hzi⟩
                  cases hd3 : decide ((leg L i).Arr < arr) with
                  | true =>
                    have HK := Lib.hid (HB.out.take hlt HX.out hok.out (fun x h => .inl (by simpa using hd3)))
                    go_wp2_with fail
                    exact ⟨⟨i + 1, _, some x', (leg L i).Arr, by omega, rfl, rfl, rfl, hx, .inr ⟨x', xb, xf, xcap, rfl, hxne, rfl, hxb, trivial, hxi⟩, Lib.hid HK.out⟩, by simp only [intOf]; omega⟩
                  | false =>
                    cases hd4 : ((leg L i).Arr == arr) with
                    | false =>
                      have HK := Lib.hid (HB.out.keep HX.out (.inl (by simp at hd3 hd4; omega)))
                      go_wp2_with fail
                      exact ⟨⟨i + 1, _, _, arr, by omega, rfl, rfl, rfl, hx, hrow, Lib.hid HK.out⟩, by simp only [intOf]; omega⟩
                    | true =>
                      have harr : arr = (leg L i).Arr := by have := hd4; simp at this; exact this.symm
                      have HARR := Lib.hid harr
                      clear harr
                      cases hd5 : ((x'.length : Int) == (z.length : Int)) with
                      | false =>
                        have hne5 : ¬ z.length = x'.length := by intro e; rw [e] at hd5; simp at hd5
                        have HNE := Lib.hid hne5
                        clear hne5
                        have HK := Lib.hid (HB.out.keep HX.out (.inr ⟨HARR.out, fun h => (HNE.out h).elim⟩))
                        go_wp2_with fail
                        exact ⟨⟨i + 1, _, _, arr, by omega, rfl, rfl, rfl, hx, hrow, Lib.hid HK.out⟩, by simp only [intOf]; omega⟩
                      | true =>
                        have heq5 : x'.length = z.length := by have := hd5; rw [beq_iff_eq] at this; omega
                        have HEQ := Lib.hid heq5
                        clear heq5
                        cases hls : lessB x' z with
                        | true =>
                          have HK := Lib.hid (HB.out.take hlt HX.out hok.out (fun x h => by cases h; exact .inr ⟨HARR.out.symm, HEQ.out, lessB_true HEQ.out hls⟩))
                          go_wp2_with (go_at_call 75; refine (less_calls _ (some ⟨xb, xf, none⟩) (some ⟨zb, zf, none⟩) xcap zcap x' z hxi hzi HEQ.out (by omega) rfl rfl).mono ?_; rintro e w7 ⟨rfl, hx7⟩; rw [hls]; have h37 := (hx7.cell (p := ⟨lb, lf + i * 5 + 3, none⟩) hlb).trans h3; have hlb7 := Nat.lt_of_lt_of_le hlb hx7.size)
                          exact ⟨⟨i + 1, _, some x', (leg L i).Arr, by omega, rfl, rfl, rfl, hx.trans hx7, .inr ⟨x', xb, xf, xcap, rfl, hxne, rfl, Nat.lt_of_lt_of_le hxb hx7.size, trivial, hxi.ext hx7⟩, Lib.hid HK.out⟩, by simp only [intOf]; omega⟩
                        | false =>
                          have HK := Lib.hid (HB.out.keep HX.out (.inr ⟨HARR.out, fun _ => lessB_false HEQ.out hls⟩))
                          go_wp2_with (go_at_call 75; refine (less_calls _ (some ⟨xb, xf, none⟩) (some ⟨zb, zf, none⟩) xcap zcap x' z hxi hzi HEQ.out (by omega) rfl rfl).mono ?_; rintro e w7 ⟨rfl, hx7⟩; rw [hls]; have h37 := (hx7.cell (p := ⟨lb, lf + i * 5 + 3, none⟩) hlb).trans h3; have hlb7 := Nat.lt_of_lt_of_le hlb hx7.size)
                          exact ⟨⟨i + 1, _, some z, arr, by omega, rfl, rfl, rfl, hx.trans hx7, hrow.ext hx7, Lib.hid HK.out⟩, by simp only [intOf]; omega⟩
        · obtain rfl : i = L.length := by omega
          go_wp2_with fail
          exact ⟨⟨k + 1, _, o, arr, by omega, rfl, rfl, rfl, hx, hrow, Lib.hid (HB.out.congr (fun y => cand_row))⟩, by simp only [intOf]; omega⟩
    · obtain rfl : k = ps.length := by omega
      go_wp2_with fail
      go_ret
      exact ⟨_, o, rfl, hrow, ⟨arr, HB.out⟩, hx⟩

/-- Of so many legs, those that end with one of the first ones, well. -/
def RowTo (m : Nat) (fol : Nat → Nat → Bool) (first ok : Nat → Bool) (k i : Nat) (y : List Nat) : Prop := ∃ i', i' < i ∧ i' < m ∧ ok i' = true ∧ JK m fol first k i' y
theorem rowTo_succ {m : Nat} {fol : Nat → Nat → Bool} {first ok : Nat → Bool} {k i : Nat} (y : List Nat) : RowTo m fol first ok k (i + 1) y ↔ RowTo m fol first ok k i y ∨ (i < m ∧ ok i = true ∧ JK m fol first k i y) := by
  constructor
  · rintro ⟨i', h1, h2, h3, h4⟩
    by_cases e : i' = i
    · subst e; exact .inr ⟨h2, h3, h4⟩
    · exact .inl ⟨i', by omega, h2, h3, h4⟩
  · rintro (⟨i', h1, h2, h3, h4⟩ | ⟨h2, h3, h4⟩)
    · exact ⟨i', by omega, h2, h3, h4⟩
    · exact ⟨i, by omega, h2, h3, h4⟩
theorem rowTo_len {m : Nat} {fol : Nat → Nat → Bool} {first ok : Nat → Bool} {k i : Nat} {y : List Nat} (h : RowTo m fol first ok k i y) : y.length = k + 1 := by
  obtain ⟨i', _, _, _, h⟩ := h
  exact h.2
theorem jn_jk {m : Nat} {fol : Nat → Nat → Bool} {first ok : Nat → Bool} {y : List Nat} (h : Jn m fol first ok y) : ∃ k i, i < m ∧ ok i = true ∧ JK m fol first k i y ∧ y.length = k + 1 := by
  obtain ⟨g1, g2, g3⟩ := jn_last h
  have hp : 0 < y.length := List.length_pos_iff.2 (jn_iff.1 h).1
  exact ⟨y.length - 1, _, g1, g2, ⟨g3, by omega⟩, by omega⟩
theorem fewest_done {m : Nat} {fol : Nat → Nat → Bool} {first ok : Nat → Bool} {k : Nat} {z : List Nat} (h : LeastOf (RowTo m fol first ok k m) (some z)) (hb : ∀ k' i y, k' < k → i < m → ok i = true → ¬ JK m fol first k' i y) : Least m fol first ok z := by
  obtain ⟨⟨i, _, hi, hok, hz⟩, hmin⟩ := h.mem
  refine ⟨hz.1.of_end hok, fun y hy => ?_⟩
  obtain ⟨k', i', h1, h2, h3, h4⟩ := jn_jk hy
  have hzl := hz.2
  rcases Nat.lt_trichotomy k' k with h5 | h5 | h5
  · exact (hb k' i' y h5 h1 h2 h3).elim
  · subst h5
    exact .inr ⟨by omega, hmin y ⟨i', h1, h1, h2, h3⟩⟩
  · left; omega

set_option maxRecDepth 100000 in
set_option maxHeartbeats 8000000 in
theorem fewest_calls (w : World) (ao : Option Addr) (cap : Nat) (L : List Leg) (po : Option Addr) (pcap : Nat) (ps : List (List (Option (List Nat)))) (fol : Nat → Nat → Bool) (first : Nat → Bool) (dst by_ : Int)
    (hL : LegsIn w ao L) (hlen : L.length ≤ 100) (hP : PlanesIn Any w po ps) (hA : AllOf L.length fol first ps) :
    Calls Try.prog 60 #[.slice ao L.length cap, .slice po ps.length pcap, .int .i64 dst, .int .i64 by_] w (PickRes w (fun o => (o = none ∧ ∀ y, ¬ Jn L.length fol first (fun i => lastB dst by_ (leg L i)) y) ∨ ∃ x, o = some x ∧ Least L.length fol first (fun i => lastB dst by_ (leg L i)) x)) := by
  have HA := Lib.hid hA
  have hpl := hA.len
  clear hA
  have hrun := fun (w : World) (a : Option Addr) (n c : Nat) => Lib.run_eql_slice_nil (P := Try.prog) w 25 3 a n c 0 0 Try.underlying25
  have hrun2 := fun (w : World) (a : Option Addr) (n c : Nat) => run_neq_slice_nil_any (P := Try.prog) w 25 3 a n c 0 0 Try.underlying25
  go_enter Try.func60, Try.ntmps60
  go_wp2_with fail
  go_loopw [9] (fun kk wr => ∃ (k : Nat), k ≤ ps.length ∧ kk = .int .i64 k ∧ Ext w wr ∧ Hid (∀ k' i y, k' < k → i < L.length → lastB dst by_ (leg L i) = true → ¬ JK L.length fol first k' i y)) (fun kk _ => ps.length - (intOf kk).toNat)
  case atStart => exact ⟨0, by omega, rfl, Ext.refl _, Lib.hid (fun k' i y h => by omega)⟩
  case round =>
    obtain ⟨k, hk, rfl, hx, HB⟩ := hrel
    by_cases hltk : k < ps.length
    · go_wp2_with fail
      go_loopw [11, 10] (fun ii out ws => ∃ (i : Nat) (outv : Value) (o : Option (List Nat)), i ≤ L.length ∧ ii = .int .i64 i ∧ out = outv ∧ Ext w ws ∧ IntsRow Any ws outv o ∧ Hid (LeastOf (RowTo L.length fol first (fun i => lastB dst by_ (leg L i)) k i) o)) (fun ii _ _ => L.length - (intOf ii).toNat)
      case atStart => exact ⟨0, _, none, by omega, rfl, rfl, hx, .inl ⟨rfl, rfl⟩, Lib.hid (.inl ⟨rfl, by rintro y ⟨i', h, _⟩; omega⟩)⟩
      case round =>
        clear hx
        obtain ⟨i, outv, o, hi, rfl, rfl, hx, hrow, HO⟩ := hrel
        by_cases hlt : i < L.length
        · obtain ⟨hplen, hle⟩ := HA.out.row k hltk
          have HL := Lib.hid (hle i hlt)
          clear hle
          obtain ⟨pb, pf, rb, rf, rc, v, hpo, hpb, hpc, hrb, hrc, hrowx⟩ := (hP.ext hx).at_ hltk (i := i) (by omega)
          subst hpo
          have HPL := Lib.hid hplen
          rw [hplen] at hpc
          clear hplen
          obtain ⟨lb, lf, hao, hlb, h0, h1, h2, h3, h4⟩ := hL.ext hx i hlt
          subst hao
          rcases hrowx with ⟨hno, rfl⟩ | ⟨x', xb, xf, xcap, hxo, hxne, rfl, hxb, -, hxi⟩
          · have HQ : Hid (∀ y, ¬ JK L.length fol first k i y) := Lib.hid (by have := HL.out; rw [hno] at this; exact this.no)
            clear hno
            have HK := Lib.hid (HO.out.skip (fun x h => HQ.out x h.2.2) rowTo_succ)
            go_wp2_with fail
            exact ⟨⟨i + 1, _, _, by omega, rfl, rfl, hx, hrow, Lib.hid HK.out⟩, by simp only [intOf]; omega⟩
          · have HX : Hid (JK L.length fol first k i x' ∧ ∀ y, JK L.length fol first k i y → Lx x' y) := Lib.hid (by have := HL.out; rw [hxo] at this; exact this.mem)
            have hxl := HX.out.1.2
            have hxl2 : x'.length ≤ 200 := by omega
            have HXL := Lib.hid hxl
            clear hxo hxl
            cases hd : ((leg L i).To == dst) with
            | false =>
              have HK := Lib.hid (HO.out.skip (fun x h => by have := h.2.1; simp [lastB] at this; simp [this.1] at hd) rowTo_succ)
              go_wp2_with fail
              exact ⟨⟨i + 1, _, _, by omega, rfl, rfl, hx, hrow, Lib.hid HK.out⟩, by simp only [intOf]; omega⟩
            | true =>
              cases hd2 : decide ((leg L i).Arr ≤ by_) with
              | false =>
                have HK := Lib.hid (HO.out.skip (fun x h => by have := h.2.1; simp [lastB] at this; simp at hd2; omega) rowTo_succ)
                go_wp2_with fail
                exact ⟨⟨i + 1, _, _, by omega, rfl, rfl, hx, hrow, Lib.hid HK.out⟩, by simp only [intOf]; omega⟩
              | true =>
                have hok : Hid (lastB dst by_ (leg L i) = true) := Lib.hid (by simp [lastB]; simp at hd hd2; exact ⟨hd, hd2⟩)
                rcases hrow with ⟨rfl, rfl⟩ | ⟨z, zb, zf, zcap, rfl, hzne, rfl, hzb, -, hzi⟩
                · have HK := Lib.hid (HO.out.take (Q := fun y => i < L.length ∧ lastB dst by_ (leg L i) = true ∧ JK L.length fol first k i y) ⟨hlt, hok.out, HX.out.1⟩ (fun y h => HX.out.2 y h.2.2) rowTo_succ (fun z h => by cases h))
                  go_wp2_with fail
                  exact ⟨⟨i + 1, _, some x', by omega, rfl, rfl, hx, .inr ⟨x', xb, xf, xcap, rfl, hxne, rfl, hxb, trivial, hxi⟩, Lib.hid HK.out⟩, by simp only [intOf]; omega⟩
                · have hrow : IntsRow Any wr (.slice (some ⟨zb, zf, none⟩) z.length zcap) (some z) := .inr ⟨z, zb, zf, zcap, rfl, hzne, rfl, hzb, trivial, hzi⟩
                  have HEQ : Hid (x'.length = z.length) := Lib.hid (by rw [HXL.out, rowTo_len HO.out.mem.1])
                  cases hls : lessB x' z with
                  | true =>
                    have HK := Lib.hid (HO.out.take (Q := fun y => i < L.length ∧ lastB dst by_ (leg L i) = true ∧ JK L.length fol first k i y) ⟨hlt, hok.out, HX.out.1⟩ (fun y h => HX.out.2 y h.2.2) rowTo_succ (fun z' h => by cases h; exact lessB_true HEQ.out hls))
                    go_wp2_with (go_at_call 75; refine (less_calls _ (some ⟨xb, xf, none⟩) (some ⟨zb, zf, none⟩) xcap zcap x' z hxi hzi HEQ.out (by omega) rfl rfl).mono ?_; rintro e w7 ⟨rfl, hx7⟩; rw [hls]; have h37 := (hx7.cell (p := ⟨lb, lf + i * 5 + 3, none⟩) hlb).trans h3; have hlb7 := Nat.lt_of_lt_of_le hlb hx7.size)
                    exact ⟨⟨i + 1, _, some x', by omega, rfl, rfl, hx.trans hx7, .inr ⟨x', xb, xf, xcap, rfl, hxne, rfl, Nat.lt_of_lt_of_le hxb hx7.size, trivial, hxi.ext hx7⟩, Lib.hid HK.out⟩, by simp only [intOf]; omega⟩
                  | false =>
                    have HK := Lib.hid (HO.out.keep (Q := fun y => i < L.length ∧ lastB dst by_ (leg L i) = true ∧ JK L.length fol first k i y) (fun y h => HX.out.2 y h.2.2) rowTo_succ (lessB_false HEQ.out hls))
                    go_wp2_with (go_at_call 75; refine (less_calls _ (some ⟨xb, xf, none⟩) (some ⟨zb, zf, none⟩) xcap zcap x' z hxi hzi HEQ.out (by omega) rfl rfl).mono ?_; rintro e w7 ⟨rfl, hx7⟩; rw [hls]; have h37 := (hx7.cell (p := ⟨lb, lf + i * 5 + 3, none⟩) hlb).trans h3; have hlb7 := Nat.lt_of_lt_of_le hlb hx7.size)
                    exact ⟨⟨i + 1, _, some z, by omega, rfl, rfl, hx.trans hx7, hrow.ext hx7, Lib.hid HK.out⟩, by simp only [intOf]; omega⟩
        · obtain rfl : i = L.length := by omega
          rcases hrow with ⟨rfl, rfl⟩ | ⟨z, zb, zf, zcap, rfl, hzne, rfl, hzb, -, hzi⟩
          · go_wp2_with fail
            refine ⟨⟨k + 1, by omega, rfl, hx, Lib.hid (fun k' i y h1 h2 h3 h4 => ?_)⟩, by simp only [intOf]; omega⟩
            by_cases e : k' = k
            · subst e
              exact HO.out.no y ⟨i, h2, h2, h3, h4⟩
            · exact HB.out k' i y (by omega) h2 h3 h4
          · go_wp2_with fail
            go_ret
            exact ⟨_, some z, rfl, .inr ⟨z, zb, zf, zcap, rfl, hzne, rfl, hzb, trivial, hzi⟩, .inr ⟨z, rfl, fewest_done HO.out HB.out⟩, hx⟩
    · obtain rfl : k = ps.length := by omega
      go_wp2_with fail
      go_ret
      refine ⟨_, none, rfl, .inl ⟨rfl, rfl⟩, .inl ⟨rfl, fun y hy => ?_⟩, hx⟩
      obtain ⟨k', i', h1, h2, h3, h4⟩ := jn_jk hy
      exact HB.out k' i' y (HA.out.short k' i' y h1 h3) h1 h2 h3
end Go.Proofs.Ytmmjjfjbhogfgaa
