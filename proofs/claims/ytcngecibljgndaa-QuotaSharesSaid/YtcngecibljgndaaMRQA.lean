/- Lists of fractions that a call makes itself; a box with a fraction. -/
import Derived.Test.YtcngecibljgndaaMQW
import Derived.Test.YtcngecibljgndaaMRD
namespace Go.Proofs.Ytcngecibljgndaa
open Go.RowKit Go.Shelf

theorem info_Q : (Try.prog.info? 41).map (fun i => (i.zero, i.size, i.bytes)) = some (some (.agg #[.bool false, .slice none 0 0, .bool false, .slice none 0 0]), 4, 64) := by kernel_rfl
/-- The cells of a fraction. -/
structure QV where
  nb : Bool
  zo : Option Addr
  A : Nat
  zc : Nat
  mb : Bool
  yo : Option Addr
  B : Nat
  yc : Nat
def QV.vals (x : QV) : List Value := [.bool x.nb, .slice x.zo x.A x.zc, .bool x.mb, .slice x.yo x.B x.yc]
def QV.zero : QV := ⟨false, none, 0, 0, false, none, 0, 0⟩
def qe (es : List QV) (k : Nat) : QV := es.getD k QV.zero
def qvals (es : List QV) : List Value := es.flatMap QV.vals
def QV.is (x : QV) (w : World) (q : Rat) : Prop := QNum w q x.nb x.zo x.A x.mb x.yo x.B
def QV.off (x : QV) (C : Nat) : Prop := Off x.zo x.A C ∧ Off x.yo x.B C
def QV.offO (x : QV) (o : Option Nat) : Prop := ∀ C, o = some C → x.off C
theorem QV.vals_length (x : QV) : x.vals.length = 4 := rfl
theorem qvals_length (es : List QV) : (qvals es).length = es.length * 4 := by
  unfold qvals
  induction es with
  | nil => rfl
  | cons x es ih => rw [List.flatMap_cons, List.length_append, ih, List.length_cons, QV.vals_length]; omega
theorem qvals_snoc (es : List QV) (x : QV) : qvals (es ++ [x]) = qvals es ++ x.vals := by simp [qvals]
theorem qvals_at (es : List QV) (k j : Nat) (hk : k < es.length) (hj : j < 4) : (qvals es)[k * 4 + j]? = (qe es k).vals[j]? := by
  induction es generalizing k with
  | nil => simp at hk
  | cons x es ih =>
    unfold qvals
    rw [List.flatMap_cons]
    match k with
    | 0 =>
      rw [List.getElem?_append_left (by rw [QV.vals_length]; omega)]
      simp [qe]
    | k + 1 =>
      rw [List.getElem?_append_right (by rw [QV.vals_length]; omega), QV.vals_length, show (k + 1) * 4 + j - 4 = k * 4 + j by omega]
      rw [show List.flatMap QV.vals es = qvals es from rfl, ih k (by simpa using hk)]
      simp [qe]
theorem isExt {x : QV} {w w' : World} {q : Rat} (h : x.is w q) (hx : Ext w w') : x.is w' q := QNum.ext h hx
theorem isFar {x : QV} {w w' : World} {q : Rat} {row : Option Nat} (h : x.is w q) (hg : w.grownBy w' row) (ho : x.offO row) : x.is w' q := by
  cases row with
  | none => exact isExt h (Ext.ofGrown hg)
  | some C => exact QNum.far h hg (ho C rfl).1 (ho C rfl).2
/-- A list of fractions that lies in memory of its own. -/
structure QOn (w : World) (W : Nat) (v : Value) (es : List QV) (qs : List Rat) : Prop where
  len : es.length = qs.length
  own : Own w W 4 v (qvals es)
  num : ∀ k, k < qs.length → (qe es k).is w (qth qs k)
  off : ∀ k, k < qs.length → (qe es k).offO v.ownBlock
theorem QOn.nil (w : World) (W : Nat) : QOn w W (.slice none 0 0) [] [] := ⟨rfl, Own.nil _ _ _, fun k hk => by simp at hk, fun k hk => by simp at hk⟩
theorem QOn.ext {w w' : World} {W : Nat} {v : Value} {es : List QV} {qs : List Rat} (h : QOn w W v es qs) (hx : Ext w w') : QOn w' W v es qs :=
  ⟨h.len, h.own.ext hx, fun k hk => isExt (h.num k hk) hx, h.off⟩
theorem qe_snoc (es : List QV) (x : QV) (k : Nat) : qe (es ++ [x]) k = if k < es.length then qe es k else if k = es.length then x else QV.zero := by
  unfold qe
  simp only [List.getD_eq_getElem?_getD]
  by_cases h : k < es.length
  · rw [List.getElem?_append_left h, if_pos h]
  · rw [List.getElem?_append_right (by omega), if_neg h]
    by_cases h2 : k = es.length
    · rw [if_pos h2]; simp [h2]
    · rw [if_neg h2]
      obtain ⟨p, hp⟩ : ∃ p, k - es.length = p + 1 := ⟨k - es.length - 1, by omega⟩
      rw [hp]; simp
theorem qth_snoc (qs : List Rat) (x : Rat) (k : Nat) (h : k < qs.length) : qth (qs ++ [x]) k = qth qs k := by
  unfold qth
  simp only [List.getD_eq_getElem?_getD]
  rw [List.getElem?_append_left h]
theorem qth_last (qs : List Rat) (x : Rat) : qth (qs ++ [x]) qs.length = x := by simp [qth]
/-- Digits of what is new do not lie in what is old; those of what is there do not lie in what is new. -/
theorem QV.off_old {x : QV} {N C : Nat} (hz : ∀ a, x.zo = some a → N ≤ a.block) (hy : ∀ a, x.yo = some a → N ≤ a.block) (hC : C < N) : x.off C :=
  ⟨fun _ a ha e => by have := hz a ha; omega, fun _ a ha e => by have := hy a ha; omega⟩
theorem QV.off_new {x : QV} {w : World} {q : Rat} {C : Nat} (h : x.is w q) (hC : w.heap.size ≤ C) : x.off C :=
  ⟨fun hA a ha e => by have := h.num.digs.lt hA a ha; omega, fun hA a ha e => by have := h.den.digs.lt hA a ha; omega⟩
theorem QOn.snoc {w w1 w5 : World} {W : Nat} {v v' : Value} {es : List QV} {qs : List Rat} {q : Rat} {x : QV} (h : QOn w W v es qs) (hx : Ext w w1) (he : x.is w1 q) (hz : ∀ a, x.zo = some a → w.heap.size ≤ a.block) (hy : ∀ a, x.yo = some a → w.heap.size ≤ a.block)
    (ho : Own w5 W 4 v' (qvals es ++ x.vals)) (hg : w1.grownBy w5 v.ownBlock) (hb : ∀ k, v'.ownBlock = some k → v.ownBlock = some k ∨ w1.heap.size ≤ k) : QOn w5 W v' (es ++ [x]) (qs ++ [q]) := by
  have hxo : x.offO v.ownBlock := fun C hC => QV.off_old hz hy (h.own.lt C hC).2
  refine ⟨by simp [h.len], by rw [qvals_snoc]; exact ho, fun k hk => ?_, fun k hk C hC => ?_⟩
  · rw [qe_snoc]
    by_cases h1 : k < es.length
    · have h1' : k < qs.length := by rw [← h.len]; exact h1
      rw [if_pos h1, qth_snoc _ _ _ h1']
      exact isFar (isExt (h.num k h1') hx) hg (h.off k h1')
    · have h2 : k = es.length := by simp at hk; have := h.len; omega
      rw [if_neg h1, if_pos h2, h2, h.len, qth_last]
      exact isFar he hg hxo
  · rw [qe_snoc]
    by_cases h1 : k < es.length
    · have h1' : k < qs.length := by rw [← h.len]; exact h1
      rw [if_pos h1]
      rcases hb C hC with h3 | h3
      · exact h.off k h1' C h3
      · exact QV.off_new (isExt (h.num k h1') hx) h3
    · have h2 : k = es.length := by simp at hk; have := h.len; omega
      rw [if_neg h1, if_pos h2]
      rcases hb C hC with h3 | h3
      · exact hxo C h3
      · exact QV.off_new he h3
theorem QOn.qsIn {w : World} {W : Nat} {v : Value} {es : List QV} {qs : List Rat} (h : QOn w W v es qs) : ∃ lo cap, v = .slice lo qs.length cap ∧ QsIn w lo qs ∧ (∀ a, lo = some a → W ≤ a.block ∧ a.block < w.heap.size) := by
  have hl := h.len
  obtain ⟨n, hn, h1 | ⟨g, off, cap, h1, h2, h3, h4, h5, h6, h7⟩⟩ := h.own
  · rw [qvals_length] at hn
    have hq : qs.length = 0 := by omega
    refine ⟨none, 0, by rw [h1.1, hq], fun k hk => by omega, fun a ha => by simp at ha⟩
  · rw [qvals_length] at hn
    obtain rfl : n = qs.length := by omega
    refine ⟨some ⟨g, off, none⟩, cap, h1, fun k hk => ?_, fun a ha => by simp only [Option.some.injEq] at ha; subst ha; exact ⟨h2, h3⟩⟩
    have hc : ∀ j, j < 4 → w.cell? ⟨g, off + k * 4 + j, none⟩ = (qe es k).vals[j]? := fun j hj => by
      have := h7 (k * 4 + j) (by omega)
      rw [← qvals_at es k j (by omega) hj, ← this, Nat.add_assoc]
    exact ⟨g, off, (qe es k).nb, (qe es k).zo, (qe es k).A, (qe es k).zc, (qe es k).mb, (qe es k).yo, (qe es k).B, (qe es k).yc, rfl, h3, ⟨hc 0 (by omega), hc 1 (by omega), hc 2 (by omega), hc 3 (by omega)⟩, h.num k hk⟩
/-- What a call that makes a list of fractions hands back. -/
def MadeQ (w : World) (qs : List Rat) (e : Ending) (w' : World) : Prop := ∃ v es, e = .returned v ∧ QOn w' w.heap.size v es qs ∧ Ext w w'
theorem four_cell (w : World) (x : QV) (t : TypeId) (z : Nat) (hz : z = w.heap.size) : ∀ (j : Nat) (u : Value), x.vals[j]? = some u → (w.alloc (.cells #[.bool x.nb, .slice x.zo x.A x.zc, .bool x.mb, .slice x.yo x.B x.yc] t)).cell? (Addr.add ⟨z, 0, none⟩ j) = some u := by
  subst hz
  intro j u h
  match j with
  | 0 => simp [QV.vals] at h; subst h; simp [go_sem]
  | 1 => simp [QV.vals] at h; subst h; simp [go_sem]
  | 2 => simp [QV.vals] at h; subst h; simp [go_sem]
  | 3 => simp [QV.vals] at h; subst h; simp [go_sem]
  | j + 4 => simp [QV.vals] at h
theorem QV.one (x : QV) : ∀ u ∈ x.vals, u.oneCell' = true := by
  intro u hu
  simp only [QV.vals, List.mem_cons, List.not_mem_nil, or_false] at hu
  rcases hu with rfl | rfl | rfl | rfl <;> rfl
/-- A box of the call's own, with a fraction in it. -/
def OneQ (w0 wx : World) (C : Nat) (p : Rat) : Prop := ∃ nb zo A zc mb yo B yc, w0.heap.size ≤ C ∧ BoxQ wx C p nb zo A zc mb yo B yc ∧ Off zo A C ∧ Off yo B C ∧ (∀ a, zo = some a → w0.heap.size ≤ a.block) ∧ (∀ a, yo = some a → w0.heap.size ≤ a.block) ∧ Ext w0 wx
theorem OneQ.ext {w0 w w' : World} {C : Nat} {p : Rat} (h : OneQ w0 w C p) (hx : Ext w w') : OneQ w0 w' C p := by
  obtain ⟨nb, zo, A, zc, mb, yo, B, yc, h1, h2, h3, h4, h5, h6, h7⟩ := h
  exact ⟨nb, zo, A, zc, mb, yo, B, yc, h1, h2.ext hx, h3, h4, h5, h6, h7.trans hx⟩
theorem OneQ.fill {w0 w : World} {C : Nat} {p r : Rat} {nb mb : Bool} {zo yo : Option Addr} {A zc B yc : Nat} (h : OneQ w0 w C p) (hr : QNum w r nb zo A mb yo B) (h1 : Off zo A C) (h2 : Off yo B C) (h3 : ∀ a, zo = some a → w0.heap.size ≤ a.block) (h4 : ∀ a, yo = some a → w0.heap.size ≤ a.block) :
    OneQ w0 (put4 w C (.bool nb) (.slice zo A zc) (.bool mb) (.slice yo B yc)) C r := by
  obtain ⟨_, _, _, _, _, _, _, _, hC, hb, -, -, -, -, hx⟩ := h
  exact ⟨nb, zo, A, zc, mb, yo, B, yc, hC, BoxQ.put hb.spot hr h1 h2, h1, h2, h3, h4, hx.onto (grown_put4 _ _ _ _ _ _) (fun k hk => by simp only [Option.some.injEq] at hk; omega)⟩
theorem OneQ.made {w0 w : World} (t : TypeId) {r : Rat} {nb mb : Bool} {zo yo : Option Addr} {A zc B yc : Nat} (hx : Ext w0 w) (hr : QNum w r nb zo A mb yo B) (h3 : ∀ a, zo = some a → w0.heap.size ≤ a.block) (h4 : ∀ a, yo = some a → w0.heap.size ≤ a.block) : OneQ w0 (w.alloc (.cells #[.bool nb, .slice zo A zc, .bool mb, .slice yo B yc] t)) w.heap.size r :=
  ⟨nb, zo, A, zc, mb, yo, B, yc, hx.size, BoxQ.made t hr, fun hA a ha e => by have := hr.num.digs.lt hA a ha; omega, fun hA a ha e => by have := hr.den.digs.lt hA a ha; omega, h3, h4, hx.alloc _⟩
theorem OneQ.stored {w0 w : World} {C : Nat} {r : Rat} {nb mb : Bool} {zo yo : Option Addr} {A zc B yc : Nat} (hC : w0.heap.size ≤ C) (hs : Spot4 w C) (hx : Ext w0 w) (hr : QNum w r nb zo A mb yo B) (h1 : Off zo A C) (h2 : Off yo B C) (h3 : ∀ a, zo = some a → w0.heap.size ≤ a.block) (h4 : ∀ a, yo = some a → w0.heap.size ≤ a.block) :
    OneQ w0 (put4 w C (.bool nb) (.slice zo A zc) (.bool mb) (.slice yo B yc)) C r :=
  ⟨nb, zo, A, zc, mb, yo, B, yc, hC, BoxQ.put hs hr h1 h2, h1, h2, h3, h4, hx.onto (grown_put4 _ _ _ _ _ _) (fun k hk => by simp only [Option.some.injEq] at hk; omega)⟩
theorem off_fresh {zo : Option Addr} {A N C : Nat} (h : ∀ a, zo = some a → N ≤ a.block) (hC : C < N) : Off zo A C := fun _ a ha e => by have := h a ha; omega
end Go.Proofs.Ytcngecibljgndaa

/- The specification's whole, total, less, halves, lesser: the walks. -/
namespace Go.Proofs.Ytcngecibljgndaa
open Go.RowKit Go.Shelf

set_option maxRecDepth 100000 in
set_option maxHeartbeats 1000000 in
theorem qwhole_calls (w : World) (ao : Option Addr) (cap : Nat) (xs : List Int) (hI : IntsIn w ao xs) (hl : xs.length ≤ 1000) (hb : ∀ k, k < xs.length → -1000000000000000000 ≤ ith xs k ∧ ith xs k ≤ 1000000000000000000) :
    Calls Try.prog 87 #[.slice ao xs.length cap] w (MadeQ w (xs.map fun x => Rat.divInt x 1)) := by
  have HB := Lib.hid hb
  clear hb
  obtain ⟨i0, hi, hz0, hz1, hz2⟩ := info_parts info_Q
  obtain ⟨W, hW⟩ : ∃ W, W ≤ w.heap.size ∧ w.heap.size ≤ W := ⟨_, Nat.le_refl _, Nat.le_refl _⟩
  go_enter Try.func87, Try.ntmps87
  go_wp2_with fail
  go_loopw [3, 4] (fun ov iv wr => ∃ (k : Nat) (es : List QV), k ≤ xs.length ∧ iv = .int .i64 k ∧ Ext w wr ∧ QOn wr W ov es ((xs.take k).map fun x => Rat.divInt x 1)) (fun _ iv _ => xs.length - (intOf iv).toNat)
  case atStart => exact ⟨0, [], by omega, rfl, Ext.refl _, QOn.nil _ _⟩
  case round =>
    obtain ⟨k, es, hk, rfl, hx, ho⟩ := hrel
    by_cases hlt : k < xs.length
    · obtain ⟨b, off, rfl, hbl, hc⟩ := hI.ext hx k hlt
      have hxk := HB.out k hlt
      have HT : Hid ((xs.take (k + 1)).map (fun x => Rat.divInt x 1) = (xs.take k).map (fun x => Rat.divInt x 1) ++ [Rat.divInt (ith xs k) 1]) := Lib.hid (by rw [take_snoc xs k hlt]; simp)
      have hkl : ((xs.take k).map fun x => Rat.divInt x 1).length = k := by simp; omega
      obtain ⟨qs, hqs⟩ : ∃ qs, qs = (xs.take k).map fun x => Rat.divInt x 1 := ⟨_, rfl⟩
      rw [← hqs] at ho hkl HT
      clear hqs
      have hel := ho.len
      have hWr := hx.size
      go_wp2_with fail
      refine (frac_calls _ (ith xs k) 1 (by omega) (by omega) (by omega)).mono ?_
      rintro e w2 ⟨nb, zo, A, zc, mb, yo, B, yc, rfl, hR, hbk, hbm, hx2⟩
      have hx2s := hx2.size
      have how := ho.own
      go_wp2_with (at_builtin; refine wpList_append_Own _ rfl _ _ 58 rfl 41 i0 (.agg #[.bool false, .slice none 0 0, .bool false, .slice none 0 0]) 4 64 Try.underlying58 hi hz0 hz1 hz2 rfl (by omega) W _ (qvals es) rfl (Own.ext how ((hx2.trans (Ext.refl _)).alloc _)) (by first | omega | (simp; omega)) _ 1 1 (QV.vals (⟨nb, zo, A, zc, mb, yo, B, yc⟩ : QV)) rfl rfl (four_cell _ (⟨nb, zo, A, zc, mb, yo, B, yc⟩ : QV) _ _ (by first | rfl | simp)) (QV.one (⟨nb, zo, A, zc, mb, yo, B, yc⟩ : QV)) (by rw [qvals_length, QV.vals_length]; unfold maxLen; omega) (by rw [qvals_length, QV.vals_length]; omega) ?_; intro v' w5 ho5 hg5 hb5)
      have hs := ho.snoc (hx2.alloc _) (x := ⟨nb, zo, A, zc, mb, yo, B, yc⟩) (isExt (w := w2) (show QV.is ⟨nb, zo, A, zc, mb, yo, B, yc⟩ w2 _ from hR) ((Ext.refl _).alloc _)) hbk hbm ho5 hg5 hb5
      rw [← HT.out] at hs
      exact ⟨⟨k + 1, _, by omega, rfl, ((hx.trans hx2).alloc _).onto hg5 (fun q hq => by have := (ho.own.lt q hq).1; omega), hs⟩, by simp only [intOf]; omega⟩
    · obtain rfl : k = xs.length := by omega
      rw [List.take_length] at ho
      go_wp2_with fail
      go_ret
      exact ⟨_, es, rfl, ⟨ho.len, ho.own.rebase hW.2, ho.num, ho.off⟩, hx⟩

theorem c8 {w w' : World} {b o b2 o2 : Nat} {nb mb nb2 mb2 : Bool} {zo yo zo2 yo2 : Option Addr} {A zc B yc A2 zc2 B2 yc2 : Nat} (hb : b < w.heap.size) (h : QCells w b o nb zo A zc mb yo B yc) (hb2 : b2 < w.heap.size) (h2 : QCells w b2 o2 nb2 zo2 A2 zc2 mb2 yo2 B2 yc2) (hx : Ext w w') :
    (w'.cell? ⟨b, o, none⟩ = some (.bool nb)) ∧ (w'.cell? ⟨b, o + 1, none⟩ = some (.slice zo A zc)) ∧ (w'.cell? ⟨b, o + 2, none⟩ = some (.bool mb)) ∧ (w'.cell? ⟨b, o + 3, none⟩ = some (.slice yo B yc)) ∧
    (w'.cell? ⟨b2, o2, none⟩ = some (.bool nb2)) ∧ (w'.cell? ⟨b2, o2 + 1, none⟩ = some (.slice zo2 A2 zc2)) ∧ (w'.cell? ⟨b2, o2 + 2, none⟩ = some (.bool mb2)) ∧ (w'.cell? ⟨b2, o2 + 3, none⟩ = some (.slice yo2 B2 yc2)) :=
  ⟨(h.ext hb hx).c0, (h.ext hb hx).c1, (h.ext hb hx).c2, (h.ext hb hx).c3, (h2.ext hb2 hx).c0, (h2.ext hb2 hx).c1, (h2.ext hb2 hx).c2, (h2.ext hb2 hx).c3⟩
theorem map_range_snoc {α : Type} (f : Nat → α) (k : Nat) : (List.range (k + 1)).map f = (List.range k).map f ++ [f k] := by rw [List.range_succ]; simp
set_option maxRecDepth 100000 in
set_option maxHeartbeats 4000000 in
theorem qless_calls (w : World) (ao bo : Option Addr) (cap cap2 : Nat) (ps qs : List Rat) (hA : QsIn w ao ps) (hB : QsIn w bo qs) (hl : ps.length ≤ 1000) (hlen : qs.length = ps.length) (hF : ∀ k, k < ps.length → Fine (qth ps k) ∧ Fine (qth qs k)) :
    Calls Try.prog 91 #[.slice ao ps.length cap, .slice bo ps.length cap2] w (MadeQ w ((List.range ps.length).map fun k => qth ps k - qth qs k)) := by
  have HF := Lib.hid hF
  have HL := Lib.hid hlen
  clear hF hlen
  obtain ⟨i0, hi, hz0, hz1, hz2⟩ := info_parts info_Q
  obtain ⟨W, hW⟩ : ∃ W, W ≤ w.heap.size ∧ w.heap.size ≤ W := ⟨_, Nat.le_refl _, Nat.le_refl _⟩
  go_enter Try.func91, Try.ntmps91
  go_wp2_with fail
  go_loopw [5, 6] (fun ov iv wr => ∃ (k : Nat) (es : List QV), k ≤ ps.length ∧ iv = .int .i64 k ∧ Ext w wr ∧ QOn wr W ov es ((List.range k).map fun k => qth ps k - qth qs k)) (fun _ iv _ => ps.length - (intOf iv).toNat)
  case atStart => exact ⟨0, [], by omega, rfl, Ext.refl _, QOn.nil _ _⟩
  case round =>
    obtain ⟨k, es, hk, rfl, hx, ho⟩ := hrel
    by_cases hlt : k < ps.length
    · obtain ⟨b1, o1, nb1, zo1, A1, zc1, mb1, yo1, B1, yc1, rfl, hb1, hc1, hq1⟩ := hA k hlt
      obtain ⟨b2, o2, nb2, zo2, A2, zc2, mb2, yo2, B2, yc2, rfl, hb2, hc2, hq2⟩ := hB k (by rw [HL.out]; exact hlt)
      obtain ⟨f1, f2⟩ := HF.out k hlt
      have HT := Lib.hid (map_range_snoc (fun k => qth ps k - qth qs k) k)
      have hkl : ((List.range k).map fun k => qth ps k - qth qs k).length = k := by simp
      obtain ⟨rs, hrs⟩ : ∃ rs, rs = (List.range k).map fun k => qth ps k - qth qs k := ⟨_, rfl⟩
      rw [← hrs] at ho hkl HT
      clear hrs
      have hel := ho.len
      have how := ho.own
      have hWr := hx.size
      have hk1 : (0 : Int) ≤ (k : Int) := by omega
      have hk2 : (k : Int) < (ps.length : Int) := by omega
      have hsc := fun W h h' => sub_calls W nb1 mb1 nb2 mb2 zo1 yo1 zo2 yo2 A1 zc1 B1 yc1 A2 zc2 B2 yc2 (qth ps k) (qth qs k) h h' f1 f2
      go_wp2_with fail
      go_region_held3 (fun w' => (w'.cell? ⟨b1, o1 + k * 4, none⟩ = some (.bool nb1)) ∧ (w'.cell? ⟨b1, o1 + k * 4 + 1, none⟩ = some (.slice zo1 A1 zc1)) ∧ (w'.cell? ⟨b1, o1 + k * 4 + 2, none⟩ = some (.bool mb1)) ∧ (w'.cell? ⟨b1, o1 + k * 4 + 3, none⟩ = some (.slice yo1 B1 yc1)) ∧ (w'.cell? ⟨b2, o2 + k * 4, none⟩ = some (.bool nb2)) ∧ (w'.cell? ⟨b2, o2 + k * 4 + 1, none⟩ = some (.slice zo2 A2 zc2)) ∧ (w'.cell? ⟨b2, o2 + k * 4 + 2, none⟩ = some (.bool mb2)) ∧ (w'.cell? ⟨b2, o2 + k * 4 + 3, none⟩ = some (.slice yo2 B2 yc2)))
        (exact c8 hb1 hc1 hb2 hc2 (by repeat (with_reducible first | exact Ext.refl _ | assumption | refine Ext.alloc ?_ _ | refine Ext.drew ?_)))
        ((first
          | (go_at_call 89; refine (hsc _ (hq1.ext (by repeat (with_reducible first | exact Ext.refl _ | assumption | refine Ext.alloc ?_ _ | refine Ext.drew ?_))) (hq2.ext (by repeat (with_reducible first | exact Ext.refl _ | assumption | refine Ext.alloc ?_ _ | refine Ext.drew ?_)))).mono ?_; rintro e v1 ⟨nb, zo, A, zc, mb, yo, B, yc, rfl, hR, hbk, hbm, hx11⟩; have hxr1 : Ext wr v1 := Ext.trans ((Ext.refl _).drew) hx11; have hxk1 : Ext w v1 := hx.trans hxr1; have hs1 := hxr1.size)
          | (refine step_append_Own _ (by rfl) _ _ 58 (by rfl) 41 i0 (.agg #[.bool false, .slice none 0 0, .bool false, .slice none 0 0]) 4 64 Try.underlying58 hi hz0 hz1 hz2 rfl (by omega) W _ (qvals es) (by rfl) (Own.ext how (by repeat (with_reducible first | exact Ext.refl _ | assumption | refine Ext.alloc ?_ _ | refine Ext.drew ?_))) (by first | omega | (simp; omega)) _ 1 1 (QV.vals (⟨nb, zo, A, zc, mb, yo, B, yc⟩ : QV)) (by rfl) rfl (four_cell _ (⟨nb, zo, A, zc, mb, yo, B, yc⟩ : QV) _ _ (by first | rfl | simp)) (QV.one (⟨nb, zo, A, zc, mb, yo, B, yc⟩ : QV)) (by rw [qvals_length, QV.vals_length]; unfold maxLen; omega) (by rw [qvals_length, QV.vals_length]; omega) ?_; intro v' w5 ho5 hg5 hb5; have hxk5 : Ext w w5 := Ext.onto (show Ext w _ from hxk1.alloc _) hg5 (fun q hq => by have := (how.lt q hq).1; omega))))
      all_goals
        have hs := ho.snoc (hxr1.alloc _) (x := ⟨nb, zo, A, zc, mb, yo, B, yc⟩) (isExt (w := v1) (show QV.is ⟨nb, zo, A, zc, mb, yo, B, yc⟩ v1 _ from hR) ((Ext.refl _).alloc _)) hbk hbm ho5 hg5 hb5
        rw [← HT.out] at hs
        go_wp2_with fail
        exact ⟨⟨k + 1, _, by omega, rfl, hxk5, hs⟩, by simp only [intOf]; omega⟩
    · obtain rfl : k = ps.length := by omega
      go_wp2_with fail
      go_ret
      exact ⟨_, es, rfl, ⟨ho.len, ho.own.rebase hW.2, ho.num, ho.off⟩, hx⟩
end Go.Proofs.Ytcngecibljgndaa
