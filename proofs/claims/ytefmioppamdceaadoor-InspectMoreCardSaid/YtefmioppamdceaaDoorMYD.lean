/- The specification's whole numbers of any size: divD, gcdD. -/
import Derived.Test.YtefmioppamdceaaDoorMYB
namespace Go.Proofs.YtefmioppamdceaaDoor
--@optional
open Go.RowKit Go.Shelf

theorem IntsIn.some_or {w : World} {ao : Option Addr} {L : List Int} (h : IntsIn w ao L) : L = [] ∨ ∃ b off, ao = some ⟨b, off, none⟩ := by
  cases L with
  | nil => exact .inl rfl
  | cons a r =>
    obtain ⟨b, off, e, _⟩ := h 0 (by simp)
    exact .inr ⟨b, off, e⟩
/-- APPEND of numbers that lie somewhere (nothing too). -/
theorem wpList_append_ints {P : Program} (w : World) {ops : Array Oper} {rest : List Oper} {o : Oper} {a : Act} {Q : Exit → Act → World → Prop}
    (hg : o.guard = none) (s x : Operand) (t : TypeId) (hop : o.op = Op.call { callee := Callee.builtin Builtin.append, args := #[s, x], argTypes := #[t, t] })
    (e : TypeId) (i : TypeInfo) (h1 : P.underlying t = some (.slice e)) (h2 : P.info? e = some i) (h3 : i.zero = some (.int .i64 0)) (h4 : i.size = 1) (h5 : i.bytes = 8)
    (base : Nat) (v : Value) (M : List Int) (hs : a.eval s = v) (hown : Own w base 1 v (ints M)) (hbase : base ≤ w.heap.size)
    (ao : Option Addr) (c : Nat) (L : List Int) (hx : a.eval x = .slice ao L.length c) (hL : IntsIn w ao L) (hM : M.length ≤ 100000) (hLl : L.length ≤ 100000)
    (hK : ∀ v' w', Own w' base 1 v' (ints (M ++ L)) → w.grownBy w' v.ownBlock → (∀ k, v'.ownBlock = some k → v.ownBlock = some k ∨ w.heap.size ≤ k) → wpList P ops Q rest (a.put o.dst v') w') :
    wpList P ops Q (o :: rest) a w := by
  refine wpList_step fun K hKK => ?_
  rcases hL.some_or with rfl | ⟨b, off, rfl⟩
  · cases ao with
    | none =>
      rw [if_pos (by simp [Region.wanted, hg])]
      obtain ⟨bo, n, cap, rfl, hnc⟩ := hown.shapeCap
      exact wp_append_nil w s x t hop e i h1 h2 bo n cap c hs hnc hx (hKK _ _ (hK _ w (by simpa using hown) ⟨rfl, rfl, rfl, Nat.le_refl _, fun _ _ _ => rfl⟩ (fun k hk => .inl hk)))
    | some ad =>
      refine step_append_Own w hg s x t hop e i (.int .i64 0) 1 8 h1 h2 h3 h4 h5 rfl (by omega) base v (ints M) hs hown hbase ad 0 c [] hx (by simp) (fun j u hu => by simp at hu) (fun u hu => by simp at hu) (by rw [ints_length]; unfold maxLen; simp; omega) (by rw [ints_length]; simp; omega) ?_
      intro v' w' g1 g2 g3
      exact hKK _ _ (hK v' w' (by simpa using g1) g2 g3)
  · refine step_append_Own w hg s x t hop e i (.int .i64 0) 1 8 h1 h2 h3 h4 h5 rfl (by omega) base v (ints M) hs hown hbase ⟨b, off, none⟩ L.length c (ints L) hx (by rw [ints_length]; omega) hL.news (ints_one L) (by rw [ints_length, ints_length]; unfold maxLen; omega) (by rw [ints_length, ints_length]; omega) ?_
    intro v' w' g1 g2 g3
    have e1 : ints M ++ ints L = ints (M ++ L) := by simp [ints]
    rw [e1] at g1
    exact hKK _ _ (hK v' w' g1 g2 g3)
theorem one_list (w : World) (x : Int) (z : Nat) (hz : z = w.heap.size) : IntsIn (w.alloc (.cells #[.int .i64 x] 3)) (some ⟨z, 0, none⟩) [x] := by
  subst hz
  intro k hk
  obtain rfl : k = 0 := by simp at hk; omega
  exact ⟨w.heap.size, 0, rfl, by simp, by simp [go_sem, ith]⟩
theorem one_own (w : World) (x : Int) (z : Nat) (hz : z = w.heap.size) : Own (w.alloc (.cells #[.int .i64 x] 3)) z 1 (.slice (some ⟨z, 0, none⟩) 1 1) (ints [x]) := by
  subst hz
  refine ⟨1, by simp [ints], .inr ⟨w.heap.size, 0, 1, rfl, Nat.le_refl _, by simp, Nat.le_refl _, by unfold maxLen; omega, fun j hj => ?_, fun j hj => ?_⟩⟩
  · obtain rfl : j = 0 := by omega
    exact ⟨by simp [go_sem], by simp [go_sem]⟩
  · obtain rfl : j = 0 := by omega
    simp [go_sem, ints]
theorem worth_one (x : Nat) : worth [(x : Int)] = x := by simp [worth]
theorem digits_one {x : Nat} (h : x < 10000) : Digits [(x : Int)] := by intro y hy; simp at hy; omega
theorem digits_cons {x : Nat} (h : x < 10000) (n : Nat) : Digits ([(x : Int)] ++ digs n) := by
  intro y hy
  rw [List.mem_append] at hy
  rcases hy with hy | hy
  · exact digits_one h y hy
  · exact digits_digs n y hy
theorem worth_cons (x n : Nat) : (worth ([(x : Int)] ++ digs n)).toNat = x + 10000 * n := by
  rw [worth_append, worth_one, worth_digs]; simp; omega
/-- What a quotient and what is left over are handed back as. -/
def Dg2 (w : World) (m n : Nat) (e : Ending) (w' : World) : Prop := ∃ v u, e = .returned (.tuple #[v, u]) ∧ Own w' w.heap.size 1 v (ints (digs m)) ∧ Own w' w.heap.size 1 u (ints (digs n)) ∧ Ext w w'

structure Quo (M N A p : Nat) (L : List Int) : Prop where
  len : L.length = A
  val : ∀ j, j < A → ith L j = if p ≤ j then (dig (M / N) j : Int) else 0
theorem quo_start (M N A : Nat) : Quo M N A A (List.replicate A 0) := by
  refine ⟨by simp, fun j hj => ?_⟩
  rw [if_neg (by omega)]
  unfold ith; rw [List.getD_eq_getElem?_getD, List.getElem?_replicate]; split <;> rfl
theorem Quo.step {M N A p : Nat} {L : List Int} (h : Quo M N A (p + 1) L) (hp : p < A) {u : Int} (hu : u = (dig (M / N) p : Int)) : Quo M N A p (L.set p u) := by
  refine ⟨by rw [List.length_set]; exact h.len, fun j hj => ?_⟩
  rw [ith_set _ _ _ _ (by rw [h.len]; exact hp)]
  by_cases e : j = p
  · subst e; rw [if_pos rfl, if_pos (Nat.le_refl _)]; exact hu
  · rw [if_neg e, h.val j hj]
    by_cases h2 : p + 1 ≤ j
    · rw [if_pos h2, if_pos (by omega)]
    · rw [if_neg h2, if_neg (by omega)]
theorem ext_getD {a b : List Int} (hl : a.length = b.length) (h : ∀ q, q < a.length → a.getD q 0 = b.getD q 0) : a = b := by
  apply List.ext_getElem hl
  intro i h1 h2
  have := h i h1
  simpa [List.getD_eq_getElem?_getD, h1, h2] using this
theorem Quo.done {M N A : Nat} {L : List Int} (h : Quo M N A 0 L) : L = low A (M / N) := by
  apply ext_getD
  · rw [h.len, low_length]
  · intro q hq
    have h1 := h.val q (by rw [← h.len]; exact hq)
    rw [if_pos (Nat.zero_le _)] at h1
    rw [ith_getD] at h1
    rw [h1, low_at _ _ _ (by rw [← h.len]; exact hq)]
set_option maxRecDepth 100000 in
set_option maxHeartbeats 4000000 in
theorem divD_calls (w : World) (ao bo : Option Addr) (cap cap2 A B : Nat) (M N : Nat) (hI : DigsIn w ao M A) (hJ : DigsIn w bo N B) (hA : A ≤ 5000) (hB : B ≤ 5000) (hN : 0 < N) :
    Calls Tryd.prog 103 #[.slice ao A cap, .slice bo B cap2] w (Dg2 w (M / N) (M % N)) := by
  obtain ⟨i0, hi, hz0, hz1, hz2⟩ := info_parts info_int
  have HmA := Lib.hid hI.many
  have HnB := Lib.hid hJ.many
  have hB0 : 0 < B := by
    rcases Nat.eq_zero_or_pos B with h | h
    · have := HnB.out; rw [h, many_eq_zero] at this; omega
    · exact h
  have HN := Lib.hid hN
  clear hN
  have hbb : ((B : Int) == 0) = false := by simp; omega
  have hmk : ∀ W, (Instr.makeSlice 30 (.int .i64 (A : Int)) (.int .i64 (A : Int))).run Tryd.prog W = .ok (.slice (some ⟨W.heap.size, 0, none⟩) A A) (W.alloc (.cells (Array.replicate A (.int .i64 0)) 3)) := fun W => make_ints A (by omega) W
  go_enter Tryd.func103, Tryd.ntmps103
  go_wp2_with fail
  obtain ⟨R, hR⟩ : ∃ R, R = w.heap.size := ⟨_, rfl⟩
  have hx1 : Ext w (w.alloc (.cells (Array.replicate A (.int .i64 0)) 3)) := (by repeat (first | exact Ext.refl _ | assumption | refine Ext.alloc ?_ _ | refine Ext.drewN ?_ _ | refine Ext.drew ?_))
  have ho1 : Own (w.alloc (.cells (Array.replicate A (.int .i64 0)) 3)) R 1 (.slice (some ⟨R, 0, none⟩) A A) (ints (List.replicate A 0)) := by
    refine ⟨A, by simp [ints_length], .inr ⟨R, 0, A, rfl, Nat.le_refl _, by simp [hR], Nat.le_refl _, by unfold maxLen; omega, fun j hj => ?_, fun j hj => ?_⟩⟩
    · subst hR
      exact ⟨by simp [go_sem]; omega, by simp [go_sem]⟩
    · subst hR
      have hj' : j < A := by omega
      simp [go_sem, ints, hj']
  have hs1 : (w.alloc (.cells (Array.replicate A (.int .i64 0)) 3)).heap.size = R + 1 := by rw [hR]; simp
  generalize (w.alloc (.cells (Array.replicate A (.int .i64 0)) 3)) = w1 at *
  rw [← hR]
  have hRw : w.heap.size ≤ R := by omega
  clear hR hmk
  go_loopw [7, 8] (fun rv iv wr => ∃ (p : Nat) (L : List Int), p ≤ A ∧ iv = .int .i64 ((p : Int) - 1) ∧ w1.grownBy wr (some R) ∧ Own wr R 1 (.slice (some ⟨R, 0, none⟩) A A) (ints L) ∧ Own wr (R + 1) 1 rv (ints (digs (M / 10000 ^ p % N))) ∧ Hid (Quo M N A p L)) (fun _ iv _ => (intOf iv + 1).toNat)
  case atStart => exact ⟨A, _, by omega, rfl, (Ext.refl _).grown _, ho1, by
    have h0 : M / 10000 ^ A % N = 0 := by rw [Nat.div_eq_of_lt (by rw [← HmA.out]; exact lt_many M)]; simp
    rw [h0, digs_zero]; exact Own.nil _ _ _, Lib.hid (quo_start M N A)⟩
  case round =>
    obtain ⟨p, L, hp, rfl, hg, ho, hro, HQ⟩ := hrel
    have hxs : Ext w wr := hx1.onto hg (fun q hq => by simp only [Option.some.injEq] at hq; omega)
    have hsr := hg.size
    rcases Nat.eq_zero_or_pos p with h0 | h0
    · subst h0
      have hlen := HQ.out.len
      have hLl := HQ.out.done
      have hwl : (worth L).toNat = M / N := by
        rw [hLl, worth_low, Nat.mod_eq_of_lt]
        · exact Int.toNat_natCast _
        · exact Nat.lt_of_le_of_lt (Nat.div_le_self _ _) (by rw [← HmA.out]; exact lt_many M)
      have htc := trim_calls wr (some ⟨R, 0, none⟩) A L (by
        have := ho
        rw [← hlen] at this
        exact this.intsIn) (by rw [hLl]; exact digits_low _ _) (by omega)
      rw [hwl, hlen] at htc
      rw [Nat.pow_zero, Nat.div_one] at hro
      obtain ⟨ro, rc, rfl, -, -⟩ := hro.intsShape
      clear hwl hlen hLl
      go_wp2_with fail
      refine htc.mono ?_
      rintro e w3 ⟨v, rfl, ho3, hx3⟩
      go_wp2_with fail
      go_ret2
      exact ⟨_, _, rfl, ho3.rebase hxs.size, (hro.ext hx3).rebase (by omega), hxs.trans hx3⟩
    · obtain ⟨j, hj⟩ : ∃ j, p = j + 1 := ⟨p - 1, by omega⟩
      have e1 : (p : Int) - 1 = (j : Int) := by omega
      have hjA : j < A := by omega
      have HQ2 : Hid (Quo M N A (j + 1) L) := Lib.hid (by rw [← hj]; exact HQ.out)
      rw [hj] at hro
      obtain ⟨n0, hn0⟩ : ∃ n0, n0 = M / 10000 ^ (j + 1) % N := ⟨_, rfl⟩
      obtain ⟨x, hx⟩ : ∃ x, x = dig M j := ⟨_, rfl⟩
      obtain ⟨d1, d2, d3⟩ := div_step M N j HN.out
      rw [← hn0] at hro d1 d2 d3
      rw [← hx] at d1 d2 d3
      obtain ⟨T, hT⟩ : ∃ T, T = 10000 * n0 + x := ⟨_, rfl⟩
      rw [← hT] at d1 d2 d3
      have hx9 : x < 10000 := by rw [hx]; exact dig_lt _ _
      have hmn0 : many n0 ≤ B := by
        rw [← HnB.out]
        refine many_le (Nat.lt_trans ?_ (lt_many N))
        rw [hn0]; exact Nat.mod_lt _ HN.out
      have HT := Lib.hid hT
      have HX := Lib.hid hx
      have D1 := Lib.hid d1
      have D2 := Lib.hid d2
      have D3 := Lib.hid d3
      have hdl : (digs n0).length = many n0 := digs_length n0
      obtain ⟨NA, hNA⟩ : ∃ NA, NA = many n0 := ⟨_, rfl⟩
      rw [← hNA] at hdl hmn0
      clear hj HQ hn0 hx d1 d2 d3 hT hNA
      rw [e1]
      obtain ⟨b, off, rfl, hb, hc⟩ := (hI.ext hxs).at_ j hjA
      rw [← HX.out] at hc
      -- what is left so far, behind the next digit
      obtain ⟨ro, rc, rfl, hRI, -⟩ := hro.intsShape
      have hxb : Ext wr (wr.alloc (.cells #[.int .i64 (x : Int)] 3)) := (by repeat (first | exact Ext.refl _ | assumption | refine Ext.alloc ?_ _ | refine Ext.drewN ?_ _ | refine Ext.drew ?_))
      have hob := one_own wr (x : Int) wr.heap.size rfl
      have hRI2 := hRI.ext hxb
      go_wp2_with (at_builtin; refine wpList_append_ints _ rfl _ _ 30 rfl 3 i0 Tryd.underlying30 hi hz0 hz1 hz2 wr.heap.size _ [(x : Int)] rfl hob (by simp) ro rc (digs n0) rfl hRI2 (by simp) (by omega) ?_; intro v5 w5 ho5 hg5 hb5; obtain ⟨o5, c5, rfl, hI5, -⟩ := ho5.intsShape)
      have hl5 : ([(x : Int)] ++ digs n0).length = NA + 1 := by simp; omega
      have htm := trim_calls w5 o5 c5 ([(x : Int)] ++ digs n0) hI5 (digits_cons hx9 n0) (by rw [hl5]; omega)
      rw [worth_cons, show x + 10000 * n0 = T by have := HT.out; omega, hl5] at htm
      have hx5 : Ext wr w5 := hxb.onto hg5 (fun q (hq : (Value.slice (some ⟨wr.heap.size, 0, none⟩) 1 1).ownBlock = some q) => Nat.le_of_eq (by simpa [Value.ownBlock] using hq))
      clear hI5 hb5 hg5 ho5 hob hxb hRI2 hRI hdl hl5 hc
      refine htm.mono ?_
      rintro e w6 ⟨v, rfl, hoT, hx6⟩
      clear htm
      have hTN : T < 10000 * N := by
        have := D3.out
        rw [Nat.div_lt_iff_lt_mul HN.out] at this
        exact this
      have hmT : many T ≤ B + 1 := by
        refine many_le (Nat.lt_of_lt_of_le hTN ?_)
        rw [Nat.pow_succ, Nat.mul_comm, ← HnB.out]
        exact Nat.mul_le_mul_right _ (Nat.le_of_lt (lt_many N))
      obtain ⟨o6, c6, rfl, hTI, -⟩ := hoT.intsShape
      obtain ⟨NT, hNT⟩ : ∃ NT, (digs T).length = NT := ⟨_, rfl⟩
      have hNT9 : NT ≤ 5001 := by rw [← hNT, digs_length]; omega
      rw [hNT] at hoT ⊢
      have hx06 := hx5.trans hx6
      have HTN := Lib.hid hTN
      have HNT := Lib.hid hNT
      clear hTN hmT hNT
      go_wp2_with fail
      go_loopw [10, 11] (fun lv hv ws => ∃ lo hi : Nat, lo ≤ hi ∧ hi ≤ 9999 ∧ lv = .int .i64 lo ∧ hv = .int .i64 hi ∧ Hid (lo * N ≤ T ∧ T < (hi + 1) * N) ∧ Ext w6 ws) (fun lv hv _ => (intOf hv - intOf lv).toNat)
      case atStart => exact ⟨0, 9999, by omega, by omega, rfl, rfl, Lib.hid ⟨by simp, HTN.out⟩, Ext.refl _⟩
      case round =>
        rename World => ws
        obtain ⟨lo, hi', hlh, hh9, rfl, rfl, HLH, hxws⟩ := hrel
        have hx0s := hxs.trans (hx06.trans hxws)
        by_cases hlt : lo < hi'
        · obtain ⟨md, hmd0⟩ : ∃ md, md = (lo + hi' + 1) / 2 - 1 := ⟨_, rfl⟩
          obtain ⟨mid, hmid⟩ : ∃ mid, mid = md + 1 := ⟨_, rfl⟩
          have htd : ((lo : Int) + (hi' : Int) + 1).tdiv 2 = (mid : Int) := by rw [Int.tdiv_eq_ediv_of_nonneg (by omega)]; omega
          have hm1 : lo ≤ md ∧ md < hi' := by omega
          have em : (mid : Int) - 1 = (md : Int) := by omega
          have HMID := Lib.hid hmid
          have hmid9 : mid ≤ 9999 := by omega
          clear hmd0 hmid
          go_wp2_with fail
          -- the digits of mid, and N times it
          obtain ⟨zb, hzb⟩ : ∃ zb, zb = ws.heap.size := ⟨_, rfl⟩
          have hxb : Ext ws (ws.alloc (.cells #[.int .i64 ((mid : Nat) : Int)] 3)) := (by repeat (first | exact Ext.refl _ | assumption | refine Ext.alloc ?_ _ | refine Ext.drewN ?_ _ | refine Ext.drew ?_))
          have hlb := one_list ws ((mid : Nat) : Int) zb hzb
          try rw [hsz8] at hzb
          rw [← hzb]
          generalize (ws.alloc (.cells #[.int .i64 ((mid : Nat) : Int)] 3)) = wb at *
          clear hzb
          have htm := trim_calls wb (some ⟨zb, 0, none⟩) 1 [((mid : Nat) : Int)] hlb (digits_one (by omega)) (by simp)
          rw [worth_one, Int.toNat_natCast] at htm
          refine htm.mono ?_
          rintro e wt ⟨v, rfl, hov, hxt⟩
          obtain ⟨mo, mc, rfl, hmI, -⟩ := hov.intsShape
          clear hov htm hlb
          have hxbt := hxb.trans hxt
          obtain ⟨MA, hMA⟩ : ∃ MA, (digs (mid : Nat)).length = MA := ⟨_, rfl⟩
          have hMA1 : MA ≤ 1 := by rw [← hMA, digs_length]; exact many_le (by omega)
          have hmd : DigsIn wt mo (mid : Nat) MA := ⟨hMA, hmI⟩
          rw [hMA]
          clear hmI hMA
          go_wp2_with fail
          refine (mulD_calls wt bo mo cap2 mc B MA N mid (hJ.ext (hx0s.trans hxbt)) hmd (by omega) (by omega)).mono ?_
          rintro e wp ⟨v, rfl, hop, hxp⟩
          obtain ⟨po, pc, rfl, hpI, -⟩ := hop.intsShape
          clear hop
          have hxsp := hxbt.trans hxp
          have hcm := cmpD_calls wp po o6 pc c6 (N * mid) T hpI ((hTI.ext hxws).ext hxsp) (by
            rw [digs_length]
            have : many (N * mid) ≤ B + 1 := many_le (by
              rw [Nat.pow_succ, ← HnB.out]
              have h1 := lt_many N
              exact Nat.lt_of_le_of_lt (Nat.mul_le_mul_left N hmid9) (by
                have h2 : 0 < 10000 ^ many N := Nat.pow_pos (by omega)
                have h3 : N * 9999 ≤ 10000 ^ many N * 9999 := Nat.mul_le_mul_right _ (Nat.le_of_lt h1)
                omega))
            omega) (by rw [HNT.out]; omega)
          rw [HNT.out] at hcm
          obtain ⟨cz, hcz, hcz2⟩ : ∃ cz, cmpZ ((N * mid : Nat) : Int) (T : Int) = cz ∧ (cz ≤ 0 ↔ N * mid ≤ T) := ⟨_, rfl, by
            unfold cmpZ
            split
            · omega
            · split <;> omega⟩
          rw [hcz] at hcm
          clear hcz hpI
          go_wp2_with fail
          refine hcm.mono ?_
          rintro e wc ⟨rfl, hxc⟩
          have hxwc := hxws.trans (hxsp.trans hxc)
          clear hcm
          by_cases hle : cz ≤ 0
          · have HLE := Lib.hid (hcz2.1 hle)
            clear hcz2
            go_wp2_with fail
            have h1 := HMID.out
            exact ⟨⟨mid, hi', by omega, by omega, rfl, rfl, Lib.hid ⟨by rw [Nat.mul_comm]; exact HLE.out, HLH.out.2⟩, hxwc⟩, by simp only [intOf]; omega⟩
          · have HLE := Lib.hid (show T < N * mid by
              rcases Nat.lt_or_ge T (N * mid) with h | h
              · exact h
              · exact absurd (hcz2.2 h) hle)
            clear hcz2
            go_wp2_with fail
            have h1 := HMID.out
            exact ⟨⟨lo, md, by omega, by omega, rfl, rfl, Lib.hid ⟨HLH.out.1, by rw [← h1, Nat.mul_comm]; exact HLE.out⟩, hxwc⟩, by simp only [intOf]; omega⟩
        · obtain rfl : lo = hi' := by omega
          have hq : T / N = lo := Nat.div_eq_of_lt_le HLH.out.1 HLH.out.2
          have hxrs := hx06.trans hxws
          have hos := ho.ext hxrs
          have hlen := HQ2.out.len
          obtain ⟨c1, c2⟩ := hos.intAt j (by rw [hlen]; exact hjA)
          rw [Nat.zero_add] at c1 c2
          have hoTs := hoT.ext hxws
          have hos2 := hos.setInt j (by rw [hlen]; exact hjA) (lo : Int)
          rw [Nat.zero_add] at hos2
          have hg8 : w1.grownBy (ws.setCell ⟨R, j, none⟩ (.int .i64 lo)) (some R) := grownBy_trans (grownBy_trans hg (hxrs.grown _)) (grownBy_setCell ws ⟨R, j, none⟩ _)
          have hsz6 := hx06.size
          have hoT8 := hoTs.keep (grownBy_setCell ws ⟨R, j, none⟩ (.int .i64 lo)) (by right; intro e; have := (hoTs.lt R e).1; have := hx5.size; omega)
          have hQ3 := Lib.hid (HQ2.out.step hjA (u := (lo : Int)) (by rw [D2.out, hq]))
          have HQL := Lib.hid hq
          clear hlen hq hoTs hos
          go_wp2_with fail
          have hsz8 : (ws.setCell ⟨R, j, none⟩ (.int .i64 lo)).heap.size = ws.heap.size := by simp [World.setCell]
          generalize (ws.setCell ⟨R, j, none⟩ (.int .i64 lo)) = w8 at *
          have hx08 : Ext w w8 := hx1.onto hg8 (fun q hq => by simp only [Option.some.injEq] at hq; omega)
          have hlo9 : lo ≤ 9999 := by omega
          -- the digits of lo, and N times it
          obtain ⟨zb, hzb⟩ : ∃ zb, zb = w8.heap.size := ⟨_, rfl⟩
          have hxb : Ext w8 (w8.alloc (.cells #[.int .i64 ((lo : Nat) : Int)] 3)) := (by repeat (first | exact Ext.refl _ | assumption | refine Ext.alloc ?_ _ | refine Ext.drewN ?_ _ | refine Ext.drew ?_))
          have hlb := one_list w8 ((lo : Nat) : Int) zb hzb
          try rw [hsz8] at hzb
          rw [← hzb]
          generalize (w8.alloc (.cells #[.int .i64 ((lo : Nat) : Int)] 3)) = wb at *
          clear hzb
          have htm := trim_calls wb (some ⟨zb, 0, none⟩) 1 [((lo : Nat) : Int)] hlb (digits_one (by omega)) (by simp)
          rw [worth_one, Int.toNat_natCast] at htm
          refine htm.mono ?_
          rintro e wt ⟨v, rfl, hov, hxt⟩
          obtain ⟨mo, mc, rfl, hmI, -⟩ := hov.intsShape
          clear hov htm hlb
          have hxbt := hxb.trans hxt
          obtain ⟨MA, hMA⟩ : ∃ MA, (digs (lo : Nat)).length = MA := ⟨_, rfl⟩
          have hMA1 : MA ≤ 1 := by rw [← hMA, digs_length]; exact many_le (by omega)
          have hmd : DigsIn wt mo (lo : Nat) MA := ⟨hMA, hmI⟩
          rw [hMA]
          clear hmI hMA
          go_wp2_with fail
          refine (mulD_calls wt bo mo cap2 mc B MA N lo (hJ.ext (hx08.trans hxbt)) hmd (by omega) (by omega)).mono ?_
          rintro e wp ⟨v, rfl, hop, hxp⟩
          obtain ⟨po, pc, rfl, hpI, -⟩ := hop.intsShape
          clear hop
          have hx8p := hxbt.trans hxp
          obtain ⟨PA, hPA⟩ : ∃ PA, (digs (N * lo)).length = PA := ⟨_, rfl⟩
          have hpd : DigsIn wp po (N * lo) PA := ⟨hPA, hpI⟩
          rw [hPA]
          clear hPA hpI
          obtain ⟨o7, c7, h7, hTI8, -⟩ := hoT8.intsShape
          have hsub := subD_calls wp o6 po c6 pc NT PA T (N * lo) (by rw [Nat.mul_comm]; exact HLH.out.1) ⟨HNT.out, (by
            simp only [Value.slice.injEq] at h7
            rw [h7.1]; exact hTI8.ext hx8p)⟩ hpd (by omega)
          have hTm : T - N * lo = M / 10000 ^ j % N := by
            rw [D1.out, ← HQL.out]
            have := Nat.div_add_mod T N
            omega
          rw [hTm] at hsub
          clear h7 hTI8 hTm
          go_wp2_with fail
          refine hsub.mono ?_
          rintro e w9 ⟨v, rfl, ho9, hx9⟩
          have hx89 := hx8p.trans hx9
          clear hsub
          go_wp2_with fail
          exact ⟨⟨j, L.set j (lo : Int), by omega, rfl, grownBy_trans hg8 (hx89.grown _), hos2.ext hx89, ho9.rebase (by have := hg8.size; have := hx8p.size; omega), hQ3⟩, by simp only [intOf]; omega⟩
end Go.Proofs.YtefmioppamdceaaDoor
