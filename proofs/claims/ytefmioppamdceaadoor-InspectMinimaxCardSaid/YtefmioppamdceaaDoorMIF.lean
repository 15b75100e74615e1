/- Inspect: run. -/
import Derived.Test.YtefmioppamdceaaDoorMIE
import Derived.Test.YtefmioppamdceaaDoorMIPC
namespace Go.Proofs.YtefmioppamdceaaDoor
open Go.RowKit Go.Shelf

theorem outG_lt {T : GT} {last j k o : Nat} (h : outG T last j k = some o) : o < k := by
  have := outG_spec T last j k
  rw [h] at this
  exact this.1
set_option maxRecDepth 100000 in
set_option maxHeartbeats 8000000 in
theorem grun_calls (w0 w : World) (P : GAt) (n m : Nat) (A : Nat → Nat → Int) (T0 T' : GT) (f : Nat) (hT0 : TabG w w0.heap.size P n (m + n + 1) T0) (hx0 : Ext w0 w) (hG0 : Gm n m A T0) (hn : 0 < n ∧ n ≤ 5) (hm : m ≤ 5) (hA : ∀ i l, i < n → l < m → 1 ≤ A i l ∧ A i l ≤ 201) (hr : runG n m f T0 = some T') :
    Calls Tryd.prog 53 #[.pointer (some ⟨P.t, 0, none⟩)] w (PivRes w0 P n (m + n + 1) T') := by
  have HR := Lib.hid hr
  have HA := Lib.hid hA
  have hc0 := hT0.c0
  have hcaps := hT0.caps
  have ht2 := hT0.tIn.2
  clear hr hA
  go_enter Tryd.func53, Tryd.ntmps53
  go_wp2_with fail
  clear hc0
  go_loopg [] f (fun q wr => ∃ T : GT, TabG wr w0.heap.size P n (m + n + 1) T ∧ Hid (Gm n m A T) ∧ Ext w0 wr ∧ Hid (runG n m q T = some T'))
  case atStart => exact ⟨T0, hT0, Lib.hid hG0, hx0, HR⟩
  case round =>
    clear hT0 hx0 HR ht2
    obtain ⟨T, hT, HGm, hx, HG⟩ := hrel
    obtain ⟨q, rfl⟩ : ∃ q, gk = q + 1 := by
      cases gk with
      | zero => have := HG.out; simp [runG] at this
      | succ q => exact ⟨q, rfl⟩
    have hG := HG.out
    rw [runG] at hG
    obtain ⟨b, hcb, hRb⟩ := hT.rowC n (Nat.le_refl _)
    have hc0 := hT.c0
    have ht2 := hT.tIn.2
    have hr2 := hT.rgIn.2
    have a1 := After.cell hc0 ht2
    have a2 := After.cell hcb hr2
    have hic := fun s : After wr => indexE_calls s.at_ b (m + n) (m + n + 1) (T.R n) ⟨(hRb.ext s.ext).lt, fun l hl => (hRb.ext s.ext).ent l (by omega)⟩ (by omega) (by omega)
    have hnn : (n : Int) < (n : Int) + 1 := by omega
    have hmn : ((m + n + 1 : Nat) : Int) - 1 = ((m + n : Nat) : Int) := by omega
    obtain ⟨fo, hfo⟩ : ∃ fo, fo = firstNeg (T.R n) (m + n) := ⟨_, rfl⟩
    rw [← hfo] at hG
    simp only [← hfo] at hic
    have HFO := Lib.hid hfo
    have HGG := Lib.hid hG
    clear hfo hG HG
    go_wp2_with fail
    refine wp_region_after (by kernel_rfl) (by kernel_rfl) ?_
    intro hne
    repeat (go_big_quiet_step ((go_at_call 84; exact Calls.after (hic _))))
    refine wpQuiet_nil ?_
    intro w2 hx2
    have hT2 := hT.ext hx2
    have hx02 := hx.trans hx2
    clear hic hcb hc0 ht2 hr2
    cases fo with
    | none =>
      have hTT := Lib.hid (Option.some.inj HGG.out)
      clear HGG
      simp only [fnV]
      go_wp2_with fail
      go_end0
      rw [← hTT.out]
      exact ⟨⟨_, rfl⟩, hT2, hx02⟩
    | some j =>
      simp only [fnV]
      have hjs := firstNeg_spec (T.R n) (m + n)
      rw [← HFO.out] at hjs
      have hjl : j < m + n := hjs.1
      have hjl2 : (j : Int) < (m : Int) + (n : Int) + 1 := by omega
      have hcb2 := hT2.c0
      have ht2 := hT2.tIn.2
      have hr2 := hT2.rgIn.2
      clear hjs
      go_wp2_with fail
      go_loopw [4, 33] (fun ov i ws => ∃ k : Nat, k ≤ n ∧ i = .int .i64 k ∧ ov = .int .i64 (fnV (outG T (m + n) j k)) ∧ Ext w2 ws) (fun _ i _ => n - (intOf i).toNat)
      case atStart => exact ⟨0, by omega, rfl, rfl, Ext.refl _⟩
      case round =>
        rename World => ws
        obtain ⟨k, hk, rfl, rfl, hx3⟩ := hrel
        have hT3 := hT2.ext hx3
        by_cases hlt : k < n
        · obtain ⟨bk, hck, hRk⟩ := hT3.rowC k (by omega)
          obtain ⟨ak, hca, hBa⟩ := hRk.ent j (by omega)
          have hc3 := hT3.c0
          have ht3 := hT3.tIn.2
          have hr3 := hT3.rgIn.2
          have hb3 := hRk.lt
          have hkn : (k : Int) < (n : Int) := by omega
          have hkn1 : (k : Int) < (n : Int) + 1 := by omega
          have hsg := isign_calls ws ak (T.R k j) hBa
          by_cases hpos : 0 < T.R k j
          · rw [Int.sign_eq_one_of_pos hpos] at hsg
            cases ho : outG T (m + n) j k with
            | none =>
              have HO : Hid (outG T (m + n) j (k + 1) = some k) := Lib.hid (by rw [outG, ho]; simp only []; rw [if_pos hpos])
              simp only [fnV]
              clear ho hpos
              go_wp2_with fail
              refine hsg.mono ?_
              rintro e w4 ⟨rfl, hx4⟩
              have hx34 := hx3.trans hx4
              clear hsg
              go_wp2_with fail
              exact ⟨⟨k + 1, by omega, rfl, by rw [HO.out] <;> rfl, hx34⟩, by simp only [intOf]; omega⟩
            | some o =>
              have hok := outG_lt ho
              have hls := fun W (hxW : Ext ws W) => gless_calls W w0.heap.size P n (m + n) T k o j (hT3.ext hxW) hlt (by omega) (by omega) (by omega) (by omega) (HGm.out.smG hn.2 HA.out _) (fun i hi => by have := HGm.out.bas i hi; omega)
              have hoz : (0 : Int) ≤ (o : Int) := by omega
              have hoz2 : decide ((o : Int) < 0) = false := by simp
              by_cases hl : lessG T (m + n) k o j
              · have HO : Hid (outG T (m + n) j (k + 1) = some k) := Lib.hid (by rw [outG, ho]; simp only []; rw [if_pos ⟨hpos, hl⟩])
                rw [decide_eq_true hl] at hls
                simp only [fnV]
                clear ho hpos hl
                go_wp2_with fail
                refine hsg.mono ?_
                rintro e w4 ⟨rfl, hx4⟩
                have hx34 := hx3.trans hx4
                clear hsg
                go_wp2_with fail
                refine (hls w4 hx4).mono ?_
                rintro e w5 ⟨rfl, hx5⟩
                have hx35 := hx34.trans hx5
                clear hls
                go_wp2_with fail
                exact ⟨⟨k + 1, by omega, rfl, by rw [HO.out] <;> rfl, hx35⟩, by simp only [intOf]; omega⟩
              · have HO : Hid (outG T (m + n) j (k + 1) = some o) := Lib.hid (by rw [outG, ho]; simp only []; rw [if_neg (fun h => hl h.2)])
                rw [decide_eq_false hl] at hls
                simp only [fnV]
                clear ho hpos hl
                go_wp2_with fail
                refine hsg.mono ?_
                rintro e w4 ⟨rfl, hx4⟩
                have hx34 := hx3.trans hx4
                clear hsg
                go_wp2_with fail
                refine (hls w4 hx4).mono ?_
                rintro e w5 ⟨rfl, hx5⟩
                have hx35 := hx34.trans hx5
                clear hls
                go_wp2_with fail
                exact ⟨⟨k + 1, by omega, rfl, by rw [HO.out] <;> rfl, hx35⟩, by simp only [intOf]; omega⟩
          · have HO : Hid (outG T (m + n) j (k + 1) = outG T (m + n) j k) := Lib.hid (by
              rw [outG]
              cases outG T (m + n) j k with
              | none => simp only []; rw [if_neg hpos]
              | some o => simp only []; rw [if_neg (fun h => hpos h.1)])
            obtain ⟨c0, hc0, hc1⟩ : ∃ c, c = (T.R k j).sign ∧ (-1 ≤ c ∧ c ≤ 0) := ⟨_, rfl, by
              rcases Int.lt_trichotomy (T.R k j) 0 with h | h | h
              · rw [Int.sign_eq_neg_one_of_neg h]; omega
              · rw [h]; decide
              · omega⟩
            rw [← hc0] at hsg
            have hcd : decide (c0 > 0) = false := by simp; omega
            have hc2 : ¬ c0 > 0 := by omega
            clear hpos hc0
            go_wp2_with fail
            refine hsg.mono ?_
            rintro e w4 ⟨rfl, hx4⟩
            have hx34 := hx3.trans hx4
            clear hsg
            go_wp2_with fail
            exact ⟨⟨k + 1, by omega, rfl, by rw [HO.out] <;> rfl, hx34⟩, by simp only [intOf]; omega⟩
        · obtain rfl : k = n := by omega
          obtain ⟨o, ho⟩ := HGm.out.out (fun i l hi hl => (HA.out i l hi hl).1) hn.1 HFO.out.symm
          have hok := outG_lt ho
          have hG := HGG.out
          simp only [ho] at hG
          have HN := Lib.hid hG
          have hGp := Lib.hid (HGm.out.pivot (HGm.out.pick HFO.out.symm ho))
          have hpc := gpivot_calls w0 ws P k (m + k + 1) T o j hT3 (hx02.trans hx3) hok (by omega) (by omega) (by omega) (HGm.out.smG hn.2 HA.out _) (fun t l ht _ hti => HGm.out.exact_ hok t l ht hti)
          rw [ho]
          simp only [fnV]
          clear hG HGG ho
          go_wp2_with fail
          refine hpc.mono ?_
          rintro e w4 ⟨⟨v, rfl⟩, hT4, hx4⟩
          clear hpc
          go_wp2_with fail
          go_roundg q
          case measure => omega
          case rel => exact ⟨_, hT4, hGp, hx4, HN⟩
end Go.Proofs.YtefmioppamdceaaDoor

/- Mixtures, saddles of whole numbers, and that two saddles have one value; plain. -/
namespace Go.Proofs.YtefmioppamdceaaDoor

theorem sm_mul_r (c : Int) (f : Nat → Int) (n : Nat) : sm n (fun i => f i * c) = sm n f * c := by
  rw [Int.mul_comm, ← sm_mul]
  exact sm_congr _ (fun i _ => Int.mul_comm _ _)
/-- A saddle: parts of rows over a divisor, parts of columns over a divisor, and a value. -/
structure Sdl (n m : Nat) (G : Nat → Nat → Int) (r : Nat → Int) (rd : Int) (c : Nat → Int) (cd : Int) (vn vd : Int) : Prop where
  r0 : ∀ i, i < n → 0 ≤ r i
  c0 : ∀ j, j < m → 0 ≤ c j
  rs : sm n r = rd
  cs : sm m c = cd
  rp : 0 < rd
  cp : 0 < cd
  vp : 0 < vd
  cols : ∀ j, j < m → vn * rd ≤ (sm n fun i => G i j * r i) * vd
  rows : ∀ i, i < n → (sm m fun j => G i j * c j) * vd ≤ vn * cd
/-- What the rows of one get against the columns of another one. -/
theorem Sdl.cross {n m : Nat} {G : Nat → Nat → Int} {r r' : Nat → Int} {rd rd' : Int} {c c' : Nat → Int} {cd cd' vn vd vn' vd' : Int} (h : Sdl n m G r rd c cd vn vd) (k : Sdl n m G r' rd' c' cd' vn' vd') : vn * vd' ≤ vn' * vd := by
  obtain ⟨S, hS⟩ : ∃ S, S = sm m fun j => (sm n fun i => G i j * r i) * c' j := ⟨_, rfl⟩
  have e : S = sm n fun i => (sm m fun j => G i j * c' j) * r i := by
    have e1 : S = sm m fun j => sm n fun i => G i j * r i * c' j := by
      rw [hS]; exact sm_congr _ (fun j _ => (sm_mul_r _ _ _).symm)
    rw [e1, sm_swap]
    refine sm_congr _ (fun i _ => ?_)
    rw [← sm_mul_r]
    exact sm_congr _ (fun j _ => by grind)
  have h1 : vn * rd * cd' ≤ S * vd := by
    rw [← k.cs, hS, ← sm_mul, ← sm_mul_r]
    refine sm_le m (fun j hj => ?_)
    have := Int.mul_le_mul_of_nonneg_right (h.cols j hj) (k.c0 j hj)
    have e2 : (sm n fun i => G i j * r i) * c' j * vd = (sm n fun i => G i j * r i) * vd * c' j := by grind
    omega
  have h2 : S * vd' ≤ vn' * cd' * rd := by
    rw [← h.rs, e, ← sm_mul, ← sm_mul_r]
    refine sm_le n (fun i hi => ?_)
    have := Int.mul_le_mul_of_nonneg_right (k.rows i hi) (h.r0 i hi)
    have e2 : (sm m fun j => G i j * c' j) * r i * vd' = (sm m fun j => G i j * c' j) * vd' * r i := by grind
    omega
  have h3 := Int.mul_le_mul_of_nonneg_right h1 (show 0 ≤ vd' by have := k.vp; omega)
  have h4 := Int.mul_le_mul_of_nonneg_right h2 (show 0 ≤ vd by have := h.vp; omega)
  have hp : 0 < rd * cd' := Int.mul_pos h.rp k.cp
  refine Int.le_of_mul_le_mul_right (a := rd * cd') ?_ hp
  have e3 : vn * vd' * (rd * cd') = vn * rd * cd' * vd' := by grind
  have e4 : vn' * vd * (rd * cd') = vn' * cd' * rd * vd := by grind
  have e5 : S * vd * vd' = S * vd' * vd := by grind
  omega
theorem Sdl.same {n m : Nat} {G : Nat → Nat → Int} {r r' : Nat → Int} {rd rd' : Int} {c c' : Nat → Int} {cd cd' vn vd vn' vd' : Int} (h : Sdl n m G r rd c cd vn vd) (k : Sdl n m G r' rd' c' cd' vn' vd') : vn * vd' = vn' * vd :=
  Int.le_antisymm (h.cross k) (k.cross h)
/-- Two fractions in lowest terms that are the same. -/
theorem low_eq {a b c d : Int} (hb : 0 < b) (hd : 0 < d) (h1 : Int.gcd a b = 1) (h2 : Int.gcd c d = 1) (h : a * d = c * b) : a = c ∧ b = d := by
  have key : ∀ {p x y : Int}, Int.gcd x p = 1 → p ∣ x * y → p ∣ y := fun {p x y} hg hd => by
    have h1 := Int.natAbs_dvd_natAbs.2 hd
    rw [Int.natAbs_mul] at h1
    exact Int.natAbs_dvd_natAbs.1 (Nat.Coprime.dvd_of_dvd_mul_left (show Nat.gcd p.natAbs x.natAbs = 1 by rw [Nat.gcd_comm]; exact hg) h1)
  have e1 : b ∣ d := key h1 ⟨c, by rw [h, Int.mul_comm]⟩
  have e2 : d ∣ b := key h2 ⟨a, by rw [← h, Int.mul_comm]⟩
  have e3 : b = d := Int.dvd_antisymm (by omega) (by omega) e1 e2
  subst e3
  exact ⟨Int.eq_of_mul_eq_mul_right (by omega) h, rfl⟩
/-- From a saddle that is not scaled, by common divisors. -/
theorem Sad.sdl {n m : Nat} {G : Nat → Nat → Int} {X Y : Nat → Int} {z V : Int} (h : Sad n m G X Y z V) {g k q : Int} (hg : 0 < g) (hk : 0 < k) (hq : 0 < q) {r c : Nat → Int} {rd cd vn vd : Int}
    (er : ∀ i, i < n → Y i = g * r i) (erd : z = g * rd) (ec : ∀ j, j < m → X j = k * c j) (ecd : z = k * cd) (ev : V = q * vn) (evd : z = q * vd) : Sdl n m G r rd c cd vn vd := by
  have hz := h.pos
  have pos : ∀ {p x : Int}, 0 < p → 0 < p * x → 0 < x := fun {p x} hp hpx => by
    rcases Int.lt_or_le 0 x with h1 | h1
    · exact h1
    · have := Int.mul_nonpos_of_nonneg_of_nonpos (show 0 ≤ p by omega) h1; omega
  have nn : ∀ {p x : Int}, 0 < p → 0 ≤ p * x → 0 ≤ x := fun {p x} hp hpx => by
    rcases Int.lt_or_le x 0 with h1 | h1
    · have := Int.mul_neg_of_pos_of_neg hp h1; omega
    · exact h1
  have hrd : 0 < rd := pos hg (by omega)
  have hcd : 0 < cd := pos hk (by omega)
  have hvd : 0 < vd := pos hq (by omega)
  refine ⟨fun i hi => nn hg (by rw [← er i hi]; exact h.Y0 i hi), fun j hj => nn hk (by rw [← ec j hj]; exact h.X0 j hj), ?_, ?_, hrd, hcd, hvd, fun j hj => ?_, fun i hi => ?_⟩
  · refine Int.eq_of_mul_eq_mul_left (a := g) (by omega) ?_
    rw [← erd, ← h.sumY, ← sm_mul]
    exact sm_congr _ (fun i hi => (er i hi).symm)
  · refine Int.eq_of_mul_eq_mul_left (a := k) (by omega) ?_
    rw [← ecd, ← h.sumX, ← sm_mul]
    exact sm_congr _ (fun i hi => (ec i hi).symm)
  · have h1 := h.cols j hj
    have e : (sm n fun i => G i j * Y i) = g * sm n fun i => G i j * r i := by
      rw [← sm_mul]; exact sm_congr _ (fun i hi => by rw [er i hi]; grind)
    rw [e, ev] at h1
    have h2 := Int.mul_le_mul_of_nonneg_right h1 (show 0 ≤ vd by omega)
    refine Int.le_of_mul_le_mul_left (a := g) ?_ hg
    have a1 : q * vn * vd = g * (vn * rd) := by
      have : q * vd = g * rd := by omega
      calc q * vn * vd = (q * vd) * vn := by grind
        _ = (g * rd) * vn := by rw [this]
        _ = g * (vn * rd) := by grind
    have a2 : g * (sm n fun i => G i j * r i) * vd = g * ((sm n fun i => G i j * r i) * vd) := by grind
    omega
  · have h1 := h.rows i hi
    have e : (sm m fun j => G i j * X j) = k * sm m fun j => G i j * c j := by
      rw [← sm_mul]; exact sm_congr _ (fun i hi => by rw [ec i hi]; grind)
    rw [e, ev] at h1
    have h2 := Int.mul_le_mul_of_nonneg_right h1 (show 0 ≤ vd by omega)
    refine Int.le_of_mul_le_mul_left (a := k) ?_ hk
    have a1 : q * vn * vd = k * (vn * cd) := by
      have : q * vd = k * cd := by omega
      calc q * vn * vd = (q * vd) * vn := by grind
        _ = (k * cd) * vn := by rw [this]
        _ = k * (vn * cd) := by grind
    have a2 : k * (sm m fun j => G i j * c j) * vd = k * ((sm m fun j => G i j * c j) * vd) := by grind
    omega
end Go.Proofs.YtefmioppamdceaaDoor
