/- Whole-number tableaus: each entry is the function of the basis with one column exchanged; a pivot divides exactly, and a row may be struck; plain. -/
import Derived.Test.YtcngecibljgndaaLA
namespace Go.Proofs.Ytcngecibljgndaa

/-- A function of columns (by their numbers) that is 0 where two are the same, and turns its sign where two are exchanged. -/
structure Alt (n : Nat) (F : (Nat → Nat) → Int) : Prop where
  only : ∀ x y, (∀ s, s < n → x s = y s) → F x = F y
  same : ∀ x a b, a < n → b < n → a ≠ b → x a = x b → F x = 0
  swap : ∀ x a b, a < n → b < n → a ≠ b → F (swp x a b) = - F x
def Fof (n : Nat) (col : Nat → Nat → Int) (x : Nat → Nat) : Int := det n fun s => col (x s)
theorem fof_alt (n : Nat) (col : Nat → Nat → Int) : Alt n (Fof n col) := by
  refine ⟨fun x y h => ?_, fun x a b ha hb hab e => ?_, fun x a b ha hb hab => ?_⟩
  · exact det_congr n _ _ (fun s r hs _ => by rw [h s hs])
  · exact det_same ha hb hab _ (by simp only [e])
  · have e : (fun s => col (swp x a b s)) = swp (fun s => col (x s)) a b := by
      funext s
      unfold swp upd
      by_cases h1 : s = b
      · rw [if_pos h1, if_pos h1]
      · rw [if_neg h1, if_neg h1]
        by_cases h2 : s = a
        · rw [if_pos h2, if_pos h2]
        · rw [if_neg h2, if_neg h2]
    unfold Fof
    rw [e]
    exact det_swp ha hb hab _
structure Plu (n : Nat) (F : (Nat → Nat) → Int) (J : Nat → Nat) (R : Nat → Nat → Int) (b s : Int) : Prop where
  alt : Alt n F
  sign : s = 1 ∨ s = -1
  val : b = s * F J
  row : ∀ m l, m < n → R m l = s * F (upd J m l)
  exp : ∀ x k l, k < n → b * F (upd x k l) = sm n fun m => R m l * F (upd x k (J m))
theorem sm_split (f : Nat → Int) (i n : Nat) (h : i < n) : sm n f = sm n (fun m => if m = i then 0 else f m) + f i := by
  have e1 := sm_one i f n
  rw [if_pos h] at e1
  rw [← e1, ← sm_add]
  refine sm_congr _ (fun m _ => ?_)
  by_cases e : m = i <;> simp [e]
theorem Plu.sq {n : Nat} {F : (Nat → Nat) → Int} {J : Nat → Nat} {R : Nat → Nat → Int} {b s : Int} (h : Plu n F J R b s) : s * s = 1 := by
  rcases h.sign with h | h <;> rw [h] <;> rfl
theorem Plu.unit {n : Nat} {F : (Nat → Nat) → Int} {J : Nat → Nat} {R : Nat → Nat → Int} {b s : Int} (h : Plu n F J R b s) {m t : Nat} (hm : m < n) (ht : t < n) : R m (J t) = if t = m then b else 0 := by
  rw [h.row m _ hm]
  by_cases e : t = m
  · subst e; rw [if_pos rfl, upd_self, h.val]
  · rw [if_neg e, h.alt.same _ m t hm ht (Ne.symm e) (by rw [upd_same, upd_other _ _ e]), Int.mul_zero]
/-- What a pivot makes of another row, times what it is divided by. -/
theorem Plu.cross {n : Nat} {F : (Nat → Nat) → Int} {J : Nat → Nat} {R : Nat → Nat → Int} {b s : Int} (h : Plu n F J R b s) {i j m : Nat} (hi : i < n) (hm : m < n) (hmi : m ≠ i) (l : Nat) :
    R m l * R i j - R m j * R i l = b * (s * F (upd (upd J i j) m l)) := by
  have he := h.exp (upd J i j) m l hm
  rw [sm_split _ m n hm, sm_split _ i n hi] at he
  have e0 : (sm n fun t => if t = i then 0 else if t = m then 0 else R t l * F (upd (upd J i j) m (J t))) = 0 := by
    refine sm_all0 n (fun t ht => ?_)
    by_cases h1 : t = i
    · rw [if_pos h1]
    · rw [if_neg h1]
      by_cases h2 : t = m
      · rw [if_pos h2]
      · rw [if_neg h2, h.alt.same _ m t hm ht (Ne.symm h2) (by rw [upd_same, upd_other _ _ h2, upd_other _ _ h1]), Int.mul_zero]
  have e1 : F (upd (upd J i j) m (J m)) = F (upd J i j) := by
    rw [upd_comm _ _ _ (Ne.symm hmi), upd_self]
  have e2 : F (upd (upd J i j) m (J i)) = - F (upd J m j) := by
    rw [← h.alt.swap (upd J m j) i m hi hm (Ne.symm hmi)]
    congr 1
    unfold swp
    rw [upd_same, upd_other _ _ (Ne.symm hmi)]
    funext t
    unfold upd
    by_cases h1 : t = m
    · rw [if_pos h1, if_pos h1]
    · rw [if_neg h1, if_neg h1]
      by_cases h2 : t = i
      · rw [if_pos h2, if_pos h2]
      · rw [if_neg h2, if_neg h2, if_neg h1]
  rw [e0, e1, if_neg (Ne.symm hmi), e2] at he
  have r1 := h.row i j hi
  have r2 := h.row m j hm
  have hs := h.sq
  have f1 : F (upd J i j) = s * R i j := by rw [r1, ← Int.mul_assoc, hs, Int.one_mul]
  have f2 : F (upd J m j) = s * R m j := by rw [r2, ← Int.mul_assoc, hs, Int.one_mul]
  rw [f1, f2] at he
  have e3 : b * (s * F (upd (upd J i j) m l)) = s * (b * F (upd (upd J i j) m l)) := by rw [Int.mul_left_comm]
  rw [e3, he]
  have hs2 : s * (0 + R i l * -(s * R m j) + R m l * (s * R i j)) = (s * s) * (R m l * R i j - R m j * R i l) := by grind
  rw [hs2, hs, Int.one_mul]
def pivR (R : Nat → Nat → Int) (b : Int) (i j : Nat) (m l : Nat) : Int := if m = i then R i l else (R m l * R i j - R m j * R i l) / b
theorem Plu.exact_ {n : Nat} {F : (Nat → Nat) → Int} {J : Nat → Nat} {R : Nat → Nat → Int} {b s : Int} (h : Plu n F J R b s) {i j m : Nat} (hi : i < n) (hm : m < n) (hmi : m ≠ i) (l : Nat) :
    b ∣ R m l * R i j - R m j * R i l := ⟨_, h.cross hi hm hmi l⟩
theorem Plu.pivot {n : Nat} {F : (Nat → Nat) → Int} {J : Nat → Nat} {R : Nat → Nat → Int} {b s : Int} (h : Plu n F J R b s) (hb : b ≠ 0) {i j : Nat} (hi : i < n) : Plu n F (upd J i j) (pivR R b i j) (R i j) s := by
  have hrow : ∀ m l, m < n → pivR R b i j m l = s * F (upd (upd J i j) m l) := by
    intro m l hm
    unfold pivR
    by_cases e : m = i
    · subst e; rw [if_pos rfl, upd_upd]; exact h.row m l hm
    · rw [if_neg e, h.cross hi hm e l, Int.mul_ediv_cancel_left _ hb]
  refine ⟨h.alt, h.sign, h.row i j hi, hrow, fun x k l hk => ?_⟩
  refine Int.eq_of_mul_eq_mul_left hb ?_
  have g := h.exp x k
  rw [sm_split _ i n hi, Int.mul_add, ← sm_mul]
  have e1 : (sm n fun m => b * if m = i then 0 else pivR R b i j m l * F (upd x k (upd J i j m))) = sm n fun m => R i j * (if m = i then 0 else R m l * F (upd x k (J m))) - R i l * (if m = i then 0 else R m j * F (upd x k (J m))) := by
    refine sm_congr _ (fun m hm => ?_)
    by_cases e : m = i
    · simp [e]
    · rw [if_neg e, if_neg e, if_neg e, upd_other _ _ e]
      have hc := h.cross (j := j) hi hm e l
      have hp : b * pivR R b i j m l = R m l * R i j - R m j * R i l := by rw [hrow m l hm, hc]
      rw [← Int.mul_assoc, hp]
      grind
  rw [e1, sm_sub, sm_mul, sm_mul]
  have g1 := g l hk
  have g2 := g j hk
  rw [sm_split _ i n hi] at g1 g2
  have e2 : pivR R b i j i l = R i l := by unfold pivR; rw [if_pos rfl]
  rw [e2, upd_same]
  have e3 : b * (R i j * F (upd x k l)) = R i j * (b * F (upd x k l)) := Int.mul_left_comm _ _ _
  have e4 : b * (R i l * F (upd x k j)) = R i l * (b * F (upd x k j)) := Int.mul_left_comm _ _ _
  rw [e3, e4, g1, g2]
  grind
theorem Plu.neg {n : Nat} {F : (Nat → Nat) → Int} {J : Nat → Nat} {R : Nat → Nat → Int} {b s : Int} (h : Plu n F J R b s) : Plu n F J (fun m l => - R m l) (-b) (-s) := by
  refine ⟨h.alt, by rcases h.sign with h | h <;> simp [h], by rw [h.val, Int.neg_mul], fun m l hm => by rw [h.row m l hm, Int.neg_mul], fun x k l hk => ?_⟩
  rw [Int.neg_mul, h.exp x k l hk, ← sm_neg]
  exact sm_congr _ (fun m _ => by rw [Int.neg_mul])
/-- Columns with one put in at a slot. -/
def ins (i a : Nat) (x : Nat → Nat) : Nat → Nat := fun s => if s < i then x s else if s = i then a else x (s - 1)
theorem ins_at (i a : Nat) (x : Nat → Nat) : ins i a x i = a := by simp [ins]
theorem ins_skip (i a : Nat) (x : Nat → Nat) (m : Nat) : ins i a x (skip i m) = x m := by
  unfold ins skip
  by_cases h : m < i
  · rw [if_pos h, if_pos h]
  · rw [if_neg h, if_neg (by omega), if_neg (by omega)]; rfl
theorem skip_ne (i m : Nat) : skip i m ≠ i := by unfold skip; split <;> omega
theorem skip_inj {i m k : Nat} (h : skip i m = skip i k) : m = k := by rw [← unskip_skip i m, h, unskip_skip]
theorem ins_upd (i a : Nat) (x : Nat → Nat) (k l : Nat) : ins i a (upd x k l) = upd (ins i a x) (skip i k) l := by
  funext s
  by_cases h : s = i
  · subst h; rw [ins_at, upd_other _ _ (Ne.symm (skip_ne _ _)), ins_at]
  · obtain ⟨m, rfl⟩ : ∃ m, s = skip i m := ⟨unskip i s, (skip_unskip (by assumption)).symm⟩
    rw [ins_skip]
    by_cases e : m = k
    · subst e; rw [upd_same, upd_same]
    · rw [upd_other _ _ e, upd_other _ _ (fun e2 => e (skip_inj e2)), ins_skip]
theorem ins_swp (i a : Nat) (x : Nat → Nat) (p q : Nat) : ins i a (swp x p q) = swp (ins i a x) (skip i p) (skip i q) := by
  unfold swp
  rw [ins_upd, ins_upd, ins_skip, ins_skip]
theorem Alt.del {n : Nat} {F : (Nat → Nat) → Int} (h : Alt (n + 1) F) (i a : Nat) (hi : i ≤ n) : Alt n fun x => F (ins i a x) := by
  refine ⟨fun x y e => ?_, fun x p q hp hq hpq e => ?_, fun x p q hp hq hpq => ?_⟩
  · refine h.only _ _ (fun s hs => ?_)
    unfold ins
    by_cases h1 : s < i
    · rw [if_pos h1, if_pos h1]; exact e s (by omega)
    · rw [if_neg h1, if_neg h1]
      by_cases h2 : s = i
      · rw [if_pos h2, if_pos h2]
      · rw [if_neg h2, if_neg h2]; exact e (s - 1) (by omega)
  · exact h.same _ (skip i p) (skip i q) (skip_lt hp) (skip_lt hq) (fun e2 => hpq (skip_inj e2)) (by rw [ins_skip, ins_skip, e])
  · rw [ins_swp]; exact h.swap _ _ _ (skip_lt hp) (skip_lt hq) (fun e2 => hpq (skip_inj e2))
/-- A row struck, with its column of the basis. -/
theorem Plu.del {n : Nat} {F : (Nat → Nat) → Int} {J : Nat → Nat} {R : Nat → Nat → Int} {b s : Int} (h : Plu (n + 1) F J R b s) {i : Nat} (hi : i ≤ n) :
    Plu n (fun x => F (ins i (J i) x)) (fun m => J (skip i m)) (fun m l => R (skip i m) l) b s := by
  have hJ : ins i (J i) (fun m => J (skip i m)) = J := by
    funext s
    by_cases e : s = i
    · subst e; rw [ins_at]
    · obtain ⟨m, rfl⟩ : ∃ m, s = skip i m := ⟨unskip i s, (skip_unskip (by assumption)).symm⟩
      rw [ins_skip]
  refine ⟨h.alt.del i (J i) hi, h.sign, by rw [hJ]; exact h.val, fun m l hm => ?_, fun x k l hk => ?_⟩
  · rw [ins_upd, hJ]; exact h.row _ l (skip_lt hm)
  · rw [ins_upd, h.exp _ (skip i k) l (skip_lt hk), sm_split _ i (n + 1) (by omega)]
    have e0 : F (upd (ins i (J i) x) (skip i k) (J i)) = 0 :=
      h.alt.same _ (skip i k) i (skip_lt hk) (by omega) (skip_ne _ _) (by rw [upd_same, upd_other _ _ (Ne.symm (skip_ne _ _)), ins_at])
    rw [e0, Int.mul_zero, Int.add_zero, ← sm_skip i (fun m => R m l * F (upd (ins i (J i) x) (skip i k) (J m))) n hi]
    exact sm_congr _ (fun m _ => by rw [ins_upd])
/-- The tableau at the beginning: a row for each, unit columns in the basis. -/
theorem plu_start (n : Nat) (col : Nat → Nat → Int) (J : Nat → Nat) (hJ : ∀ m r, m < n → r < n → col (J m) r = if r = m then 1 else 0) : Plu n (Fof n col) J (fun m l => col l m) 1 1 := by
  have hexp : ∀ (x : Nat → Nat) k l, k < n → Fof n col (upd x k l) = sm n fun m => col l m * Fof n col (upd x k (J m)) := by
    intro x k l hk
    have hu : ∀ l, (fun s => col (upd x k l s)) = upd (fun s => col (x s)) k (col l) := fun l => by
      funext s
      by_cases e : s = k
      · subst e; rw [upd_same, upd_same]
      · rw [upd_other _ _ e, upd_other _ _ e]
    unfold Fof
    rw [hu]
    have h1 := det_sum n k (fun s => col (x s)) hk (fun m => col l m) (fun m => col (J m)) n
    have h2 : det n (upd (fun s => col (x s)) k (col l)) = det n (upd (fun s => col (x s)) k fun r => sm n fun t => col l t * col (J t) r) := by
      refine det_congr n _ _ (fun s r hs hr => ?_)
      by_cases e : s = k
      · subst e
        rw [upd_same, upd_same]
        have h3 : (sm n fun t => col l t * col (J t) r) = sm n fun t => if t = r then col l t else 0 := by
          refine sm_congr _ (fun t ht => ?_)
          rw [hJ t r ht hr]
          by_cases e : t = r
          · subst e; simp
          · rw [if_neg e, if_neg (fun e2 => e e2.symm), Int.mul_zero]
        rw [h3, sm_one, if_pos hr]
      · rw [upd_other _ _ e, upd_other _ _ e]
    rw [h2, h1]
    exact sm_congr _ (fun m _ => by rw [hu])
  have hone : Fof n col J = 1 := by
    unfold Fof
    have : ∀ k, det k (fun s r => if r = s then (1 : Int) else 0) = 1 := by
      intro k
      induction k with
      | zero => rfl
      | succ k ih =>
        rw [det]
        have e : (sm (k + 1) fun i => sgn i * (if i = 0 then (1 : Int) else 0) * det k fun s r => if skip i r = s + 1 then (1 : Int) else 0) = sm (k + 1) fun i => if i = 0 then 1 else 0 := by
          refine sm_congr _ (fun i _ => ?_)
          by_cases h0 : i = 0
          · subst h0
            have : (fun s r => if skip 0 r = s + 1 then (1 : Int) else 0) = fun s r => if r = s then (1 : Int) else 0 := by
              funext s r; unfold skip; simp
            rw [this, ih]; simp [sgn]
          · simp [h0]
        rw [e, sm_one 0 (fun _ => 1)]
        simp
    rw [det_congr n _ _ (fun s r hs hr => hJ s r hs hr)]
    exact this n
  refine ⟨fof_alt n col, .inl rfl, by rw [hone]; rfl, fun m l hm => ?_, fun x k l hk => by rw [Int.one_mul]; exact hexp x k l hk⟩
  have h1 := hexp J m l hm
  rw [Int.one_mul, h1, sm_split _ m n hm]
  have e0 : (sm n fun t => if t = m then 0 else col l t * Fof n col (upd J m (J t))) = 0 := by
    refine sm_all0 n (fun t ht => ?_)
    by_cases e : t = m
    · rw [if_pos e]
    · rw [if_neg e, (fof_alt n col).same _ m t hm ht (Ne.symm e) (by rw [upd_same, upd_other _ _ e]), Int.mul_zero]
  rw [e0, upd_self, hone]
  omega
end Go.Proofs.Ytcngecibljgndaa
