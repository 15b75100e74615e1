/- big.Int: common, GCD (of numbers of at most two words), Int64. -/
import Derived.Test.YtefmioppamdceaaDoorMWM
namespace Go.Proofs.YtefmioppamdceaaDoor
open Go.RowKit Go.Shelf

set_option maxRecDepth 100000 in
set_option maxHeartbeats 2000000 in
theorem wcommon_calls (w : World) (ao bo : Option Addr) (c d A B m n : Nat) (hI : WNum w ao A c m) (hJ : WNum w bo B d n) (hA : A ≤ 2) (hB : B ≤ 2) :
    Calls Tryd.prog 117 #[.slice ao A c, .slice bo B d] w (WRes w (Nat.gcd m n)) := by
  have hm2 := small_lt hI.many hA
  have hn2 := small_lt hJ.many hB
  have hn0 : B = 0 ↔ n = 0 := by rw [← hJ.many]; exact W.many_eq_zero
  go_enter Tryd.func117, Tryd.ntmps117
  go_wp2_with fail
  go_loopw [0, 1] (fun av bv wr => av = .slice ao A c ∧ bv = .slice bo B d ∧ w = wr) (fun _ _ _ => 0)
  case atStart => exact ⟨rfl, rfl, rfl⟩
  case round =>
    obtain ⟨rfl, rfl, rfl⟩ := hrel
    rcases Nat.eq_zero_or_pos B with h0 | h0
    · have HN : Hid (n = 0) := Lib.hid (hn0.1 h0)
      subst h0
      clear hn0
      go_wp2_with fail
      go_ret
      exact ⟨ao, A, c, rfl, by rw [HN.out, Nat.gcd_zero_right]; exact hI, Ext.refl _⟩
    · have hB0 : decide ((B : Int) > 0) = true := by simp; omega
      have hB1 : (0 : Int) < (B : Int) := by omega
      clear hn0
      go_wp2_with fail
      refine (small_calls _ ao A c m hI).mono ?_
      rintro e w2 ⟨rfl, hx2⟩
      rw [show smallRes A m = .tuple #[.int .u64 m, .bool true] by unfold smallRes; rw [if_pos hA, decide_eq_true hA]]
      go_wp2_with fail
      refine (small_calls _ bo B d n (hJ.ext hx2)).mono ?_
      rintro e w3 ⟨rfl, hx3⟩
      rw [show smallRes B n = .tuple #[.int .u64 n, .bool true] by unfold smallRes; rw [if_pos hB, decide_eq_true hB]]
      have hx23 := hx2.trans hx3
      go_wp2_with fail
      go_loopw [5, 7] (fun xv yv wr => ∃ p q : Nat, xv = .int .u64 p ∧ yv = .int .u64 q ∧ Hid (Nat.gcd p q = Nat.gcd m n) ∧ p < 18446744073709551616 ∧ q < 18446744073709551616 ∧ Ext w wr) (fun _ yv _ => (intOf yv).toNat)
      case atStart => exact ⟨m, n, rfl, rfl, Lib.hid rfl, hm2, hn2, hx23⟩
      case round =>
        obtain ⟨p, q, rfl, rfl, HG, hp, hq, hx⟩ := hrel
        rcases Nat.eq_zero_or_pos q with hq0 | hq0
        · subst hq0
          have k1 := fun W => wof_calls W p hp
          go_wp2_with fail
          refine (k1 _).mono ?_
          rintro e w5 ⟨ro, rA, rc, rfl, hN, hx5⟩
          have hx6 := hx.trans hx5
          go_wp2_with fail
          go_ret
          exact ⟨ro, rA, rc, rfl, by rw [← HG.out, Nat.gcd_zero_right]; exact hN, hx6⟩
        · have hqz : ((q : Int) == 0) = false := by simp; omega
          have hqn : ¬ (q : Int) = 0 := by omega
          have hmod : p % q < q := Nat.mod_lt _ hq0
          have hw1 : IntKind.u64.wrap ((p : Int) % (q : Int)) = (p : Int) % (q : Int) := by rw [show (p : Int) % (q : Int) = ((p % q : Nat) : Int) by simp]; exact wrapN _ (by omega)
          have hw2 : (p : Int).tmod (q : Int) = (p : Int) % (q : Int) := Int.tmod_eq_emod_of_nonneg (by omega)
          go_wp2_with fail
          go_region
          go_wp2_with fail
          refine ⟨⟨q, p % q, rfl, by simp, Lib.hid (by rw [← HG.out, Nat.gcd_comm p q, Nat.gcd_rec q p, Nat.gcd_comm]), hq, by omega, (by repeat (first | exact Ext.refl _ | assumption | refine Ext.alloc ?_ _ | refine Ext.drewN ?_ _ | refine Ext.drew ?_))⟩, ?_⟩
          simp only [intOf]
          omega
set_option maxRecDepth 100000 in
set_option maxHeartbeats 2000000 in
theorem igcd_calls (w : World) (a b c : Nat) (x y : Int) (ha : IntSpot w a) (hx : BigAt w b x) (hy : BigAt w c y) (hX : x.natAbs < 18446744073709551616) (hY : y.natAbs < 18446744073709551616) :
    Calls Tryd.prog 99 #[.pointer (some ⟨a, 0, none⟩), .pointer none, .pointer none, .pointer (some ⟨b, 0, none⟩), .pointer (some ⟨c, 0, none⟩)] w (MutRes w a (Int.gcd x y)) := by
  obtain ⟨⟨-, -, -, -, hbl⟩, x0, xo, xA, xc, x1, hxN⟩ := id hx
  obtain ⟨⟨-, -, -, -, hcl⟩, y0, yo, yA, yc, y1, hyN⟩ := id hy
  have hxA : xA ≤ 2 := by rw [← hxN.many]; exact many2 hX
  have hyA : yA ≤ 2 := by rw [← hyN.many]; exact many2 hY
  have hkc := fun W h h' => wcommon_calls W xo yo xc yc xA yA x.natAbs y.natAbs h h' hxA hyA
  have hsc := fun W ro rA rc h hN => (iset_calls W a false ro rA rc (Nat.gcd x.natAbs y.natAbs) h hN)
  have hgi : (if false = true then -((Nat.gcd x.natAbs y.natAbs : Nat) : Int) else ((Nat.gcd x.natAbs y.natAbs : Nat) : Int)) = (Int.gcd x y : Int) := by rw [if_neg (by decide)]; rfl
  rw [hgi] at hsc
  clear hgi
  obtain ⟨s, hs⟩ : ∃ s, s = decide (x < 0) := ⟨_, rfl⟩
  obtain ⟨t, ht⟩ : ∃ t, t = decide (y < 0) := ⟨_, rfl⟩
  rw [← hs] at x0
  rw [← ht] at y0
  clear hs ht
  go_enter Tryd.func99, Tryd.ntmps99
  go_wp2_with fail
  go_region_with ((first
    | (go_at_call 92; (with_reducible refine Calls.mono (hsc _ _ _ _ ?_ ?_) ?_); (exact ha.ext (by repeat (with_reducible first | exact Ext.refl _ | assumption | refine Ext.alloc ?_ _ | refine Ext.drew ?_))); (exact hN); rintro e v2 ⟨rfl, hg, hB⟩)
    | (go_at_call 117; (with_reducible refine Calls.mono (hkc _ ?_ ?_) ?_); (exact hxN.ext (by repeat (with_reducible first | exact Ext.refl _ | assumption | refine Ext.alloc ?_ _ | refine Ext.drew ?_))); (exact hyN.ext (by repeat (with_reducible first | exact Ext.refl _ | assumption | refine Ext.alloc ?_ _ | refine Ext.drew ?_))); rintro e v1 ⟨ro, rA, rc, rfl, hN, hx11⟩; have hxv1 : Ext w v1 := Ext.trans (by repeat (with_reducible first | exact Ext.refl _ | assumption | refine Ext.alloc ?_ _ | refine Ext.drew ?_)) hx11)))
  all_goals
    have hg2 := grownBy_trans (hxv1.grown (some a)) hg
    go_wp2_with fail
    go_ret
    exact ⟨rfl, hg2, hB⟩
end Go.Proofs.YtefmioppamdceaaDoor

/- An integer function of columns that is linear in each of them and 0 where two are the same: by expansion along the first column; plain, no program in sight. -/
namespace Go.Proofs.YtefmioppamdceaaDoor

/-- The sum of the first terms. -/
def sm : Nat → (Nat → Int) → Int
  | 0, _ => 0
  | n + 1, f => sm n f + f n
theorem sm_congr {f g : Nat → Int} : ∀ n, (∀ i, i < n → f i = g i) → sm n f = sm n g
  | 0, _ => rfl
  | n + 1, h => by rw [sm, sm, sm_congr n (fun i hi => h i (by omega)), h n (by omega)]
theorem sm_add (f g : Nat → Int) : ∀ n, sm n (fun i => f i + g i) = sm n f + sm n g
  | 0 => rfl
  | n + 1 => by rw [sm, sm, sm, sm_add f g n]; omega
theorem sm_mul (c : Int) (f : Nat → Int) : ∀ n, sm n (fun i => c * f i) = c * sm n f
  | 0 => by simp [sm]
  | n + 1 => by rw [sm, sm, sm_mul c f n, Int.mul_add]
theorem sm_zero : ∀ n, sm n (fun _ => 0) = 0
  | 0 => rfl
  | n + 1 => by rw [sm, sm_zero n]; rfl
theorem sm_all0 {f : Nat → Int} (n : Nat) (h : ∀ i, i < n → f i = 0) : sm n f = 0 := by rw [sm_congr n h, sm_zero]
theorem sm_neg (f : Nat → Int) (n : Nat) : sm n (fun i => - f i) = - sm n f := by
  have := sm_mul (-1) f n
  simpa using this
theorem sm_sub (f g : Nat → Int) (n : Nat) : sm n (fun i => f i - g i) = sm n f - sm n g := by
  have h := sm_add f (fun i => - g i) n
  rw [sm_neg] at h
  simpa [Int.sub_eq_add_neg] using h
theorem sm_swap (f : Nat → Nat → Int) (m : Nat) : ∀ n, sm n (fun i => sm m fun j => f i j) = sm m (fun j => sm n fun i => f i j)
  | 0 => by simp only [sm]; rw [sm_zero]
  | n + 1 => by
    have h : (fun j => sm (n + 1) fun i => f i j) = fun j => sm n (fun i => f i j) + f n j := rfl
    rw [sm, sm_swap f m n, h, sm_add]
theorem sm_one (a : Nat) (c : Nat → Int) : ∀ n, sm n (fun i => if i = a then c i else 0) = if a < n then c a else 0
  | 0 => by simp [sm]
  | n + 1 => by
    rw [sm, sm_one a c n]
    by_cases h : n = a
    · subst h; simp
    · rw [if_neg h]
      by_cases h2 : a < n
      · rw [if_pos h2, if_pos (by omega)]; omega
      · rw [if_neg h2, if_neg (by omega)]; rfl
theorem sm_le {f g : Nat → Int} : ∀ n, (∀ i, i < n → f i ≤ g i) → sm n f ≤ sm n g
  | 0, _ => Int.le_refl _
  | n + 1, h => by
    have h1 := sm_le n (fun i hi => h i (by omega))
    have h2 := h n (by omega)
    rw [sm, sm]; omega
theorem sm_const (c : Int) : ∀ n, sm n (fun _ => c) = n * c
  | 0 => by simp [sm]
  | n + 1 => by rw [sm, sm_const c n, Int.natCast_add, Int.add_mul]; simp

/-- Row r of those that are left without row i. -/
def skip (i r : Nat) : Nat := if r < i then r else r + 1
def sgn (i : Nat) : Int := if i % 2 = 0 then 1 else -1
theorem sgn_succ (i : Nat) : sgn (i + 1) = - sgn i := by
  unfold sgn
  by_cases h : i % 2 = 0
  · rw [if_pos h, if_neg (by omega)]
  · rw [if_neg h, if_pos (by omega)]; rfl
/-- The determinant; M slot row. -/
def det : Nat → (Nat → Nat → Int) → Int
  | 0, _ => 1
  | n + 1, M => sm (n + 1) fun i => sgn i * M 0 i * det n fun s r => M (s + 1) (skip i r)
theorem skip_lt {i r n : Nat} (h : r < n) : skip i r < n + 1 := by unfold skip; split <;> omega
theorem det_congr : ∀ (n : Nat) (M N : Nat → Nat → Int), (∀ s r, s < n → r < n → M s r = N s r) → det n M = det n N
  | 0, _, _, _ => rfl
  | n + 1, M, N, h => by
    unfold det
    refine sm_congr _ (fun i hi => ?_)
    rw [h 0 i (by omega) hi, det_congr n _ (fun s r => N (s + 1) (skip i r)) (fun s r hs hr => h (s + 1) (skip i r) (by omega) (skip_lt hr))]
/-- One slot anew. -/
def upd {α : Type} (M : Nat → α) (k : Nat) (u : α) : Nat → α := fun s => if s = k then u else M s
theorem upd_same {α : Type} (M : Nat → α) (k : Nat) (u : α) : upd M k u k = u := by simp [upd]
theorem upd_other {α : Type} (M : Nat → α) {k s : Nat} (u : α) (h : s ≠ k) : upd M k u s = M s := by simp [upd, h]
theorem upd_self {α : Type} (M : Nat → α) (k : Nat) : upd M k (M k) = M := by
  funext s; unfold upd; split
  · rename_i h; rw [h]
  · rfl
theorem upd_upd {α : Type} (M : Nat → α) (k : Nat) (u v : α) : upd (upd M k u) k v = upd M k v := by
  funext s; unfold upd; split <;> rfl
theorem upd_comm {α : Type} (M : Nat → α) {k l : Nat} (u v : α) (h : k ≠ l) : upd (upd M k u) l v = upd (upd M l v) k u := by
  funext s; unfold upd
  by_cases h1 : s = l
  · subst h1; rw [if_pos rfl, if_neg (Ne.symm h), if_pos rfl]
  · rw [if_neg h1]
    by_cases h2 : s = k
    · rw [if_pos h2, if_pos h2]
    · rw [if_neg h2, if_neg h2, if_neg h1]
theorem det_linear (a b : Int) : ∀ (n k : Nat) (M : Nat → Nat → Int) (u v : Nat → Int), k < n → det n (upd M k fun r => a * u r + b * v r) = a * det n (upd M k u) + b * det n (upd M k v)
  | 0, k, _, _, _, h => absurd h (by omega)
  | n + 1, 0, M, u, v, _ => by
    unfold det
    rw [← sm_mul, ← sm_mul, ← sm_add]
    refine sm_congr _ (fun i _ => ?_)
    have e : ∀ w : Nat → Int, (fun s r => upd M 0 w (s + 1) (skip i r)) = fun s r => M (s + 1) (skip i r) := fun w => by funext s r; rw [upd_other _ _ (by omega)]
    rw [e, e, e, upd_same, upd_same, upd_same]
    grind
  | n + 1, k + 1, M, u, v, h => by
    unfold det
    rw [← sm_mul, ← sm_mul, ← sm_add]
    refine sm_congr _ (fun i _ => ?_)
    have e : ∀ w : Nat → Int, (fun s r => upd M (k + 1) w (s + 1) (skip i r)) = upd (fun s r => M (s + 1) (skip i r)) k (fun r => w (skip i r)) := fun w => by
      funext s r
      by_cases hs : s = k
      · subst hs; rw [upd_same, upd_same]
      · rw [upd_other _ _ hs, upd_other _ _ (by omega)]
    rw [e, e, e, upd_other _ _ (by omega), upd_other _ _ (by omega), upd_other _ _ (by omega), det_linear a b n k _ _ _ (by omega)]
    grind
/-- A sum over all rows but one. -/
theorem sm_skip (i : Nat) (h : Nat → Int) : ∀ n, i ≤ n → sm n (fun j => h (skip i j)) = sm (n + 1) (fun r => if r = i then 0 else h r)
  | 0, hi => by
    obtain rfl : i = 0 := by omega
    simp [sm]
  | n + 1, hi => by
    rw [sm, sm]
    by_cases h1 : i ≤ n
    · rw [sm_skip i h n h1]
      have : skip i n = n + 1 := by unfold skip; rw [if_neg (by omega)]
      rw [this, if_neg (by omega)]
    · obtain rfl : i = n + 1 := by omega
      rw [if_pos rfl, Int.add_zero]
      have e : sm n (fun j => h (skip (n + 1) j)) + h (skip (n + 1) n) = sm (n + 1) (fun j => h (skip (n + 1) j)) := rfl
      rw [e]
      refine sm_congr _ (fun j hj => ?_)
      rw [if_neg (by omega)]
      unfold skip
      rw [if_pos hj]
def unskip (i r : Nat) : Nat := if r < i then r else r - 1
theorem unskip_skip (i j : Nat) : unskip i (skip i j) = j := by
  unfold unskip skip
  by_cases h : j < i
  · rw [if_pos h, if_pos h]
  · rw [if_neg h, if_neg (by omega)]; omega
theorem skip_skip {i k : Nat} (h : i ≤ k) (r : Nat) : skip i (skip k r) = skip (k + 1) (skip i r) := by unfold skip; repeat split <;> try omega
/-- The first two columns the same. -/
theorem det_same01 (n : Nat) (M : Nat → Nat → Int) (h : M 0 = M 1) : det (n + 2) M = 0 := by
  have e : det (n + 2) M = sm (n + 2) fun i => sm (n + 2) fun r => if r = i then 0 else sgn i * M 0 i * (sgn (unskip i r) * M 0 r * det n fun s t => M (s + 2) (skip i (skip (unskip i r) t))) := by
    rw [det]
    refine sm_congr _ (fun i hi => ?_)
    rw [det, ← sm_mul, ← sm_skip i (fun r => sgn i * M 0 i * (sgn (unskip i r) * M 0 r * det n fun s t => M (s + 2) (skip i (skip (unskip i r) t)))) (n + 1) (by omega)]
    refine sm_congr _ (fun j _ => ?_)
    rw [unskip_skip, h]
  obtain ⟨g, hg⟩ : ∃ g : Nat → Nat → Int, g = fun i r => if r = i then 0 else sgn i * M 0 i * (sgn (unskip i r) * M 0 r * det n fun s t => M (s + 2) (skip i (skip (unskip i r) t))) := ⟨_, rfl⟩
  have hanti : ∀ i r, i < r → g i r = - g r i := by
    intro i r hir
    rw [hg]
    simp only []
    rw [if_neg (by omega), if_neg (by omega)]
    have e1 : unskip i r = r - 1 := by unfold unskip; rw [if_neg (by omega)]
    have e2 : unskip r i = i := by unfold unskip; rw [if_pos hir]
    obtain ⟨k, rfl⟩ : ∃ k, r = k + 1 := ⟨r - 1, by omega⟩
    rw [e1, e2, Nat.add_sub_cancel, sgn_succ]
    have e3 : (fun s t => M (s + 2) (skip i (skip k t))) = fun s t => M (s + 2) (skip (k + 1) (skip i t)) := by
      funext s t; rw [skip_skip (by omega)]
    rw [e3]
    grind
  have hsym : ∀ i r, g i r = - g r i := by
    intro i r
    rcases Nat.lt_trichotomy i r with h1 | h1 | h1
    · exact hanti i r h1
    · subst h1; rw [hg]; simp
    · have := hanti r i h1; omega
  have e2 : det (n + 2) M = sm (n + 2) fun i => sm (n + 2) fun r => g i r := by rw [e, hg]
  have e3 : (sm (n + 2) fun i => sm (n + 2) fun r => g i r) = - (sm (n + 2) fun i => sm (n + 2) fun r => g i r) := by
    conv => lhs; rw [sm_swap]
    rw [← sm_neg]
    refine sm_congr _ (fun r _ => ?_)
    rw [← sm_neg]
    exact sm_congr _ (fun i _ => hsym i r)
  rw [e2]; omega
theorem det_next : ∀ (n k : Nat) (M : Nat → Nat → Int), k + 1 < n → M k = M (k + 1) → det n M = 0
  | 0, _, _, h, _ => absurd h (by omega)
  | 1, _, _, h, _ => absurd h (by omega)
  | n + 2, 0, M, _, e => det_same01 n M e
  | n + 2, k + 1, M, h, e => by
    rw [det]
    rw [show (fun i => sgn i * M 0 i * det (n + 1) fun s r => M (s + 1) (skip i r)) = fun _ => 0 from by
      funext i
      rw [det_next (n + 1) k (fun s r => M (s + 1) (skip i r)) (by omega) (by funext r; exact congrFun e (skip i r)), Int.mul_zero]]
    exact sm_zero _
/-- Two slots exchanged. -/
def swp {α : Type} (M : Nat → α) (a b : Nat) : Nat → α := upd (upd M a (M b)) b (M a)
theorem det_add (n k : Nat) (M : Nat → Nat → Int) (u v : Nat → Int) (h : k < n) : det n (upd M k fun r => u r + v r) = det n (upd M k u) + det n (upd M k v) := by
  have := det_linear 1 1 n k M u v h
  simpa using this
theorem anti_of_same {n a b : Nat} (ha : a < n) (hb : b < n) (hab : a ≠ b) (hs : ∀ M : Nat → Nat → Int, M a = M b → det n M = 0) (M : Nat → Nat → Int) : det n (swp M a b) = - det n M := by
  have h0 := hs (upd (upd M a fun r => M a r + M b r) b fun r => M a r + M b r) (by rw [upd_other _ _ hab, upd_same, upd_same])
  rw [det_add _ _ _ _ _ hb, upd_comm _ _ _ hab, upd_comm _ _ _ hab, det_add _ _ _ _ _ ha, det_add _ _ _ _ _ ha] at h0
  have h1 := hs (upd (upd M b (M a)) a (M a)) (by rw [upd_same, upd_other _ _ (Ne.symm hab), upd_same])
  have h2 := hs (upd (upd M b (M b)) a (M b)) (by rw [upd_same, upd_other _ _ (Ne.symm hab), upd_same])
  have e1 : upd (upd M b (M a)) a (M b) = swp M a b := by unfold swp; rw [upd_comm _ _ _ (Ne.symm hab)]
  have e2 : upd (upd M b (M b)) a (M a) = M := by rw [upd_self, upd_self]
  rw [h1, h2, e1, e2] at h0
  omega
theorem det_same_lt : ∀ (c n a : Nat) (M : Nat → Nat → Int), a + c + 1 < n → M a = M (a + c + 1) → det n M = 0
  | 0, n, a, M, h, e => det_next n a M h e
  | c + 1, n, a, M, h, e => by
    have h1 := anti_of_same (n := n) (a := a + c + 1) (b := a + (c + 1) + 1) (by omega) h (by omega) (fun N hN => det_next n (a + c + 1) N h hN) M
    have h2 := det_same_lt c n a (swp M (a + c + 1) (a + (c + 1) + 1)) (by omega) (by
      unfold swp
      rw [upd_other _ _ (by omega), upd_other _ _ (by omega), upd_other _ _ (by omega), upd_same]
      exact e)
    omega
theorem det_same {n a b : Nat} (ha : a < n) (hb : b < n) (hab : a ≠ b) (M : Nat → Nat → Int) (e : M a = M b) : det n M = 0 := by
  rcases Nat.lt_or_gt_of_ne hab with h | h
  · obtain ⟨c, rfl⟩ : ∃ c, b = a + c + 1 := ⟨b - a - 1, by omega⟩
    exact det_same_lt c n a M hb e
  · obtain ⟨c, rfl⟩ : ∃ c, a = b + c + 1 := ⟨a - b - 1, by omega⟩
    exact det_same_lt c n b M ha e.symm
theorem det_swp {n a b : Nat} (ha : a < n) (hb : b < n) (hab : a ≠ b) (M : Nat → Nat → Int) : det n (swp M a b) = - det n M :=
  anti_of_same ha hb hab (fun N h => det_same ha hb hab N h) M
/-- One slot a sum of many. -/
theorem det_sum (n k : Nat) (M : Nat → Nat → Int) (hk : k < n) (c : Nat → Int) (u : Nat → Nat → Int) : ∀ m, det n (upd M k fun r => sm m fun t => c t * u t r) = sm m fun t => c t * det n (upd M k (u t))
  | 0 => by
    have := det_linear 0 0 n k M (fun _ => 0) (fun _ => 0) hk
    simp only [Int.zero_mul, Int.add_zero] at this
    simpa [sm] using this
  | m + 1 => by
    have h := det_linear 1 (c m) n k M (fun r => sm m fun t => c t * u t r) (u m) hk
    have e : (fun r => sm (m + 1) fun t => c t * u t r) = fun r => 1 * (sm m fun t => c t * u t r) + c m * u m r := by
      funext r; rw [sm]; omega
    rw [e, h, det_sum n k M hk c u m, sm]; omega
def fct : Nat → Int
  | 0 => 1
  | n + 1 => (n + 1) * fct n
theorem fct_nonneg : ∀ n, 0 ≤ fct n
  | 0 => by simp [fct]
  | n + 1 => by rw [fct]; exact Int.mul_nonneg (by omega) (fct_nonneg n)
end Go.Proofs.YtefmioppamdceaaDoor

/- Whole-number tableaus: each entry is the function of the basis with one column exchanged; a pivot divides exactly, and a row may be struck; plain. -/
namespace Go.Proofs.YtefmioppamdceaaDoor

/-- A function of columns (by their numbers) that is 0 where two are the same, and turns its sign where two are exchanged. -/
structure Alt (n : Nat) (F : (Nat → Nat) → Int) : Prop where
  only : ∀ x y, (∀ s, s < n → x s = y s) → F x = F y
  same : ∀ x a b, a < n → b < n → a ≠ b → x a = x b → F x = 0
  swap : ∀ x a b, a < n → b < n → a ≠ b → F (swp x a b) = - F x
def Fof (n : Nat) (col : Nat → Nat → Int) (x : Nat → Nat) : Int := det n fun s => col (x s)
theorem fof_alt (n : Nat) (col : Nat → Nat → Int) : Alt n (Fof n col) := by
  refine ⟨fun x y h => ?_, fun x a b ha hb hab e => ?_, fun x a b ha hb hab => ?_⟩
  · exact det_congr n _ _ (fun s r hs _ => by rw [h s hs])
  · exact det_same ha hb hab _ (by simp only [e])
  · have e : (fun s => col (swp x a b s)) = swp (fun s => col (x s)) a b := by
      funext s
      unfold swp upd
      by_cases h1 : s = b
      · rw [if_pos h1, if_pos h1]
      · rw [if_neg h1, if_neg h1]
        by_cases h2 : s = a
        · rw [if_pos h2, if_pos h2]
        · rw [if_neg h2, if_neg h2]
    unfold Fof
    rw [e]
    exact det_swp ha hb hab _
structure Plu (n : Nat) (F : (Nat → Nat) → Int) (J : Nat → Nat) (R : Nat → Nat → Int) (b s : Int) : Prop where
  alt : Alt n F
  sign : s = 1 ∨ s = -1
  val : b = s * F J
  row : ∀ m l, m < n → R m l = s * F (upd J m l)
  exp : ∀ x k l, k < n → b * F (upd x k l) = sm n fun m => R m l * F (upd x k (J m))
theorem sm_split (f : Nat → Int) (i n : Nat) (h : i < n) : sm n f = sm n (fun m => if m = i then 0 else f m) + f i := by
  have e1 := sm_one i f n
  rw [if_pos h] at e1
  rw [← e1, ← sm_add]
  refine sm_congr _ (fun m _ => ?_)
  by_cases e : m = i <;> simp [e]
theorem Plu.sq {n : Nat} {F : (Nat → Nat) → Int} {J : Nat → Nat} {R : Nat → Nat → Int} {b s : Int} (h : Plu n F J R b s) : s * s = 1 := by
  rcases h.sign with h | h <;> rw [h] <;> rfl
theorem Plu.unit {n : Nat} {F : (Nat → Nat) → Int} {J : Nat → Nat} {R : Nat → Nat → Int} {b s : Int} (h : Plu n F J R b s) {m t : Nat} (hm : m < n) (ht : t < n) : R m (J t) = if t = m then b else 0 := by
  rw [h.row m _ hm]
  by_cases e : t = m
  · subst e; rw [if_pos rfl, upd_self, h.val]
  · rw [if_neg e, h.alt.same _ m t hm ht (Ne.symm e) (by rw [upd_same, upd_other _ _ e]), Int.mul_zero]
/-- What a pivot makes of another row, times what it is divided by. -/
theorem Plu.cross {n : Nat} {F : (Nat → Nat) → Int} {J : Nat → Nat} {R : Nat → Nat → Int} {b s : Int} (h : Plu n F J R b s) {i j m : Nat} (hi : i < n) (hm : m < n) (hmi : m ≠ i) (l : Nat) :
    R m l * R i j - R m j * R i l = b * (s * F (upd (upd J i j) m l)) := by
  have he := h.exp (upd J i j) m l hm
  rw [sm_split _ m n hm, sm_split _ i n hi] at he
  have e0 : (sm n fun t => if t = i then 0 else if t = m then 0 else R t l * F (upd (upd J i j) m (J t))) = 0 := by
    refine sm_all0 n (fun t ht => ?_)
    by_cases h1 : t = i
    · rw [if_pos h1]
    · rw [if_neg h1]
      by_cases h2 : t = m
      · rw [if_pos h2]
      · rw [if_neg h2, h.alt.same _ m t hm ht (Ne.symm h2) (by rw [upd_same, upd_other _ _ h2, upd_other _ _ h1]), Int.mul_zero]
  have e1 : F (upd (upd J i j) m (J m)) = F (upd J i j) := by
    rw [upd_comm _ _ _ (Ne.symm hmi), upd_self]
  have e2 : F (upd (upd J i j) m (J i)) = - F (upd J m j) := by
    rw [← h.alt.swap (upd J m j) i m hi hm (Ne.symm hmi)]
    congr 1
    unfold swp
    rw [upd_same, upd_other _ _ (Ne.symm hmi)]
    funext t
    unfold upd
    by_cases h1 : t = m
    · rw [if_pos h1, if_pos h1]
    · rw [if_neg h1, if_neg h1]
      by_cases h2 : t = i
      · rw [if_pos h2, if_pos h2]
      · rw [if_neg h2, if_neg h2, if_neg h1]
  rw [e0, e1, if_neg (Ne.symm hmi), e2] at he
  have r1 := h.row i j hi
  have r2 := h.row m j hm
  have hs := h.sq
  have f1 : F (upd J i j) = s * R i j := by rw [r1, ← Int.mul_assoc, hs, Int.one_mul]
  have f2 : F (upd J m j) = s * R m j := by rw [r2, ← Int.mul_assoc, hs, Int.one_mul]
  rw [f1, f2] at he
  have e3 : b * (s * F (upd (upd J i j) m l)) = s * (b * F (upd (upd J i j) m l)) := by rw [Int.mul_left_comm]
  rw [e3, he]
  have hs2 : s * (0 + R i l * -(s * R m j) + R m l * (s * R i j)) = (s * s) * (R m l * R i j - R m j * R i l) := by grind
  rw [hs2, hs, Int.one_mul]
def pivR (R : Nat → Nat → Int) (b : Int) (i j : Nat) (m l : Nat) : Int := if m = i then R i l else (R m l * R i j - R m j * R i l) / b
theorem Plu.exact_ {n : Nat} {F : (Nat → Nat) → Int} {J : Nat → Nat} {R : Nat → Nat → Int} {b s : Int} (h : Plu n F J R b s) {i j m : Nat} (hi : i < n) (hm : m < n) (hmi : m ≠ i) (l : Nat) :
    b ∣ R m l * R i j - R m j * R i l := ⟨_, h.cross hi hm hmi l⟩
theorem Plu.pivot {n : Nat} {F : (Nat → Nat) → Int} {J : Nat → Nat} {R : Nat → Nat → Int} {b s : Int} (h : Plu n F J R b s) (hb : b ≠ 0) {i j : Nat} (hi : i < n) : Plu n F (upd J i j) (pivR R b i j) (R i j) s := by
  have hrow : ∀ m l, m < n → pivR R b i j m l = s * F (upd (upd J i j) m l) := by
    intro m l hm
    unfold pivR
    by_cases e : m = i
    · subst e; rw [if_pos rfl, upd_upd]; exact h.row m l hm
    · rw [if_neg e, h.cross hi hm e l, Int.mul_ediv_cancel_left _ hb]
  refine ⟨h.alt, h.sign, h.row i j hi, hrow, fun x k l hk => ?_⟩
  refine Int.eq_of_mul_eq_mul_left hb ?_
  have g := h.exp x k
  rw [sm_split _ i n hi, Int.mul_add, ← sm_mul]
  have e1 : (sm n fun m => b * if m = i then 0 else pivR R b i j m l * F (upd x k (upd J i j m))) = sm n fun m => R i j * (if m = i then 0 else R m l * F (upd x k (J m))) - R i l * (if m = i then 0 else R m j * F (upd x k (J m))) := by
    refine sm_congr _ (fun m hm => ?_)
    by_cases e : m = i
    · simp [e]
    · rw [if_neg e, if_neg e, if_neg e, upd_other _ _ e]
      have hc := h.cross (j := j) hi hm e l
      have hp : b * pivR R b i j m l = R m l * R i j - R m j * R i l := by rw [hrow m l hm, hc]
      rw [← Int.mul_assoc, hp]
      grind
  rw [e1, sm_sub, sm_mul, sm_mul]
  have g1 := g l hk
  have g2 := g j hk
  rw [sm_split _ i n hi] at g1 g2
  have e2 : pivR R b i j i l = R i l := by unfold pivR; rw [if_pos rfl]
  rw [e2, upd_same]
  have e3 : b * (R i j * F (upd x k l)) = R i j * (b * F (upd x k l)) := Int.mul_left_comm _ _ _
  have e4 : b * (R i l * F (upd x k j)) = R i l * (b * F (upd x k j)) := Int.mul_left_comm _ _ _
  rw [e3, e4, g1, g2]
  grind
/-- The tableau at the beginning: a row for each, unit columns in the basis. -/
theorem plu_start (n : Nat) (col : Nat → Nat → Int) (J : Nat → Nat) (hJ : ∀ m r, m < n → r < n → col (J m) r = if r = m then 1 else 0) : Plu n (Fof n col) J (fun m l => col l m) 1 1 := by
  have hexp : ∀ (x : Nat → Nat) k l, k < n → Fof n col (upd x k l) = sm n fun m => col l m * Fof n col (upd x k (J m)) := by
    intro x k l hk
    have hu : ∀ l, (fun s => col (upd x k l s)) = upd (fun s => col (x s)) k (col l) := fun l => by
      funext s
      by_cases e : s = k
      · subst e; rw [upd_same, upd_same]
      · rw [upd_other _ _ e, upd_other _ _ e]
    unfold Fof
    rw [hu]
    have h1 := det_sum n k (fun s => col (x s)) hk (fun m => col l m) (fun m => col (J m)) n
    have h2 : det n (upd (fun s => col (x s)) k (col l)) = det n (upd (fun s => col (x s)) k fun r => sm n fun t => col l t * col (J t) r) := by
      refine det_congr n _ _ (fun s r hs hr => ?_)
      by_cases e : s = k
      · subst e
        rw [upd_same, upd_same]
        have h3 : (sm n fun t => col l t * col (J t) r) = sm n fun t => if t = r then col l t else 0 := by
          refine sm_congr _ (fun t ht => ?_)
          rw [hJ t r ht hr]
          by_cases e : t = r
          · subst e; simp
          · rw [if_neg e, if_neg (fun e2 => e e2.symm), Int.mul_zero]
        rw [h3, sm_one, if_pos hr]
      · rw [upd_other _ _ e, upd_other _ _ e]
    rw [h2, h1]
    exact sm_congr _ (fun m _ => by rw [hu])
  have hone : Fof n col J = 1 := by
    unfold Fof
    have : ∀ k, det k (fun s r => if r = s then (1 : Int) else 0) = 1 := by
      intro k
      induction k with
      | zero => rfl
      | succ k ih =>
        rw [det]
        have e : (sm (k + 1) fun i => sgn i * (if i = 0 then (1 : Int) else 0) * det k fun s r => if skip i r = s + 1 then (1 : Int) else 0) = sm (k + 1) fun i => if i = 0 then 1 else 0 := by
          refine sm_congr _ (fun i _ => ?_)
          by_cases h0 : i = 0
          · subst h0
            have : (fun s r => if skip 0 r = s + 1 then (1 : Int) else 0) = fun s r => if r = s then (1 : Int) else 0 := by
              funext s r; unfold skip; simp
            rw [this, ih]; simp [sgn]
          · simp [h0]
        rw [e, sm_one 0 (fun _ => 1)]
        simp
    rw [det_congr n _ _ (fun s r hs hr => hJ s r hs hr)]
    exact this n
  refine ⟨fof_alt n col, .inl rfl, by rw [hone]; rfl, fun m l hm => ?_, fun x k l hk => by rw [Int.one_mul]; exact hexp x k l hk⟩
  have h1 := hexp J m l hm
  rw [Int.one_mul, h1, sm_split _ m n hm]
  have e0 : (sm n fun t => if t = m then 0 else col l t * Fof n col (upd J m (J t))) = 0 := by
    refine sm_all0 n (fun t ht => ?_)
    by_cases e : t = m
    · rw [if_pos e]
    · rw [if_neg e, (fof_alt n col).same _ m t hm ht (Ne.symm e) (by rw [upd_same, upd_other _ _ e]), Int.mul_zero]
  rw [e0, upd_self, hone]
  omega
end Go.Proofs.YtefmioppamdceaaDoor
