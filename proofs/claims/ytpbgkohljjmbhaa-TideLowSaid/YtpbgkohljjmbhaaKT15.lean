/-
  The bounds of a span of angles are the least and the greatest ones of its angles. Plain arithmetic. No condition. (This text proves no statement by itself.)
-/
import Derived.Test.YtpbgkohljjmbhaaKT11
import Derived.Test.YtpbgkohljjmbhaaKT16a

namespace Go.Proofs.Ytpbgkohljjmbhaa.M
open Go
def spLo (x : Int) : Nat → Int
  | 0 => 131072
  | k + 1 => min (spLo x k) (cLo (x + k))
def spHi (x : Int) : Nat → Int
  | 0 => -131072
  | k + 1 => max (spHi x k) (cHi (x + k))
theorem sp_ge {x lo hi : Int} : ∀ {k : Nat}, (∀ j : Nat, j < k → lo ≤ cLo (x + j) ∧ cHi (x + j) ≤ hi) → lo ≤ 131072 → -131072 ≤ hi → lo ≤ spLo x k ∧ spHi x k ≤ hi
  | 0, _, h1, h2 => ⟨h1, h2⟩
  | k + 1, h, h1, h2 => by
    have ih := sp_ge (k := k) (fun j hj => h j (by omega)) h1 h2
    have := h k (by omega)
    simp only [spLo, spHi]
    omega
theorem sp_le {x : Int} {j : Nat} : ∀ {k : Nat}, j < k → spLo x k ≤ cLo (x + j) ∧ cHi (x + j) ≤ spHi x k
  | 0, h => by omega
  | k + 1, h => by
    simp only [spLo, spHi]
    by_cases e : j = k
    · subst e; omega
    · have := sp_le (x := x) (j := j) (k := k) (by omega)
      omega
theorem bnds (lo hi : Int) : -65536 ≤ bLo lo hi ∧ bLo lo hi ≤ 65536 ∧ -65536 ≤ bHi lo hi ∧ bHi lo hi ≤ 65536 := by
  have h1 := c_bds lo; have h2 := c_bds hi
  unfold bLo bHi
  cases meets lo hi 1800 <;> cases meets lo hi 0 <;> simp <;> omega
theorem sp_eq {x n : Int} (h0 : 0 ≤ n) {N : Nat} (hN : (N : Int) = min n 3600 + 1) : spLo x N = bLo x (x + n) ∧ spHi x N = bHi x (x + n) := by
  have hb := bnds x (x + n)
  have g := sp_ge (x := x) (lo := bLo x (x + n)) (hi := bHi x (x + n)) (k := N) (fun j hj => c_in (by omega) (by omega)) (by omega) (by omega)
  have s : ∀ a : Int, ck a = 1800 → cLo a = -65536 := fun a h => by rw [cLo_eq, h]; exact CH_0.2
  have t : ∀ a : Int, ck a = 0 → cHi a = 65536 := fun a h => by rw [cHi_eq, h]; exact CH_0.1
  -- an angle of the span, but for turns
  have at' : ∀ y : Int, x ≤ y → y ≤ x + n → spLo x N ≤ cLo y ∧ cHi y ≤ spHi x N := fun y h1 h2 => by
    have e : y % 3600 = (x + ((y - x) % 3600)) % 3600 := by omega
    by_cases h : y - x ≤ 3600
    · obtain ⟨j, hj⟩ := Int.eq_ofNat_of_zero_le (show 0 ≤ y - x by omega)
      have := sp_le (x := x) (j := j) (k := N) (by omega)
      rw [show x + (j : Int) = y by omega] at this
      exact this
    · obtain ⟨j, hj⟩ := Int.eq_ofNat_of_zero_le (show 0 ≤ (y - x) % 3600 by omega)
      have := sp_le (x := x) (j := j) (k := N) (by omega)
      have e2 : ck (x + (j : Int)) = ck y := by unfold ck; omega
      rw [cLo_eq, cHi_eq, e2] at this
      exact this
  have e1 := at' x (by omega) (by omega)
  have e2 := at' (x + n) (by omega) (by omega)
  constructor
  · cases hm : meets x (x + n) 1800
    · have : bLo x (x + n) = min (cLo x) (cLo (x + n)) := by simp [bLo, hm]
      omega
    · have e : bLo x (x + n) = -65536 := by simp [bLo, hm]
      simp only [meets, decide_eq_true_eq] at hm
      have := (at' ((x + n - 1800) / 3600 * 3600 + 1800) (by omega) (by omega)).1
      rw [s _ (by unfold ck; omega)] at this
      omega
  · cases hm : meets x (x + n) 0
    · have : bHi x (x + n) = max (cHi x) (cHi (x + n)) := by simp [bHi, hm]
      omega
    · have e : bHi x (x + n) = 65536 := by simp [bHi, hm]
      simp only [meets, decide_eq_true_eq] at hm
      have := (at' ((x + n) / 3600 * 3600) (by omega) (by omega)).2
      rw [t _ (by unfold ck; omega)] at this
      omega
theorem b_ord {lo hi : Int} (h : lo ≤ hi) : bLo lo hi ≤ bHi lo hi := by
  have h1 := c_in (Int.le_refl lo) h
  have h2 := (c_ord lo).1
  omega
theorem cosE_ok {lo hi : Int} (h : lo ≤ hi) (h1 : -1099511627776 ≤ lo) (h2 : hi ≤ 1099511627776) : cosE lo hi = 0 := by
  simp only [cosE, within, Bool.and_eq_true, decide_eq_true_eq]
  rw [if_pos (by omega)]
end Go.Proofs.Ytpbgkohljjmbhaa.M
/-
  The laws' models, the widths of levels, and the highest levels. Plain arithmetic. No condition. (This text proves no statement by itself.)
-/
namespace Go.Proofs.Ytpbgkohljjmbhaa.M
open Go
theorem lv_ord {am pe ph : Nat → Int} {x y : Int} (h : x ≤ y) : ∀ {k : Nat}, (∀ j, j < k → okP am pe ph j = true) → lvLo am pe ph x y k ≤ lvHi am pe ph x y k
  | 0, _ => Int.le_refl _
  | k + 1, ho => by
    have ih := lv_ord h (k := k) (fun j hj => ho j (by omega))
    obtain ⟨f1, f2, f3, -⟩ := okP_iff.1 (ho k (by omega))
    have e1 := (a_mono (p := pe k) (h := ph k) f3 h).1
    have e2 := a_le (p := pe k) (h := ph k) (x := y) f3
    have m := Int.mul_le_mul_of_nonneg_left (b_ord (show aLo (pe k) (ph k) x ≤ aHi (pe k) (ph k) y by omega)) f1
    simp only [lvLo, lvHi]
    omega
theorem g_ord {mn : Int} {n : Nat} {am pe ph : Nat → Int} {x y : Int} (hm : modE mn n am pe ph = 0) (h : x ≤ y) : gLo mn n am pe ph x y ≤ gHi mn n am pe ph x y := by
  have := lv_ord h (modE_iff.1 hm).2.2.2
  unfold gLo gHi
  omega
theorem lv_am {am pe ph : Nat → Int} {x y : Int} : ∀ {k : Nat}, (∀ j, j < k → okP am pe ph j = true) → -65536 * amS am k ≤ lvLo am pe ph x y k ∧ lvHi am pe ph x y k ≤ 65536 * amS am k
  | 0, _ => by simp [lvLo, lvHi, amS]
  | k + 1, ho => by
    have ih := lv_am (x := x) (y := y) (k := k) (fun j hj => ho j (by omega))
    obtain ⟨f1, f2, f3, -⟩ := okP_iff.1 (ho k (by omega))
    obtain ⟨b1, b2, b3, b4⟩ := bnds (aLo (pe k) (ph k) x) (aHi (pe k) (ph k) y)
    have m1 := Int.mul_le_mul_of_nonneg_left b1 f1
    have m2 := Int.mul_le_mul_of_nonneg_left b4 f1
    simp only [lvLo, lvHi, amS]
    omega
theorem g_am {mn : Int} {n : Nat} {am pe ph : Nat → Int} {x y : Int} (hm : modE mn n am pe ph = 0) : mn - amS am n ≤ gLo mn n am pe ph x y ∧ gHi mn n am pe ph x y ≤ mn + amS am n := by
  have := lv_am (x := x) (y := y) (modE_iff.1 hm).2.2.2
  unfold gLo gHi
  omega
/-- One step of angle. -/
theorem b_step {a b : Int} (h : a ≤ b) (h' : b ≤ a + 1) : bHi a b - bLo a b ≤ 120 := by
  have s : ∀ a : Int, ck a = 1800 → cLo a = -65536 := fun a h => by rw [cLo_eq, h]; exact CH_0.2
  have t : ∀ a : Int, ck a = 0 → cHi a = 65536 := fun a h => by rw [cHi_eq, h]; exact CH_0.1
  have ba := c_bds a; have bb := c_bds b
  have e1 : bHi a b = max (cHi a) (cHi b) := by
    cases hm : meets a b 0
    · simp [bHi, hm]
    · have e : bHi a b = 65536 := by simp [bHi, hm]
      simp only [meets, decide_eq_true_eq] at hm
      have : ck a = 0 ∨ ck b = 0 := by unfold ck; omega
      rcases this with g | g
      · have := t a g; omega
      · have := t b g; omega
  have e2 : bLo a b = min (cLo a) (cLo b) := by
    cases hm : meets a b 1800
    · simp [bLo, hm]
    · have e : bLo a b = -65536 := by simp [bLo, hm]
      simp only [meets, decide_eq_true_eq] at hm
      have : ck a = 1800 ∨ ck b = 1800 := by unfold ck; omega
      rcases this with g | g
      · have := s a g; omega
      · have := s b g; omega
  rw [e1, e2]
  obtain ⟨k, hk⟩ := Int.eq_ofNat_of_zero_le (show 0 ≤ a % 3600 by omega)
  obtain ⟨a1, a2⟩ := tab_c a k (by omega)
  obtain ⟨c1, c2⟩ := tab_c (a + 1) (k + 1) (by omega)
  have g := tab_s k (by omega)
  rcases (show b = a ∨ b = a + 1 by omega) with e | e
  · subst e; omega
  · subst e; omega
/-- What the law allows for the width of one time. -/
def wideS (am : Nat → Int) : Nat → Int
  | 0 => 2
  | k + 1 => wideS am k + (1 + Int.tdiv (am k * 120) 65536)
theorem wide_bd {am pe ph : Nat → Int} : ∀ {k : Nat}, (∀ j, j < k → okP am pe ph j = true) → 0 ≤ wideS am k ∧ wideS am k ≤ 2 + 3 * k
  | 0, _ => by simp [wideS]
  | k + 1, ho => by
    have ih := wide_bd (k := k) (fun j hj => ho j (by omega))
    obtain ⟨f1, f2, f3, -⟩ := okP_iff.1 (ho k (by omega))
    simp only [wideS]
    rw [Int.tdiv_eq_ediv_of_nonneg (by omega)]
    omega
theorem lv_wide {am pe ph : Nat → Int} {x : Int} : ∀ {k : Nat}, (∀ j, j < k → okP am pe ph j = true) → lvHi am pe ph x x k - lvLo am pe ph x x k ≤ 65536 * (wideS am k - 2)
  | 0, _ => by simp [lvLo, lvHi, wideS]
  | k + 1, ho => by
    have ih := lv_wide (x := x) (k := k) (fun j hj => ho j (by omega))
    obtain ⟨f1, f2, f3, -⟩ := okP_iff.1 (ho k (by omega))
    have e2 := a_le (p := pe k) (h := ph k) (x := x) f3
    have e3 : aHi (pe k) (ph k) x ≤ aLo (pe k) (ph k) x + 1 := by
      unfold aLo aHi
      have h1 := Int.lt_ediv_add_one_mul_self (3600 * x) (show 0 < pe k by omega)
      have h2 := Int.lt_ediv_add_one_mul_self (-(3600 * x)) (show 0 < pe k by omega)
      have h3 : 0 < ((3600 * x / pe k + 1) + (-(3600 * x) / pe k + 1)) * pe k := by rw [Int.add_mul]; omega
      have h4 : 0 < (3600 * x / pe k + 1) + (-(3600 * x) / pe k + 1) := by
        rcases Int.lt_or_le 0 ((3600 * x / pe k + 1) + (-(3600 * x) / pe k + 1)) with h | h
        · exact h
        · have := Int.mul_le_mul_of_nonneg_right h (show 0 ≤ pe k by omega)
          omega
      omega
    have m := Int.mul_le_mul_of_nonneg_left (b_step e2 e3) f1
    rw [Int.mul_sub] at m
    simp only [lvLo, lvHi, wideS]
    rw [Int.tdiv_eq_ediv_of_nonneg (by omega)]
    omega
theorem g_wide {mn : Int} {n : Nat} {am pe ph : Nat → Int} {x : Int} (hm : modE mn n am pe ph = 0) : gHi mn n am pe ph x x - gLo mn n am pe ph x x ≤ wideS am n := by
  have := lv_wide (x := x) (modE_iff.1 hm).2.2.2
  unfold gLo gHi
  omega
/-- Some piece has a time. -/
theorem pc_has {x y st i : Int} (h : x ≤ y) (hs : 1 ≤ st) (h1 : x ≤ i) (h2 : i ≤ y) : ∃ k, k < pcN x y st ∧ pcL x st k ≤ i ∧ i ≤ pcH x y st k := by
  obtain ⟨hN, hp⟩ := pc_spec h hs
  obtain ⟨q, hq⟩ := Int.eq_ofNat_of_zero_le (Int.ediv_nonneg (show 0 ≤ i - x by omega) (show 0 ≤ st by omega))
  have e1 := Int.ediv_mul_le (i - x) (show st ≠ 0 by omega)
  have e2 := Int.lt_ediv_add_one_mul_self (i - x) (show 0 < st by omega)
  rw [hq] at e1 e2
  rw [Int.mul_comm] at e1 e2
  by_cases hk : q < pcN x y st
  · refine ⟨q, hk, ?_, ?_⟩
    · unfold pcL; omega
    · unfold pcH; omega
  · obtain ⟨p1, p2, p3, p4, p5⟩ := hp (pcN x y st - 1) (by omega)
    have e3 := p1.2 (by omega)
    have e4 : pcL x st (pcN x y st - 1) ≤ i := by
      have : st * ((pcN x y st - 1 : Nat) : Int) ≤ st * (q : Int) := Int.mul_le_mul_of_nonneg_left (by omega) (by omega)
      unfold pcL; omega
    exact ⟨pcN x y st - 1, by omega, e4, by omega⟩
section
variable {mn : Int} {n : Nat} {am pe ph : Nat → Int} {x y st : Int} (hm : modE mn n am pe ph = 0) (h : x ≤ y) (hs : 1 ≤ st)
include hm h hs
theorem pk_ord : ∀ {k : Nat}, k ≤ pcN x y st → pkLo mn n am pe ph x y st k ≤ pkHi mn n am pe ph x y st (gHi mn n am pe ph x x) k
  | 0, _ => g_ord hm (Int.le_refl x)
  | k + 1, hk => by
    have ih := pk_ord (k := k) (by omega)
    obtain ⟨i1, i2, i3⟩ := pc_in h hs (show k < pcN x y st by omega)
    have g1 := (g_mono hm i2 (Int.le_refl _) (Int.le_refl _)).2
    have g2 := g_ord hm (Int.le_refl (pcH x y st k))
    simp only [pkLo, pkHi]
    omega
theorem pk_le : ∀ {k : Nat}, k ≤ pcN x y st → pkHi mn n am pe ph x y st (gHi mn n am pe ph x x) k ≤ gHi mn n am pe ph x y
  | 0, _ => (g_mono hm (Int.le_refl x) (Int.le_refl x) h).2
  | k + 1, hk => by
    have ih := pk_le (k := k) (by omega)
    obtain ⟨i1, i2, i3⟩ := pc_in h hs (show k < pcN x y st by omega)
    have g1 := (g_mono hm i1 i2 i3).2
    simp only [pkHi]
    omega
omit hm h hs in
theorem pk_at {j : Nat} : ∀ {k : Nat}, j < k → gHi mn n am pe ph (pcL x st j) (pcH x y st j) ≤ pkHi mn n am pe ph x y st (gHi mn n am pe ph x x) k
  | 0, hk => by omega
  | k + 1, hk => by
    simp only [pkHi]
    by_cases e : j = k
    · subst e; omega
    · have := pk_at (j := j) (k := k) (by omega)
      omega
omit hs in
theorem pk_lo : ∀ {k : Nat}, gLo mn n am pe ph x y ≤ pkLo mn n am pe ph x y st k
  | 0 => (g_mono hm (Int.le_refl x) (Int.le_refl x) h).1
  | k + 1 => by
    have := pk_lo (k := k)
    simp only [pkLo]
    omega
theorem pk_one {i : Int} (h1 : x ≤ i) (h2 : i ≤ y) : gLo mn n am pe ph i i ≤ pkHi mn n am pe ph x y st (gHi mn n am pe ph x x) (pcN x y st) := by
  obtain ⟨k, hk, k1, k2⟩ := pc_has h hs h1 h2
  have g1 := pk_at (mn := mn) (n := n) (am := am) (pe := pe) (ph := ph) (x := x) (y := y) (st := st) hk
  have g2 := (g_mono hm k1 (Int.le_refl i) k2).2
  have g3 := g_ord hm (Int.le_refl i)
  omega
end
end Go.Proofs.Ytpbgkohljjmbhaa.M
