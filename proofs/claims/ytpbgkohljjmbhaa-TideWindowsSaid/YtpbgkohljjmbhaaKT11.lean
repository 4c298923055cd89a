/-
  Bounds of cosines and of levels grow with their spans. Plain arithmetic. No condition. (This text proves no statement by itself.)
-/
import Derived.Test.YtpbgkohljjmbhaaKT5
import Derived.Test.YtpbgkohljjmbhaaKC13

namespace Go.Proofs.Ytpbgkohljjmbhaa.M
open Go
def CH (k : Int) : Int := if 900 < k then -qlo (1800 - k) else qhi k
def CL (k : Int) : Int := if 900 < k then -qhi (1800 - k) else qlo k
set_option maxRecDepth 100000 in
theorem CH_step : ∀ k : Nat, k < 1800 → CH (k + 1) ≤ CH k ∧ CL (k + 1) ≤ CL k := by decide +kernel
theorem CH_anti {j : Nat} : ∀ {d : Nat}, j + d ≤ 1800 → CH ((j + d : Nat) : Int) ≤ CH (j : Int) ∧ CL ((j + d : Nat) : Int) ≤ CL (j : Int)
  | 0, _ => ⟨Int.le_refl _, Int.le_refl _⟩
  | d + 1, h => by
    have h1 := CH_anti (j := j) (d := d) (by omega)
    have h2 := CH_step (j + d) (by omega)
    have e : ((j + (d + 1) : Nat) : Int) = ((j + d : Nat) : Int) + 1 := by omega
    rw [e]
    omega
theorem CH_le {j k : Int} (h0 : 0 ≤ j) (h : j ≤ k) (h1 : k ≤ 1800) : CH k ≤ CH j ∧ CL k ≤ CL j := by
  obtain ⟨a, rfl⟩ := Int.eq_ofNat_of_zero_le h0
  obtain ⟨d, hd⟩ := Int.eq_ofNat_of_zero_le (show 0 ≤ k - (a : Int) by omega)
  have e : k = ((a + d : Nat) : Int) := by omega
  rw [e]
  exact CH_anti (by omega)
theorem cHi_eq (a : Int) : cHi a = CH (ck a) := rfl
theorem cLo_eq (a : Int) : cLo a = CL (ck a) := rfl
theorem CH_0 : CH 0 = 65536 ∧ CL 1800 = -65536 := by decide +kernel
theorem c_one (a : Int) : cHi a ≤ 65536 ∧ -65536 ≤ cLo a := by
  obtain ⟨h1, h2⟩ := ck_bd a
  have g1 := CH_le (j := 0) (by omega) h1 h2
  have g2 := CH_le h1 h2 (Int.le_refl 1800)
  rw [CH_0.1] at g1
  rw [CH_0.2] at g2
  rw [cHi_eq, cLo_eq]
  exact ⟨g1.1, g2.2⟩
theorem c_in {lo hi a : Int} (h1 : lo ≤ a) (h2 : a ≤ hi) : bLo lo hi ≤ cLo a ∧ cHi a ≤ bHi lo hi := by
  obtain ⟨o1, o2⟩ := c_one a
  obtain ⟨k1, k2⟩ := ck_bd a
  obtain ⟨l1, l2⟩ := ck_bd lo
  obtain ⟨m1, m2⟩ := ck_bd hi
  unfold bLo bHi
  constructor
  · cases hm : meets lo hi 1800
    · simp only [cond_false, cLo_eq]
      simp only [meets, decide_eq_false_iff_not] at hm
      have : ck a ≤ ck lo ∨ ck a ≤ ck hi := by unfold ck; omega
      rcases this with h | h
      · have := (CH_le k1 h l2).2; omega
      · have := (CH_le k1 h m2).2; omega
    · simpa using o2
  · cases hm : meets lo hi 0
    · simp only [cond_false, cHi_eq]
      simp only [meets, decide_eq_false_iff_not] at hm
      have : ck lo ≤ ck a ∨ ck hi ≤ ck a := by unfold ck; omega
      rcases this with h | h
      · have := (CH_le l1 h k2).1; omega
      · have := (CH_le m1 h k2).1; omega
    · simpa using o1
theorem b_mono {lo hi a b : Int} (h1 : lo ≤ a) (h2 : a ≤ b) (h3 : b ≤ hi) : bLo lo hi ≤ bLo a b ∧ bHi a b ≤ bHi lo hi := by
  have ca := c_in h1 (show a ≤ hi by omega)
  have cb := c_in (show lo ≤ b by omega) h3
  constructor
  · cases hm : meets a b 1800
    · have e : bLo a b = min (cLo a) (cLo b) := by simp [bLo, hm]
      omega
    · have hm' : meets lo hi 1800 = true := by
        simp only [meets, decide_eq_true_eq] at hm ⊢
        omega
      simp [bLo, hm, hm']
  · cases hm : meets a b 0
    · have e : bHi a b = max (cHi a) (cHi b) := by simp [bHi, hm]
      omega
    · have hm' : meets lo hi 0 = true := by
        simp only [meets, decide_eq_true_eq] at hm ⊢
        omega
      simp [bHi, hm, hm']
theorem a_mono {p h x x' : Int} (hp : 1 ≤ p) (hx : x ≤ x') : aLo p h x ≤ aLo p h x' ∧ aHi p h x ≤ aHi p h x' := by
  have h1 := Int.ediv_le_ediv (c := p) (by omega) (show 3600 * x ≤ 3600 * x' by omega)
  have h2 := Int.ediv_le_ediv (c := p) (by omega) (show -(3600 * x') ≤ -(3600 * x) by omega)
  unfold aLo aHi
  omega
theorem a_le {p h x : Int} (hp : 1 ≤ p) : aLo p h x ≤ aHi p h x := by
  have h1 := Int.ediv_mul_le (3600 * x) (show p ≠ 0 by omega)
  have h2 := Int.ediv_mul_le (-(3600 * x)) (show p ≠ 0 by omega)
  unfold aLo aHi
  have : (3600 * x / p) * p + (-(3600 * x) / p) * p ≤ 0 := by omega
  rw [← Int.add_mul] at this
  have h3 : 3600 * x / p + -(3600 * x) / p ≤ 0 := by
    rcases Int.lt_or_le 0 (3600 * x / p + -(3600 * x) / p) with h | h
    · have := Int.mul_le_mul (show 1 ≤ 3600 * x / p + -(3600 * x) / p by omega) hp (by omega) (by omega)
      omega
    · exact h
  omega
theorem lv_mono {am pe ph : Nat → Int} {x y a b : Int} (h1 : x ≤ a) (h2 : a ≤ b) (h3 : b ≤ y) : ∀ {k : Nat}, (∀ j, j < k → okP am pe ph j = true) → lvLo am pe ph x y k ≤ lvLo am pe ph a b k ∧ lvHi am pe ph a b k ≤ lvHi am pe ph x y k
  | 0, _ => ⟨Int.le_refl _, Int.le_refl _⟩
  | k + 1, h => by
    have ih := lv_mono h1 h2 h3 (k := k) (fun j hj => h j (by omega))
    obtain ⟨f1, f2, f3, -⟩ := okP_iff.1 (h k (by omega))
    have e1 := (a_mono (h := ph k) f3 h1).1
    have e2 := (a_mono (h := ph k) f3 h3).2
    have e3 := a_le (p := pe k) (h := ph k) (x := a) f3
    have e4 := (a_mono (p := pe k) (h := ph k) f3 h2).2
    obtain ⟨g1, g2⟩ := b_mono e1 (show aLo (pe k) (ph k) a ≤ aHi (pe k) (ph k) b by omega) e2
    have m1 := Int.mul_le_mul_of_nonneg_left g1 f1
    have m2 := Int.mul_le_mul_of_nonneg_left g2 f1
    simp only [lvLo, lvHi]
    omega
theorem g_mono {mn : Int} {n : Nat} {am pe ph : Nat → Int} {x y a b : Int} (hm : modE mn n am pe ph = 0) (h1 : x ≤ a) (h2 : a ≤ b) (h3 : b ≤ y) : gLo mn n am pe ph x y ≤ gLo mn n am pe ph a b ∧ gHi mn n am pe ph a b ≤ gHi mn n am pe ph x y := by
  have := lv_mono h1 h2 h3 (modE_iff.1 hm).2.2.2
  unfold gLo gHi
  omega
/-- Peak starts with the level at the start or with the first piece: the same. -/
theorem pkHi_eq {mn : Int} {n : Nat} {am pe ph : Nat → Int} {x y st : Int} (h : stE mn n am pe ph x y st = 0) : pkHi mn n am pe ph x y st (gHi mn n am pe ph x x) (pcN x y st) = pkHi mn n am pe ph x y st (gHi mn n am pe ph (pcL x st 0) (pcH x y st 0)) (pcN x y st) := by
  obtain ⟨ht, hst, -⟩ := stE_iff.1 h
  obtain ⟨hm, hxy, -⟩ := timE_iff.1 ht
  obtain ⟨hN, -⟩ := pc_spec hxy hst
  obtain ⟨i1, i2, i3⟩ := pc_in (x := x) (y := y) (k := 0) hxy hst hN
  have e0 : pcL x st 0 = x := by simp [pcL]
  have hg := (g_mono (a := x) (b := x) hm (show pcL x st 0 ≤ x by omega) (Int.le_refl _) (show x ≤ pcH x y st 0 by omega)).2
  have key : ∀ k, pkHi mn n am pe ph x y st (gHi mn n am pe ph x x) (k + 1) = pkHi mn n am pe ph x y st (gHi mn n am pe ph (pcL x st 0) (pcH x y st 0)) (k + 1) := fun k => by
    induction k with
    | zero => simp only [pkHi]; omega
    | succ k ih => simp only [pkHi] at ih ⊢; rw [ih]
  obtain ⟨k, hk⟩ : ∃ k, pcN x y st = k + 1 := ⟨pcN x y st - 1, by omega⟩
  rw [hk]; exact key k
end Go.Proofs.Ytpbgkohljjmbhaa.M
/-
  The law of windows. No condition. (This text proves no statement by itself.)
-/
namespace Go.Proofs.Ytpbgkohljjmbhaa.Sep
open Go
set_option linter.unusedVariables false
set_option linter.unusedSimpArgs false
def e5 : List SV → Option (List Prop × SV)
  | [.agg [.int .i64 mn, .sl 3 n g_1], .agg [.int .i64 x, .int .i64 y], .int .i64 st, .int .i64 lv] => some ([Row 3 n g_1, R64 n, R64 st, R64 x, R64 y], .bool true)
  | _ => none
def Rr5 (mn : Int) (n : Nat) (am pe ph : Nat → Int) (x y st lv : Int) : Prop := ((!decide ((20 : Int) < (↑n : Int))) = true → (!decide ((20 : Int) < (↑n : Int))) = true) ∧ ((!decide ((20 : Int) < (↑n : Int))) = true → (!decide ((20 : Int) < (↑n : Int))) = true) ∧ ((!decide ((20 : Int) < (↑n : Int)) && decide ((0 : Int) < st)) = true → (!decide ((20 : Int) < (↑n : Int)) && decide ((0 : Int) < st)) = true) ∧ ((!decide ((20 : Int) < (↑n : Int)) && decide ((0 : Int) < st)) = true → (!decide ((20 : Int) < (↑n : Int)) && decide ((0 : Int) < st)) = true) ∧ ((!decide ((20 : Int) < (↑n : Int)) && decide ((0 : Int) < st)) = true → (!decide ((20 : Int) < (↑n : Int)) && decide ((0 : Int) < st)) = true) ∧ ((!decide ((20 : Int) < (↑n : Int)) && decide ((0 : Int) < st)) = true → (!decide ((20 : Int) < (↑n : Int)) && decide ((0 : Int) < st)) = true) ∧ ((!decide ((20 : Int) < (↑n : Int))) = true → (!decide ((20 : Int) < (↑n : Int))) = true) ∧ ((!decide ((20 : Int) < (↑n : Int))) = true → decide ((0 : Int) < st) = true → (!decide ((20 : Int) < (↑n : Int)) && decide ((0 : Int) < st)) = true) ∧ ((!decide ((20 : Int) < (↑n : Int))) = true → (!decide ((20 : Int) < (↑n : Int))) = true) ∧ ((!decide ((20 : Int) < (↑n : Int)) && bif decide ((0 : Int) < st) then decide (x ≤ y) else false) = true → (!decide ((20 : Int) < (↑n : Int)) && bif decide ((0 : Int) < st) then decide (x ≤ y) else false) = true) ∧ ((!decide ((20 : Int) < (↑n : Int)) && bif decide ((0 : Int) < st) then decide (x ≤ y) else false) = true → (!decide ((20 : Int) < (↑n : Int)) && bif decide ((0 : Int) < st) then decide (x ≤ y) else false) = true) ∧ ((!decide ((20 : Int) < (↑n : Int))) = true → (!decide ((20 : Int) < (↑n : Int))) = true) ∧ ((!decide ((20 : Int) < (↑n : Int))) = true → (bif decide ((0 : Int) < st) then decide (x ≤ y) else false) = true → (!decide ((20 : Int) < (↑n : Int)) && bif decide ((0 : Int) < st) then decide (x ≤ y) else false) = true) ∧ ((!decide ((20 : Int) < (↑n : Int))) = true → (!decide ((20 : Int) < (↑n : Int))) = true) ∧ ((!decide ((20 : Int) < (↑n : Int)) && bif bif decide ((0 : Int) < st) then decide (x ≤ y) else false then decide ((0 : Int) ≤ x) else false) = true → (!decide ((20 : Int) < (↑n : Int)) && bif bif decide ((0 : Int) < st) then decide (x ≤ y) else false then decide ((0 : Int) ≤ x) else false) = true) ∧ ((!decide ((20 : Int) < (↑n : Int)) && bif bif decide ((0 : Int) < st) then decide (x ≤ y) else false then decide ((0 : Int) ≤ x) else false) = true → (!decide ((20 : Int) < (↑n : Int)) && bif bif decide ((0 : Int) < st) then decide (x ≤ y) else false then decide ((0 : Int) ≤ x) else false) = true) ∧ ((!decide ((20 : Int) < (↑n : Int))) = true → (!decide ((20 : Int) < (↑n : Int))) = true) ∧ ((!decide ((20 : Int) < (↑n : Int))) = true → (bif bif decide ((0 : Int) < st) then decide (x ≤ y) else false then decide ((0 : Int) ≤ x) else false) = true → (!decide ((20 : Int) < (↑n : Int)) && bif bif decide ((0 : Int) < st) then decide (x ≤ y) else false then decide ((0 : Int) ≤ x) else false) = true) ∧ ((!decide ((20 : Int) < (↑n : Int))) = true → (!decide ((20 : Int) < (↑n : Int))) = true) ∧ ((!decide ((20 : Int) < (↑n : Int)) && bif bif bif decide ((0 : Int) < st) then decide (x ≤ y) else false then decide ((0 : Int) ≤ x) else false then decide (y ≤ (1000000000 : Int)) else false) = true → (!decide ((20 : Int) < (↑n : Int)) && bif bif bif decide ((0 : Int) < st) then decide (x ≤ y) else false then decide ((0 : Int) ≤ x) else false then decide (y ≤ (1000000000 : Int)) else false) = true) ∧ ((!decide ((20 : Int) < (↑n : Int)) && bif bif bif decide ((0 : Int) < st) then decide (x ≤ y) else false then decide ((0 : Int) ≤ x) else false then decide (y ≤ (1000000000 : Int)) else false) = true → (!decide ((20 : Int) < (↑n : Int)) && bif bif bif decide ((0 : Int) < st) then decide (x ≤ y) else false then decide ((0 : Int) ≤ x) else false then decide (y ≤ (1000000000 : Int)) else false) = true) ∧ ((!decide ((20 : Int) < (↑n : Int)) && bif bif bif decide ((0 : Int) < st) then decide (x ≤ y) else false then decide ((0 : Int) ≤ x) else false then decide (y ≤ (1000000000 : Int)) else false) = true → (!decide ((20 : Int) < (↑n : Int)) && bif bif bif decide ((0 : Int) < st) then decide (x ≤ y) else false then decide ((0 : Int) ≤ x) else false then decide (y ≤ (1000000000 : Int)) else false) = true) ∧ ((!decide ((20 : Int) < (↑n : Int)) && bif bif bif decide ((0 : Int) < st) then decide (x ≤ y) else false then decide ((0 : Int) ≤ x) else false then decide (y ≤ (1000000000 : Int)) else false) = true → (!decide ((20 : Int) < (↑n : Int)) && bif bif bif decide ((0 : Int) < st) then decide (x ≤ y) else false then decide ((0 : Int) ≤ x) else false then decide (y ≤ (1000000000 : Int)) else false) = true) ∧ ((!decide ((20 : Int) < (↑n : Int)) && bif bif bif decide ((0 : Int) < st) then decide (x ≤ y) else false then decide ((0 : Int) ≤ x) else false then decide (y ≤ (1000000000 : Int)) else false) = true → R64 (y - x)) ∧ ((!decide ((20 : Int) < (↑n : Int)) && bif bif bif decide ((0 : Int) < st) then decide (x ≤ y) else false then decide ((0 : Int) ≤ x) else false then decide (y ≤ (1000000000 : Int)) else false) = true → (!decide ((20 : Int) < (↑n : Int)) && bif bif bif decide ((0 : Int) < st) then decide (x ≤ y) else false then decide ((0 : Int) ≤ x) else false then decide (y ≤ (1000000000 : Int)) else false) = true) ∧ ((!decide ((20 : Int) < (↑n : Int)) && bif bif bif decide ((0 : Int) < st) then decide (x ≤ y) else false then decide ((0 : Int) ≤ x) else false then decide (y ≤ (1000000000 : Int)) else false) = true → (!decide ((20 : Int) < (↑n : Int)) && bif bif bif decide ((0 : Int) < st) then decide (x ≤ y) else false then decide ((0 : Int) ≤ x) else false then decide (y ≤ (1000000000 : Int)) else false) = true) ∧ ((!decide ((20 : Int) < (↑n : Int)) && bif bif bif decide ((0 : Int) < st) then decide (x ≤ y) else false then decide ((0 : Int) ≤ x) else false then decide (y ≤ (1000000000 : Int)) else false) = true → st ≠ (0 : Int)) ∧ ((!decide ((20 : Int) < (↑n : Int)) && bif bif bif decide ((0 : Int) < st) then decide (x ≤ y) else false then decide ((0 : Int) ≤ x) else false then decide (y ≤ (1000000000 : Int)) else false) = true → R64 (Int.tdiv (y - x) st)) ∧ ((!decide ((20 : Int) < (↑n : Int)) && bif bif bif decide ((0 : Int) < st) then decide (x ≤ y) else false then decide ((0 : Int) ≤ x) else false then decide (y ≤ (1000000000 : Int)) else false) = true → (!decide ((20 : Int) < (↑n : Int)) && bif bif bif decide ((0 : Int) < st) then decide (x ≤ y) else false then decide ((0 : Int) ≤ x) else false then decide (y ≤ (1000000000 : Int)) else false) = true) ∧ ((!decide ((20 : Int) < (↑n : Int))) = true → (!decide ((20 : Int) < (↑n : Int))) = true) ∧ ((!decide ((20 : Int) < (↑n : Int))) = true → (bif bif bif decide ((0 : Int) < st) then decide (x ≤ y) else false then decide ((0 : Int) ≤ x) else false then decide (y ≤ (1000000000 : Int)) else false) = true → (!decide ((20 : Int) < (↑n : Int)) && bif bif bif decide ((0 : Int) < st) then decide (x ≤ y) else false then decide ((0 : Int) ≤ x) else false then decide (y ≤ (1000000000 : Int)) else false) = true) ∧ ((!decide ((20 : Int) < (↑n : Int))) = true → (!decide ((20 : Int) < (↑n : Int))) = true) ∧ ((!decide ((20 : Int) < (↑n : Int)) && bif bif bif bif decide ((0 : Int) < st) then decide (x ≤ y) else false then decide ((0 : Int) ≤ x) else false then decide (y ≤ (1000000000 : Int)) else false then decide ((300 : Int) < Int.tdiv (y - x) st) else false) = true → (!decide ((20 : Int) < (↑n : Int)) && bif bif bif bif decide ((0 : Int) < st) then decide (x ≤ y) else false then decide ((0 : Int) ≤ x) else false then decide (y ≤ (1000000000 : Int)) else false then decide ((300 : Int) < Int.tdiv (y - x) st) else false) = true) ∧ ((!decide ((20 : Int) < (↑n : Int)) && bif bif bif bif decide ((0 : Int) < st) then decide (x ≤ y) else false then decide ((0 : Int) ≤ x) else false then decide (y ≤ (1000000000 : Int)) else false then decide ((300 : Int) < Int.tdiv (y - x) st) else false) = true → (!decide ((20 : Int) < (↑n : Int)) && bif bif bif bif decide ((0 : Int) < st) then decide (x ≤ y) else false then decide ((0 : Int) ≤ x) else false then decide (y ≤ (1000000000 : Int)) else false then decide ((300 : Int) < Int.tdiv (y - x) st) else false) = true) ∧ ((!decide ((20 : Int) < (↑n : Int)) && bif bif bif bif decide ((0 : Int) < st) then decide (x ≤ y) else false then decide ((0 : Int) ≤ x) else false then decide (y ≤ (1000000000 : Int)) else false then decide ((300 : Int) < Int.tdiv (y - x) st) else false) = true → (!decide ((20 : Int) < (↑n : Int)) && bif bif bif bif decide ((0 : Int) < st) then decide (x ≤ y) else false then decide ((0 : Int) ≤ x) else false then decide (y ≤ (1000000000 : Int)) else false then decide ((300 : Int) < Int.tdiv (y - x) st) else false) = true) ∧ ((!decide ((20 : Int) < (↑n : Int)) && bif bif bif bif decide ((0 : Int) < st) then decide (x ≤ y) else false then decide ((0 : Int) ≤ x) else false then decide (y ≤ (1000000000 : Int)) else false then decide ((300 : Int) < Int.tdiv (y - x) st) else false) = true → (!decide ((20 : Int) < (↑n : Int)) && bif bif bif bif decide ((0 : Int) < st) then decide (x ≤ y) else false then decide ((0 : Int) ≤ x) else false then decide (y ≤ (1000000000 : Int)) else false then decide ((300 : Int) < Int.tdiv (y - x) st) else false) = true) ∧ ((!decide ((20 : Int) < (↑n : Int)) && bif bif bif bif decide ((0 : Int) < st) then decide (x ≤ y) else false then decide ((0 : Int) ≤ x) else false then decide (y ≤ (1000000000 : Int)) else false then decide ((300 : Int) < Int.tdiv (y - x) st) else false) = true → R64 (y - x)) ∧ ((!decide ((20 : Int) < (↑n : Int)) && bif bif bif bif decide ((0 : Int) < st) then decide (x ≤ y) else false then decide ((0 : Int) ≤ x) else false then decide (y ≤ (1000000000 : Int)) else false then decide ((300 : Int) < Int.tdiv (y - x) st) else false) = true → (!decide ((20 : Int) < (↑n : Int)) && bif bif bif bif decide ((0 : Int) < st) then decide (x ≤ y) else false then decide ((0 : Int) ≤ x) else false then decide (y ≤ (1000000000 : Int)) else false then decide ((300 : Int) < Int.tdiv (y - x) st) else false) = true) ∧ ((!decide ((20 : Int) < (↑n : Int)) && bif bif bif bif decide ((0 : Int) < st) then decide (x ≤ y) else false then decide ((0 : Int) ≤ x) else false then decide (y ≤ (1000000000 : Int)) else false then decide ((300 : Int) < Int.tdiv (y - x) st) else false) = true → (!decide ((20 : Int) < (↑n : Int)) && bif bif bif bif decide ((0 : Int) < st) then decide (x ≤ y) else false then decide ((0 : Int) ≤ x) else false then decide (y ≤ (1000000000 : Int)) else false then decide ((300 : Int) < Int.tdiv (y - x) st) else false) = true) ∧ ((!decide ((20 : Int) < (↑n : Int)) && bif bif bif bif decide ((0 : Int) < st) then decide (x ≤ y) else false then decide ((0 : Int) ≤ x) else false then decide (y ≤ (1000000000 : Int)) else false then decide ((300 : Int) < Int.tdiv (y - x) st) else false) = true → st ≠ (0 : Int)) ∧ ((!decide ((20 : Int) < (↑n : Int)) && bif bif bif bif decide ((0 : Int) < st) then decide (x ≤ y) else false then decide ((0 : Int) ≤ x) else false then decide (y ≤ (1000000000 : Int)) else false then decide ((300 : Int) < Int.tdiv (y - x) st) else false) = true → R64 (Int.tdiv (y - x) st)) ∧ ((!decide ((20 : Int) < (↑n : Int)) && bif bif bif bif decide ((0 : Int) < st) then decide (x ≤ y) else false then decide ((0 : Int) ≤ x) else false then decide (y ≤ (1000000000 : Int)) else false then decide ((300 : Int) < Int.tdiv (y - x) st) else false) = true → (!decide ((20 : Int) < (↑n : Int)) && bif bif bif bif decide ((0 : Int) < st) then decide (x ≤ y) else false then decide ((0 : Int) ≤ x) else false then decide (y ≤ (1000000000 : Int)) else false then decide ((300 : Int) < Int.tdiv (y - x) st) else false) = true) ∧ ((!decide ((20 : Int) < (↑n : Int))) = true → (!decide ((20 : Int) < (↑n : Int))) = true) ∧ ((!decide ((20 : Int) < (↑n : Int))) = true → (bif bif bif bif decide ((0 : Int) < st) then decide (x ≤ y) else false then decide ((0 : Int) ≤ x) else false then decide (y ≤ (1000000000 : Int)) else false then decide ((300 : Int) < Int.tdiv (y - x) st) else false) = true → (!decide ((20 : Int) < (↑n : Int)) && bif bif bif bif decide ((0 : Int) < st) then decide (x ≤ y) else false then decide ((0 : Int) ≤ x) else false then decide (y ≤ (1000000000 : Int)) else false then decide ((300 : Int) < Int.tdiv (y - x) st) else false) = true) ∧ (decide ((20 : Int) < (↑n : Int)) = false → (!decide ((20 : Int) < (↑n : Int))) = true) ∧ ((bif decide ((20 : Int) < (↑n : Int)) then true else bif bif bif bif bif decide ((0 : Int) < st) then decide (x ≤ y) else false then decide ((0 : Int) ≤ x) else false then decide (y ≤ (1000000000 : Int)) else false then decide ((300 : Int) < Int.tdiv (y - x) st) else false then decide (Int.tdiv (y - x) st ≤ (10000 : Int)) else false) = true → true = true) ∧ ((bif decide ((20 : Int) < (↑n : Int)) then true else bif bif bif bif bif decide ((0 : Int) < st) then decide (x ≤ y) else false then decide ((0 : Int) ≤ x) else false then decide (y ≤ (1000000000 : Int)) else false then decide ((300 : Int) < Int.tdiv (y - x) st) else false then decide (Int.tdiv (y - x) st ≤ (10000 : Int)) else false) = false → (∀ (k : Nat), k < n → am k = am k ∧ pe k = pe k ∧ ph k = ph k) ∧ n ≤ (100 : Nat) ∧ (∀ (k : Nat), k < n → am k = am k ∧ pe k = pe k ∧ ph k = ph k) ∧ R64 (↑n : Int) ∧ R64 st ∧ (∀ (k : Nat), k < n → am k = am k ∧ pe k = pe k ∧ ph k = ph k) ∧ R64 (↑n : Int) ∧ R64 st ∧ ((!!(decide ((if M.stE mn n am pe ph x y st = (0 : Int) then M.pkLo mn n am pe ph x y st (M.pcN x y st) else (0 : Int)) = if M.stE mn n am pe ph x y st = (0 : Int) then M.pkLo mn n am pe ph x y st (M.pcN x y st) else (0 : Int)) && (decide ((if M.stE mn n am pe ph x y st = (0 : Int) then M.pkHi mn n am pe ph x y st (M.gHi mn n am pe ph x x) (M.pcN x y st) else (0 : Int)) = if M.stE mn n am pe ph x y st = (0 : Int) then M.pkHi mn n am pe ph x y st (M.gHi mn n am pe ph (M.pcL x st (0 : Nat)) (M.pcH x y st (0 : Nat))) (M.pcN x y st) else (0 : Int)) && true))) = true → (!!(decide ((if M.stE mn n am pe ph x y st = (0 : Int) then M.pkLo mn n am pe ph x y st (M.pcN x y st) else (0 : Int)) = if M.stE mn n am pe ph x y st = (0 : Int) then M.pkLo mn n am pe ph x y st (M.pcN x y st) else (0 : Int)) && (decide ((if M.stE mn n am pe ph x y st = (0 : Int) then M.pkHi mn n am pe ph x y st (M.gHi mn n am pe ph x x) (M.pcN x y st) else (0 : Int)) = if M.stE mn n am pe ph x y st = (0 : Int) then M.pkHi mn n am pe ph x y st (M.gHi mn n am pe ph (M.pcL x st (0 : Nat)) (M.pcH x y st (0 : Nat))) (M.pcN x y st) else (0 : Int)) && true))) = true) ∧ ((!!(decide ((if M.stE mn n am pe ph x y st = (0 : Int) then M.pkLo mn n am pe ph x y st (M.pcN x y st) else (0 : Int)) = if M.stE mn n am pe ph x y st = (0 : Int) then M.pkLo mn n am pe ph x y st (M.pcN x y st) else (0 : Int)) && (decide ((if M.stE mn n am pe ph x y st = (0 : Int) then M.pkHi mn n am pe ph x y st (M.gHi mn n am pe ph x x) (M.pcN x y st) else (0 : Int)) = if M.stE mn n am pe ph x y st = (0 : Int) then M.pkHi mn n am pe ph x y st (M.gHi mn n am pe ph (M.pcL x st (0 : Nat)) (M.pcH x y st (0 : Nat))) (M.pcN x y st) else (0 : Int)) && true))) = true → (!!(decide ((if M.stE mn n am pe ph x y st = (0 : Int) then M.pkLo mn n am pe ph x y st (M.pcN x y st) else (0 : Int)) = if M.stE mn n am pe ph x y st = (0 : Int) then M.pkLo mn n am pe ph x y st (M.pcN x y st) else (0 : Int)) && (decide ((if M.stE mn n am pe ph x y st = (0 : Int) then M.pkHi mn n am pe ph x y st (M.gHi mn n am pe ph x x) (M.pcN x y st) else (0 : Int)) = if M.stE mn n am pe ph x y st = (0 : Int) then M.pkHi mn n am pe ph x y st (M.gHi mn n am pe ph (M.pcL x st (0 : Nat)) (M.pcH x y st (0 : Nat))) (M.pcN x y st) else (0 : Int)) && true))) = true) ∧ ((!(decide ((if M.stE mn n am pe ph x y st = (0 : Int) then M.pkLo mn n am pe ph x y st (M.pcN x y st) else (0 : Int)) = if M.stE mn n am pe ph x y st = (0 : Int) then M.pkLo mn n am pe ph x y st (M.pcN x y st) else (0 : Int)) && (decide ((if M.stE mn n am pe ph x y st = (0 : Int) then M.pkHi mn n am pe ph x y st (M.gHi mn n am pe ph x x) (M.pcN x y st) else (0 : Int)) = if M.stE mn n am pe ph x y st = (0 : Int) then M.pkHi mn n am pe ph x y st (M.gHi mn n am pe ph (M.pcL x st (0 : Nat)) (M.pcH x y st (0 : Nat))) (M.pcN x y st) else (0 : Int)) && true))) = false → (!!(decide ((if M.stE mn n am pe ph x y st = (0 : Int) then M.pkLo mn n am pe ph x y st (M.pcN x y st) else (0 : Int)) = if M.stE mn n am pe ph x y st = (0 : Int) then M.pkLo mn n am pe ph x y st (M.pcN x y st) else (0 : Int)) && (decide ((if M.stE mn n am pe ph x y st = (0 : Int) then M.pkHi mn n am pe ph x y st (M.gHi mn n am pe ph x x) (M.pcN x y st) else (0 : Int)) = if M.stE mn n am pe ph x y st = (0 : Int) then M.pkHi mn n am pe ph x y st (M.gHi mn n am pe ph (M.pcL x st (0 : Nat)) (M.pcH x y st (0 : Nat))) (M.pcN x y st) else (0 : Int)) && true))) = true) ∧ ((bif !(decide ((if M.stE mn n am pe ph x y st = (0 : Int) then M.pkLo mn n am pe ph x y st (M.pcN x y st) else (0 : Int)) = if M.stE mn n am pe ph x y st = (0 : Int) then M.pkLo mn n am pe ph x y st (M.pcN x y st) else (0 : Int)) && (decide ((if M.stE mn n am pe ph x y st = (0 : Int) then M.pkHi mn n am pe ph x y st (M.gHi mn n am pe ph x x) (M.pcN x y st) else (0 : Int)) = if M.stE mn n am pe ph x y st = (0 : Int) then M.pkHi mn n am pe ph x y st (M.gHi mn n am pe ph (M.pcL x st (0 : Nat)) (M.pcH x y st (0 : Nat))) (M.pcN x y st) else (0 : Int)) && true)) then true else !decide (M.stE mn n am pe ph x y st = M.stE mn n am pe ph x y st)) = true → false = true) ∧ ((bif !(decide ((if M.stE mn n am pe ph x y st = (0 : Int) then M.pkLo mn n am pe ph x y st (M.pcN x y st) else (0 : Int)) = if M.stE mn n am pe ph x y st = (0 : Int) then M.pkLo mn n am pe ph x y st (M.pcN x y st) else (0 : Int)) && (decide ((if M.stE mn n am pe ph x y st = (0 : Int) then M.pkHi mn n am pe ph x y st (M.gHi mn n am pe ph x x) (M.pcN x y st) else (0 : Int)) = if M.stE mn n am pe ph x y st = (0 : Int) then M.pkHi mn n am pe ph x y st (M.gHi mn n am pe ph (M.pcL x st (0 : Nat)) (M.pcH x y st (0 : Nat))) (M.pcN x y st) else (0 : Int)) && true)) then true else !decide (M.stE mn n am pe ph x y st = M.stE mn n am pe ph x y st)) = false → (∀ (k : Nat), k < n → am k = am k ∧ pe k = pe k ∧ ph k = ph k) ∧ n ≤ (100 : Nat) ∧ (∀ (k : Nat), k < n → am k = am k ∧ pe k = pe k ∧ ph k = ph k) ∧ R64 (↑n : Int) ∧ R64 st ∧ (∀ (k : Nat), k < n → am k = am k ∧ pe k = pe k ∧ ph k = ph k) ∧ R64 (↑n : Int) ∧ R64 st ∧ (∀ (k : Nat), (k < if M.winE mn n am pe ph x y st lv = (0 : Int) then M.wN (M.isLow mn n am pe ph x y st lv) (M.pcN x y st) else (0 : Nat)) → M.wL (M.isLow mn n am pe ph x y st lv) (M.pcL x st) (M.pcN x y st) k = M.wL (M.isLow mn n am pe ph x y st lv) (M.pcL x st) (M.pcN x y st) k ∧ M.wH (M.isLow mn n am pe ph x y st lv) (M.pcH x y st) (M.pcN x y st) k = M.wH (M.isLow mn n am pe ph x y st lv) (M.pcH x y st) (M.pcN x y st) k) ∧ (∀ (k : Nat), (k < if M.winE mn n am pe ph x y st lv = (0 : Int) then M.wN (M.isLow mn n am pe ph x y st lv) (M.pcN x y st) else (0 : Nat)) → M.wL (M.isLow mn n am pe ph x y st lv) (M.pcL x st) (M.pcN x y st) k = M.wL (M.isLow mn n am pe ph x y st lv) (M.pcL x st) (M.pcN x y st) k ∧ M.wH (M.isLow mn n am pe ph x y st lv) (M.pcH x y st) (M.pcN x y st) k = M.wH (M.isLow mn n am pe ph x y st lv) (M.pcH x y st) (M.pcN x y st) k) ∧ R64 (↑(if M.winE mn n am pe ph x y st lv = (0 : Int) then M.wN (M.isLow mn n am pe ph x y st lv) (M.pcN x y st) else (0 : Nat)) : Int) ∧ R64 (↑(if M.winE mn n am pe ph x y st lv = (0 : Int) then M.wN (M.isLow mn n am pe ph x y st lv) (M.pcN x y st) else (0 : Nat)) : Int) ∧ ((decide ((if M.winE mn n am pe ph x y st lv = (0 : Int) then M.wN (M.isLow mn n am pe ph x y st lv) (M.pcN x y st) else (0 : Nat)) = if M.winE mn n am pe ph x y st lv = (0 : Int) then M.wN (M.isLow mn n am pe ph x y st lv) (M.pcN x y st) else (0 : Nat)) && M.allB (M.eqR (M.wL (M.isLow mn n am pe ph x y st lv) (M.pcL x st) (M.pcN x y st)) (M.wH (M.isLow mn n am pe ph x y st lv) (M.pcH x y st) (M.pcN x y st)) (M.wL (M.isLow mn n am pe ph x y st lv) (M.pcL x st) (M.pcN x y st)) (M.wH (M.isLow mn n am pe ph x y st lv) (M.pcH x y st) (M.pcN x y st))) (if M.winE mn n am pe ph x y st lv = (0 : Int) then M.wN (M.isLow mn n am pe ph x y st lv) (M.pcN x y st) else (0 : Nat))) = true → (decide ((if M.winE mn n am pe ph x y st lv = (0 : Int) then M.wN (M.isLow mn n am pe ph x y st lv) (M.pcN x y st) else (0 : Nat)) = if M.winE mn n am pe ph x y st lv = (0 : Int) then M.wN (M.isLow mn n am pe ph x y st lv) (M.pcN x y st) else (0 : Nat)) && M.allB (M.eqR (M.wL (M.isLow mn n am pe ph x y st lv) (M.pcL x st) (M.pcN x y st)) (M.wH (M.isLow mn n am pe ph x y st lv) (M.pcH x y st) (M.pcN x y st)) (M.wL (M.isLow mn n am pe ph x y st lv) (M.pcL x st) (M.pcN x y st)) (M.wH (M.isLow mn n am pe ph x y st lv) (M.pcH x y st) (M.pcN x y st))) (if M.winE mn n am pe ph x y st lv = (0 : Int) then M.wN (M.isLow mn n am pe ph x y st lv) (M.pcN x y st) else (0 : Nat))) = true) ∧ ((decide ((if M.winE mn n am pe ph x y st lv = (0 : Int) then M.wN (M.isLow mn n am pe ph x y st lv) (M.pcN x y st) else (0 : Nat)) = if M.winE mn n am pe ph x y st lv = (0 : Int) then M.wN (M.isLow mn n am pe ph x y st lv) (M.pcN x y st) else (0 : Nat)) && M.allB (M.eqR (M.wL (M.isLow mn n am pe ph x y st lv) (M.pcL x st) (M.pcN x y st)) (M.wH (M.isLow mn n am pe ph x y st lv) (M.pcH x y st) (M.pcN x y st)) (M.wL (M.isLow mn n am pe ph x y st lv) (M.pcL x st) (M.pcN x y st)) (M.wH (M.isLow mn n am pe ph x y st lv) (M.pcH x y st) (M.pcN x y st))) (if M.winE mn n am pe ph x y st lv = (0 : Int) then M.wN (M.isLow mn n am pe ph x y st lv) (M.pcN x y st) else (0 : Nat))) = true → (decide ((if M.winE mn n am pe ph x y st lv = (0 : Int) then M.wN (M.isLow mn n am pe ph x y st lv) (M.pcN x y st) else (0 : Nat)) = if M.winE mn n am pe ph x y st lv = (0 : Int) then M.wN (M.isLow mn n am pe ph x y st lv) (M.pcN x y st) else (0 : Nat)) && M.allB (M.eqR (M.wL (M.isLow mn n am pe ph x y st lv) (M.pcL x st) (M.pcN x y st)) (M.wH (M.isLow mn n am pe ph x y st lv) (M.pcH x y st) (M.pcN x y st)) (M.wL (M.isLow mn n am pe ph x y st lv) (M.pcL x st) (M.pcN x y st)) (M.wH (M.isLow mn n am pe ph x y st lv) (M.pcH x y st) (M.pcN x y st))) (if M.winE mn n am pe ph x y st lv = (0 : Int) then M.wN (M.isLow mn n am pe ph x y st lv) (M.pcN x y st) else (0 : Nat))) = true) ∧ ((decide ((if M.winE mn n am pe ph x y st lv = (0 : Int) then M.wN (M.isLow mn n am pe ph x y st lv) (M.pcN x y st) else (0 : Nat)) = if M.winE mn n am pe ph x y st lv = (0 : Int) then M.wN (M.isLow mn n am pe ph x y st lv) (M.pcN x y st) else (0 : Nat)) && M.allB (M.eqR (M.wL (M.isLow mn n am pe ph x y st lv) (M.pcL x st) (M.pcN x y st)) (M.wH (M.isLow mn n am pe ph x y st lv) (M.pcH x y st) (M.pcN x y st)) (M.wL (M.isLow mn n am pe ph x y st lv) (M.pcL x st) (M.pcN x y st)) (M.wH (M.isLow mn n am pe ph x y st lv) (M.pcH x y st) (M.pcN x y st))) (if M.winE mn n am pe ph x y st lv = (0 : Int) then M.wN (M.isLow mn n am pe ph x y st lv) (M.pcN x y st) else (0 : Nat))) = true → (decide ((if M.winE mn n am pe ph x y st lv = (0 : Int) then M.wN (M.isLow mn n am pe ph x y st lv) (M.pcN x y st) else (0 : Nat)) = if M.winE mn n am pe ph x y st lv = (0 : Int) then M.wN (M.isLow mn n am pe ph x y st lv) (M.pcN x y st) else (0 : Nat)) && M.allB (M.eqR (M.wL (M.isLow mn n am pe ph x y st lv) (M.pcL x st) (M.pcN x y st)) (M.wH (M.isLow mn n am pe ph x y st lv) (M.pcH x y st) (M.pcN x y st)) (M.wL (M.isLow mn n am pe ph x y st lv) (M.pcL x st) (M.pcN x y st)) (M.wH (M.isLow mn n am pe ph x y st lv) (M.pcH x y st) (M.pcN x y st))) (if M.winE mn n am pe ph x y st lv = (0 : Int) then M.wN (M.isLow mn n am pe ph x y st lv) (M.pcN x y st) else (0 : Nat))) = true) ∧ ((bif decide ((if M.winE mn n am pe ph x y st lv = (0 : Int) then M.wN (M.isLow mn n am pe ph x y st lv) (M.pcN x y st) else (0 : Nat)) = if M.winE mn n am pe ph x y st lv = (0 : Int) then M.wN (M.isLow mn n am pe ph x y st lv) (M.pcN x y st) else (0 : Nat)) && M.allB (M.eqR (M.wL (M.isLow mn n am pe ph x y st lv) (M.pcL x st) (M.pcN x y st)) (M.wH (M.isLow mn n am pe ph x y st lv) (M.pcH x y st) (M.pcN x y st)) (M.wL (M.isLow mn n am pe ph x y st lv) (M.pcL x st) (M.pcN x y st)) (M.wH (M.isLow mn n am pe ph x y st lv) (M.pcH x y st) (M.pcN x y st))) (if M.winE mn n am pe ph x y st lv = (0 : Int) then M.wN (M.isLow mn n am pe ph x y st lv) (M.pcN x y st) else (0 : Nat)) then decide (M.winE mn n am pe ph x y st lv = M.winE mn n am pe ph x y st lv) else false) = true → (bif decide ((if M.winE mn n am pe ph x y st lv = (0 : Int) then M.wN (M.isLow mn n am pe ph x y st lv) (M.pcN x y st) else (0 : Nat)) = if M.winE mn n am pe ph x y st lv = (0 : Int) then M.wN (M.isLow mn n am pe ph x y st lv) (M.pcN x y st) else (0 : Nat)) && M.allB (M.eqR (M.wL (M.isLow mn n am pe ph x y st lv) (M.pcL x st) (M.pcN x y st)) (M.wH (M.isLow mn n am pe ph x y st lv) (M.pcH x y st) (M.pcN x y st)) (M.wL (M.isLow mn n am pe ph x y st lv) (M.pcL x st) (M.pcN x y st)) (M.wH (M.isLow mn n am pe ph x y st lv) (M.pcH x y st) (M.pcN x y st))) (if M.winE mn n am pe ph x y st lv = (0 : Int) then M.wN (M.isLow mn n am pe ph x y st lv) (M.pcN x y st) else (0 : Nat)) then decide (M.winE mn n am pe ph x y st lv = M.winE mn n am pe ph x y st lv) else false) = true) ∧ (bif bif decide ((if M.winE mn n am pe ph x y st lv = (0 : Int) then M.wN (M.isLow mn n am pe ph x y st lv) (M.pcN x y st) else (0 : Nat)) = if M.winE mn n am pe ph x y st lv = (0 : Int) then M.wN (M.isLow mn n am pe ph x y st lv) (M.pcN x y st) else (0 : Nat)) && M.allB (M.eqR (M.wL (M.isLow mn n am pe ph x y st lv) (M.pcL x st) (M.pcN x y st)) (M.wH (M.isLow mn n am pe ph x y st lv) (M.pcH x y st) (M.pcN x y st)) (M.wL (M.isLow mn n am pe ph x y st lv) (M.pcL x st) (M.pcN x y st)) (M.wH (M.isLow mn n am pe ph x y st lv) (M.pcH x y st) (M.pcN x y st))) (if M.winE mn n am pe ph x y st lv = (0 : Int) then M.wN (M.isLow mn n am pe ph x y st lv) (M.pcN x y st) else (0 : Nat)) then decide (M.winE mn n am pe ph x y st lv = M.winE mn n am pe ph x y st lv) else false then true else false) = true))
theorem r5 (mn : Int) (n : Nat) (am pe ph : Nat → Int) (x y st lv : Int) : V true eqs [(13, pureE e13), (15, pureE e15), (24, pureE e24), (25, pureE e25), (26, pureE e26), (27, pureE e27), (28, pureE e28)] Try.f5 [0,1,2,3,4,5,8,9,10,11,12,13,14,59,83] [] [.agg [SI mn, .sl 3 n (fun k => [SI (am k), SI (pe k), SI (ph k)])], .agg [SI x, SI y], SI st, SI lv] (.bool true) = Rr5 mn n am pe ph x y st lv := by kernel_rfl
theorem br5 (mn : Int) (n : Nat) (am pe ph : Nat → Int) (x y st lv : Int) (hp : (R64 n) ∧ (R64 st) ∧ (R64 x) ∧ (R64 y) ∧ AllP []) : Rr5 mn n am pe ph x y st lv := by
  unfold Rr5
  obtain ⟨hn, hr, hx, hy, -⟩ := id hp
  have e1 : ∀ (f g : Nat → Int) (N : Nat), M.allB (M.eqR f g f g) N = true := fun f g N => M.allB_iff.2 fun k _ => by simp [M.eqR]
  have hA : (if (M.stE mn n am pe ph x y st) = 0 then M.pkHi mn n am pe ph x y st (M.gHi mn n am pe ph x x) (M.pcN x y st) else 0) = if (M.stE mn n am pe ph x y st) = 0 then M.pkHi mn n am pe ph x y st (M.gHi mn n am pe ph (M.pcL x st 0) (M.pcH x y st 0)) (M.pcN x y st) else 0 := by
    by_cases h : (M.stE mn n am pe ph x y st) = 0
    · rw [if_pos h, if_pos h, M.pkHi_eq h]
    · rw [if_neg h, if_neg h]
  have hW : R64 ((if (M.winE mn n am pe ph x y st lv) = 0 then M.wN (M.isLow mn n am pe ph x y st lv) (M.pcN x y st) else 0 : Nat) : Int) := by
    unfold R64
    by_cases h : (M.winE mn n am pe ph x y st lv) = 0
    · have hs : (M.stE mn n am pe ph x y st) = 0 := by
        by_cases hs : (M.stE mn n am pe ph x y st) = 0
        · exact hs
        · simp [M.winE, hs] at h
      obtain ⟨-, s1, s2⟩ := M.stE_iff.1 hs
      have h1 := M.pcN_le (lo := x) (hi := y) s1 s2
      have h2 := @M.wN_le (M.isLow mn n am pe ph x y st lv) (M.pcN x y st)
      rw [if_pos h]; omega
    · rw [if_neg h]; omega
  have hd : 0 < st → x ≤ y → 0 ≤ x → y ≤ 1000000000 → R64 (y - x) ∧ st ≠ 0 ∧ R64 ((y - x).tdiv st) := fun a1 a2 a3 a4 => by
    have := M.tdiv_bd (a := y - x) (b := st) (m := 1000000000) a1 (by omega) (by omega)
    unfold R64; omega
  simp only [hA]
  generalize (if (M.winE mn n am pe ph x y st lv) = 0 then M.wN (M.isLow mn n am pe ph x y st lv) (M.pcN x y st) else 0 : Nat) = W at *
  clear hA
  by_cases c1 : (20 : Int) < n
  · simp [c1]
  · have b1 : n ≤ 100 := by omega
    by_cases c2 : 0 < st
    · by_cases c3 : x ≤ y
      · by_cases c4 : 0 ≤ x
        · by_cases c5 : y ≤ 1000000000
          · obtain ⟨d1, d2, d3⟩ := hd c2 c3 c4 c5
            by_cases c6 : 300 < (y - x).tdiv st <;> by_cases c7 : (y - x).tdiv st ≤ 10000 <;> simp [c1, c2, c3, c4, c5, c6, c7, d1, d2, d3, b1, hn, hr, hW, e1]
          · simp [c1, c2, c3, c4, c5, b1, hn, hr, hW, e1]
        · simp [c1, c2, c3, c4, b1, hn, hr, hW, e1]
      · simp [c1, c2, c3, b1, hn, hr, hW, e1]
    · simp [c1, c2, b1, hn, hr, hW, e1]
theorem s5 : PureOK PP 5 e5 := by
  intro xs ps res h hp
  unfold e5 at h
  split at h
  · rename_i mn n g_1 x y st lv
    simp only [Option.some.injEq, Prod.mk.injEq] at h
    obtain ⟨rfl, rfl⟩ := h
    simp only [AllP.cons] at hp
    obtain ⟨Hg_1, hp⟩ := hp
    refine Spec.args (ys := [.agg [SI mn, .sl 3 n (fun k => [SI ((cI g_1 0) k), SI ((cI g_1 1) k), SI ((cI g_1 2) k)])], .agg [SI x, SI y], SI st, SI lv]) ?_ (.cons (.agg (.cons (.refl _) (.cons (.row Hg_1 fun _ => rfl) .nil))) (.cons (.refl _) (.cons (.refl _) (.cons (.refl _) .nil))))
    refine enter (L := [0,1,2,3,4,5,8,9,10,11,12,13,14,59,83]) (LO := []) (E := eqs) (O := [(13, pureE e13), (15, pureE e15), (24, pureE e24), (25, pureE e25), (26, pureE e26), (27, pureE e27), (28, pureE e28)]) (ck := true) (eqsok) (.cons (pureE_ok s13) (.cons (pureE_ok s15) (.cons (pureE_ok s24) (.cons (pureE_ok s25) (.cons (pureE_ok s26) (.cons (pureE_ok s27) (.cons (pureE_ok s28) (.nil)))))))) (k := 5) (f := Try.f5) (xs := [.agg [SI mn, .sl 3 n (fun k => [SI ((cI g_1 0) k), SI ((cI g_1 1) k), SI ((cI g_1 2) k)])], .agg [SI x, SI y], SI st, SI lv]) (r := (.bool true)) (by kernel_rfl) (by kernel_rfl) (fun _ => .nil) ?_
    exact Hold.of (r5 mn n (cI g_1 0) (cI g_1 1) (cI g_1 2) x y st lv) (br5 mn n (cI g_1 0) (cI g_1 1) (cI g_1 2) x y st lv hp)
  · cases h
end Go.Proofs.Ytpbgkohljjmbhaa.Sep
