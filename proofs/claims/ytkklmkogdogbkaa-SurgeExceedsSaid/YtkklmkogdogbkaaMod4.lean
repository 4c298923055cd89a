/-
  What the stage 'surge' computes, in plain numbers: roots and storms. No condition. (This text proves no statement by itself.)
-/
import Derived.Test.YtkklmkogdogbkaaMod3
namespace Go.Proofs.Ytkklmkogdogbkaa.M
/-- The least number whose square is not less. -/
def root (n : Int) : Int := (first (fun k => decide (n ≤ (k : Int) * k)) 16777216 : Nat)
theorem root_at {n : Int} {k : Nat} (hk : k ≤ 16777216) (h : ∀ j : Nat, j < k → ¬ n ≤ (j : Int) * j) (h2 : k < 16777216 → n ≤ (k : Int) * k) : root n = k := by
  unfold root
  rcases Nat.lt_or_ge k 16777216 with h1 | h1
  · rw [first_at h1 (fun j hj => decide_eq_false (h j hj)) (decide_eq_true (h2 h1))]
  · have : k = 16777216 := by omega
    subst this
    rw [first_end fun j hj => decide_eq_false (h j hj)]
theorem root_le (n : Int) : 0 ≤ root n ∧ root n ≤ 16777216 := by
  unfold root
  have := (first_spec (fun k => decide (n ≤ (k : Int) * k)) 16777216).1
  omega
/-- Vectors turned by right angles. -/
def rot (a b c d : Int) : Nat → Int × Int × Int × Int
  | 0 => (a, b, c, d)
  | r + 1 => ((rot a b c d r).2.2.1, (rot a b c d r).2.2.2, -(rot a b c d r).2.1, -(rot a b c d r).1)
def rA (a b c d : Int) (r : Nat) : Int := (rot a b c d r).1
def rB (a b c d : Int) (r : Nat) : Int := (rot a b c d r).2.1
def rC (a b c d : Int) (r : Nat) : Int := (rot a b c d r).2.2.1
def rD (a b c d : Int) (r : Nat) : Int := (rot a b c d r).2.2.2
def hm (a b c d : Int) : Nat → Int
  | 0 => 0
  | r + 1 => hm a b c d r + bitV (ahead (rot a b c d r).1 (rot a b c d r).2.1 (rot a b c d r).2.2.1 (rot a b c d r).2.2.2) (2 ^ (2 * r)) + bitV (aslant (rot a b c d r).1 (rot a b c d r).2.1 (rot a b c d r).2.2.1 (rot a b c d r).2.2.2) (2 ^ (2 * r + 1))
theorem hm_4 (a b c d : Int) : hm a b c d 4 = sumB (dirB a b c d) 8 := by
  simp only [hm, rot, sumB, dirB, Int.neg_neg]
theorem hm_le (a b c d : Int) : ∀ r, 0 ≤ hm a b c d r ∧ hm a b c d r < 2 ^ (2 * r)
  | 0 => by simp [hm]
  | r + 1 => by
    have := hm_le a b c d r
    simp only [hm, bitV]
    have e : (2 : Int) ^ (2 * (r + 1)) = 4 * 2 ^ (2 * r) := by rw [show 2 * (r + 1) = 2 * r + 2 by omega, Int.pow_add]; omega
    have e' : (2 : Int) ^ (2 * r + 1) = 2 * 2 ^ (2 * r) := by rw [Int.pow_succ]; omega
    rw [e, e']
    have p : (0 : Int) < 2 ^ (2 * r) := Int.pow_pos (by omega)
    split <;> split <;> omega
theorem rot_sm {a b c d : Int} (ha : Sm a) (hb : Sm b) (hc : Sm c) (hd : Sm d) : ∀ r, Sm (rot a b c d r).1 ∧ Sm (rot a b c d r).2.1 ∧ Sm (rot a b c d r).2.2.1 ∧ Sm (rot a b c d r).2.2.2
  | 0 => ⟨ha, hb, hc, hd⟩
  | r + 1 => by
    obtain ⟨h1, h2, h3, h4⟩ := rot_sm ha hb hc hd r
    simp only [rot]
    unfold Sm at *
    refine ⟨h3, h4, ?_, ?_⟩ <;> omega
/-- The error of a storm. -/
def stormE (x0 x1 y0 y1 r m0 m1 l0 l1 : Int) : Int :=
  if within x0 x1 (-1000000) 1000000 && within y0 y1 (-1000000) 1000000 && decide (1 ≤ r) && decide (r ≤ 1000000) && within m0 m1 0 10000 && within l0 l1 0 20000 then 0 else 3
end Go.Proofs.Ytkklmkogdogbkaa.M
