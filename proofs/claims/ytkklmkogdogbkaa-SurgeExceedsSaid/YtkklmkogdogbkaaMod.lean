/-
  What the stage 'surge' computes, in plain numbers. No condition. (This text proves no statement by itself.)
-/
namespace Go.Proofs.Ytkklmkogdogbkaa.M

/-- A quotient rounded down. -/
def floor (a b : Int) : Int := if a < 0 then -((b - 1 - a).tdiv b) else a.tdiv b
def near (a b : Int) : Int := max (max 0 a) (-b)
def far (a b : Int) : Int := max b (-a)
def within (a b lo hi : Int) : Bool := decide (a ≤ b) && decide (lo ≤ a) && decide (b ≤ hi)
def wind (a b d e f : Int) : Bool := within a b 0 10000 && decide (1 ≤ d) && decide (d ≤ 255) && within e f (-20000) 20000
theorem floor_eq {a b : Int} (hb : 0 < b) : floor a b = a / b := by
  unfold floor
  split
  · rename_i h
    rw [Int.tdiv_eq_ediv_of_nonneg (by omega)]
    have h1 := Int.mul_ediv_add_emod (b - 1 - a) b
    have h2 := Int.emod_nonneg (b - 1 - a) (show b ≠ 0 by omega)
    have h3 := Int.emod_lt_of_pos (b - 1 - a) hb
    have h4 := Int.mul_ediv_add_emod a b
    have h5 := Int.emod_nonneg a (show b ≠ 0 by omega)
    have h6 := Int.emod_lt_of_pos a hb
    generalize (b - 1 - a) / b = q at *
    generalize (b - 1 - a) % b = r at *
    generalize a / b = q' at *
    generalize a % b = r' at *
    have e : b * (q + q') = b - 1 - r - r' := by rw [Int.mul_add]; omega
    have : q + q' < 1 := by
      rcases Int.lt_or_le (q + q') 1 with h | h
      · exact h
      · have := Int.mul_le_mul_of_nonneg_left h (show 0 ≤ b by omega)
        omega
    have : -1 < q + q' := by
      rcases Int.lt_or_le (-1) (q + q') with h | h
      · exact h
      · have := Int.mul_le_mul_of_nonneg_left h (show 0 ≤ b by omega)
        omega
    omega
  · exact Int.tdiv_eq_ediv_of_nonneg (by omega)
/-- The other way of rounding down. -/
theorem down_eq {a b : Int} (hb : 0 < b) : (if a < a.tdiv b * b then a.tdiv b - 1 else a.tdiv b) = a / b := by
  rcases Int.lt_or_le a 0 with ha | ha
  · have h1 := Int.mul_tdiv_add_tmod a b
    have h2 := Int.lt_tmod_of_pos a hb
    have h3 : a.tmod b ≤ 0 := by
      have := Int.tmod_nonneg (b := b) (show 0 ≤ -a by omega)
      rw [Int.neg_tmod] at this; omega
    have h4 := Int.mul_ediv_add_emod a b
    have h5 := Int.emod_nonneg a (show b ≠ 0 by omega)
    have h6 := Int.emod_lt_of_pos a hb
    rw [Int.mul_comm (a.tdiv b) b]
    generalize a.tdiv b = q at *
    generalize a.tmod b = r at *
    generalize a / b = q' at *
    generalize a % b = r' at *
    have e : b * (q - q') = r' - r := by rw [Int.mul_sub]; omega
    split
    · have : q - q' < 2 := by
        rcases Int.lt_or_le (q - q') 2 with h | h
        · exact h
        · have := Int.mul_le_mul_of_nonneg_left h (show 0 ≤ b by omega)
          omega
      have : 0 < q - q' := by
        rcases Int.lt_or_le 0 (q - q') with h | h
        · exact h
        · have := Int.mul_le_mul_of_nonneg_left h (show 0 ≤ b by omega)
          omega
      omega
    · have hr : r = 0 := by omega
      have : q - q' < 1 := by
        rcases Int.lt_or_le (q - q') 1 with h | h
        · exact h
        · have := Int.mul_le_mul_of_nonneg_left h (show 0 ≤ b by omega)
          omega
      have : -1 < q - q' := by
        rcases Int.lt_or_le (-1) (q - q') with h | h
        · exact h
        · have := Int.mul_le_mul_of_nonneg_left h (show 0 ≤ b by omega)
          omega
      omega
  · have h1 : a.tdiv b = a / b := Int.tdiv_eq_ediv_of_nonneg ha
    have h4 := Int.mul_ediv_add_emod a b
    have h5 := Int.emod_nonneg a (show b ≠ 0 by omega)
    rw [h1, if_neg]
    rw [Int.mul_comm]; omega
theorem ediv_le {a b : Int} (hb : 0 < b) (ha : 0 ≤ a) : 0 ≤ a / b ∧ a / b ≤ a := ⟨Int.ediv_nonneg ha (by omega), Int.ediv_le_self b ha⟩
theorem ediv_ge {a b : Int} (hb : 0 < b) (ha : a < 0) : a ≤ a / b ∧ a / b ≤ -1 := by
  constructor
  · rw [Int.le_ediv_iff_mul_le hb]
    have h := Int.mul_nonneg (show 0 ≤ -a by omega) (show 0 ≤ b - 1 by omega)
    rw [Int.mul_sub, Int.neg_mul, Int.neg_mul] at h
    omega
  · have : a / b < 0 := Int.ediv_neg_of_neg_of_pos ha hb
    omega
/-- A quotient is not greater than what is divided. -/
theorem ediv_abs {a b m : Int} (hb : 0 < b) (h1 : -m ≤ a) (h2 : a ≤ m) : -m ≤ a / b ∧ a / b ≤ m := by
  rcases Int.lt_or_le a 0 with ha | ha
  · have := ediv_ge hb ha; omega
  · have := ediv_le hb ha; omega
theorem tdiv_mul_abs {a b m : Int} (hb : 0 < b) (h1 : -m ≤ a) (h2 : a ≤ m) : -m ≤ a.tdiv b ∧ a.tdiv b ≤ m ∧ -m ≤ a.tdiv b * b ∧ a.tdiv b * b ≤ m := by
  have e := Int.mul_tdiv_add_tmod a b
  rw [Int.mul_comm] at e
  rcases Int.lt_or_le a 0 with ha | ha
  · have h3 : a.tmod b ≤ 0 := by
      have := Int.tmod_nonneg (b := b) (show 0 ≤ -a by omega)
      rw [Int.neg_tmod] at this; omega
    have h4 : a.tdiv b ≤ 0 := by
      have := Int.tdiv_nonneg (show 0 ≤ -a by omega) (show 0 ≤ b by omega)
      rw [Int.neg_tdiv] at this; omega
    have h5 : a ≤ a.tdiv b := by
      have := Int.tdiv_le_self b (show 0 ≤ -a by omega)
      rw [Int.neg_tdiv] at this; omega
    have : a.tdiv b * b ≤ 0 := by
      have := Int.mul_nonneg (show 0 ≤ -(a.tdiv b) by omega) (show 0 ≤ b by omega)
      rw [Int.neg_mul] at this; omega
    omega
  · have h3 := Int.tmod_nonneg (b := b) ha
    have h4 := Int.tdiv_nonneg ha (show 0 ≤ b by omega)
    have h5 := Int.tdiv_le_self b ha
    have := Int.mul_nonneg h4 (show 0 ≤ b by omega)
    omega

def ahead (a b c d : Int) : Bool := decide (0 < b) && decide (12 * near c d ≤ 5 * b)
def aslant (a b c d : Int) : Bool := decide (0 < b) && decide (0 < d) && decide (5 * max 1 a ≤ 12 * d) && decide (5 * max 1 c ≤ 12 * b)
def bitV (b : Bool) (n : Int) : Int := if b then n else 0
/-- The directions of vectors. -/
def dirB (a b c d : Int) : Nat → Bool
  | 0 => ahead a b c d
  | 1 => aslant a b c d
  | 2 => ahead c d (-b) (-a)
  | 3 => aslant c d (-b) (-a)
  | 4 => ahead (-b) (-a) (-d) (-c)
  | 5 => aslant (-b) (-a) (-d) (-c)
  | 6 => ahead (-d) (-c) a b
  | _ => aslant (-d) (-c) a b
/-- The first bits. -/
def sumB (f : Nat → Bool) : Nat → Int
  | 0 => 0
  | n + 1 => sumB f n + bitV (f n) (2 ^ n)
def heading (a b c d : Int) : Int := if near a b = 0 ∧ near c d = 0 then 255 else sumB (dirB a b c d) 8
theorem sumB_le (f : Nat → Bool) : ∀ n, 0 ≤ sumB f n ∧ sumB f n < 2 ^ n
  | 0 => by simp [sumB]
  | n + 1 => by
    have := sumB_le f n
    simp only [sumB, bitV]
    have e : (2 : Int) ^ (n + 1) = 2 ^ n + 2 ^ n := by rw [Int.pow_succ]; omega
    split <;> omega

/-- All of the first n. -/
def allB (p : Nat → Bool) : Nat → Bool
  | 0 => true
  | n + 1 => allB p n && p n
theorem allB_iff {p : Nat → Bool} : ∀ {n : Nat}, allB p n = true ↔ ∀ k, k < n → p k = true
  | 0 => by simp [allB]
  | n + 1 => by
    simp only [allB, Bool.and_eq_true, allB_iff (n := n)]
    constructor
    · intro h k hk
      by_cases e : k = n
      · subst e; exact h.2
      · exact h.1 k (by omega)
    · intro h; exact ⟨fun k hk => h k (by omega), h n (by omega)⟩
/-- The first one of the first n; n, if there is none. -/
def first (p : Nat → Bool) : Nat → Nat
  | 0 => 0
  | n + 1 => if first p n < n then first p n else if p n then n else n + 1
theorem first_spec (p : Nat → Bool) : ∀ n, first p n ≤ n ∧ (∀ k, k < first p n → p k = false) ∧ (first p n < n → p (first p n) = true)
  | 0 => by simp [first]
  | n + 1 => by
    obtain ⟨h1, h2, h3⟩ := first_spec p n
    simp only [first]
    split
    · rename_i h; exact ⟨by omega, h2, fun _ => h3 h⟩
    · rename_i h
      have e : first p n = n := by omega
      rw [e] at h2
      split
      · rename_i hp; exact ⟨by omega, h2, fun _ => hp⟩
      · rename_i hp
        refine ⟨by omega, fun k hk => ?_, fun hlt => by omega⟩
        by_cases e : k = n
        · subst e; simpa using hp
        · exact h2 k (by omega)
theorem first_at {p : Nat → Bool} {n k : Nat} (hk : k < n) (h : ∀ j, j < k → p j = false) (hp : p k = true) : first p n = k := by
  obtain ⟨h1, h2, h3⟩ := first_spec p n
  rcases Nat.lt_trichotomy (first p n) k with h4 | h4 | h4
  · have := h3 (by omega); rw [h _ h4] at this; cases this
  · exact h4
  · have := h2 k h4; rw [hp] at this; cases this
theorem first_end {p : Nat → Bool} {n : Nat} (h : ∀ j, j < n → p j = false) : first p n = n := by
  obtain ⟨h1, h2, h3⟩ := first_spec p n
  rcases Nat.lt_or_ge (first p n) n with h4 | h4
  · have := h3 h4; rw [h _ h4] at this; cases this
  · omega
theorem first_lt {p : Nat → Bool} {n : Nat} : first p n < n ↔ ¬ allB (fun k => !p k) n = true := by
  rw [allB_iff]
  obtain ⟨h1, h2, h3⟩ := first_spec p n
  constructor
  · intro h e; have := e _ h; rw [h3 h] at this; cases this
  · intro h
    rcases Nat.lt_or_ge (first p n) n with h4 | h4
    · exact h4
    · exact (h fun k hk => by rw [h2 k (by omega)]; rfl).elim
def idx (p : Nat → Bool) (n : Nat) : Int := if first p n < n then first p n else -1
def okS (x y : Nat → Int) (k : Nat) : Bool := within (x k) (y k) (-1200000) 1200000
/-- The error of a grid. -/
def gridE (w h s : Int) (n : Nat) (x y : Nat → Int) : Int :=
  if (decide (1 ≤ w) && decide (w ≤ 24)) && (decide (1 ≤ h) && decide (h ≤ 24)) && (decide (1 ≤ s) && decide (s ≤ 10000)) then
    if (n : Int) = w * h then if allB (okS x y) n then 0 else 3 else 11
  else 3
def bit (n : Int) (d : Nat) : Int := (n.fdiv (2 ^ d)).tmod 2
/-- How many of the first bits are set. -/
def bits (n : Int) : Nat → Int
  | 0 => 0
  | d + 1 => bits n d + bit n d
theorem bit_le (n : Int) (d : Nat) : -1 ≤ bit n d ∧ bit n d ≤ 1 := by
  unfold bit
  generalize n.fdiv (2 ^ d) = q
  have h := Int.tmod_lt_of_pos q (show (0 : Int) < 2 by omega)
  have h' := Int.lt_tmod_of_pos q (show (0 : Int) < 2 by omega)
  omega
theorem bits_le (n : Int) : ∀ d : Nat, -d ≤ bits n d ∧ bits n d ≤ d
  | 0 => by simp [bits]
  | d + 1 => by
    have h1 := bits_le n d
    have h2 := bit_le n d
    simp only [bits]
    omega
/-- The least span that has some spans. -/
def low (x : Nat → Int) (a : Int) : Nat → Int
  | 0 => a
  | k + 1 => min (low x a k) (x k)
def high (y : Nat → Int) (b : Int) : Nat → Int
  | 0 => b
  | k + 1 => max (high y b k) (y k)
theorem area {w h : Int} (h1 : 1 ≤ w) (h2 : w ≤ 24) (h3 : 1 ≤ h) (h4 : h ≤ 24) : 1 ≤ w * h ∧ w * h ≤ 576 := by
  have a := Int.mul_le_mul h2 h4 (by omega) (by omega)
  have b := Int.mul_le_mul h1 h3 (by omega) (by omega)
  omega
end Go.Proofs.Ytkklmkogdogbkaa.M
