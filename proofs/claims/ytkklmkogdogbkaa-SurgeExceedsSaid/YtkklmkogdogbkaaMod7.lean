/-
  What the stage 'surge' computes, in plain numbers: levels that are exceeded. No condition. (This text proves no statement by itself.)
-/
import Derived.Test.YtkklmkogdogbkaaMod6
namespace Go.Proofs.Ytkklmkogdogbkaa.M
def above (x : Nat → Int) (z : Int) (k : Nat) : Bool := decide (z < x k)
def ordR (x y : Nat → Int) (k : Nat) : Bool := decide (x k ≤ y k)
def ex0 (x y : Nat → Int) (n : Nat) (i : Int) : Int := if allB (ordR x y) n then i else 0
def exE (x y : Nat → Int) (n : Nat) : Int := if allB (ordR x y) n then 0 else 3
theorem idx_succ (p : Nat → Bool) (k : Nat) : idx p (k + 1) = if idx p k < 0 ∧ p k = true then (k : Int) else idx p k := by
  have h := (first_spec p k).1
  have e : first p (k + 1) = if first p k < k then first p k else if p k = true then k else k + 1 := rfl
  unfold idx
  generalize first p (k + 1) = f at *
  generalize first p k = g at *
  grind
theorem idx_ge (p : Nat → Bool) (k : Nat) : -1 ≤ idx p k ∧ idx p k ≤ k := by
  have h := (first_spec p k).1
  unfold idx
  split <;> omega
/-- The first one from j on. -/
def backOK (p : Nat → Bool) (n j : Nat) (a : Int) : Prop := (a = -1 ∧ ∀ k, j ≤ k → k < n → p k = false) ∨ (∃ k : Nat, a = k ∧ j ≤ k ∧ k < n ∧ p k = true ∧ ∀ i, j ≤ i → i < k → p i = false)
theorem backOK_end {p : Nat → Bool} {n : Nat} : backOK p n n (-1) := .inl ⟨rfl, fun k h h' => by omega⟩
theorem backOK_step {p : Nat → Bool} {n j : Nat} {a : Int} (h : backOK p n (j + 1) a) (hj : j < n) : backOK p n j (if p j = true then (j : Int) else a) := by
  by_cases hp : p j = true
  · rw [if_pos hp]
    exact .inr ⟨j, rfl, Nat.le_refl _, hj, hp, fun i h1 h2 => by omega⟩
  · rw [if_neg hp]
    have hp' : p j = false := by simpa using hp
    rcases h with ⟨rfl, h⟩ | ⟨k, rfl, h1, h2, h3, h4⟩
    · refine .inl ⟨rfl, fun k h1 h2 => ?_⟩
      by_cases e : k = j
      · subst e; exact hp'
      · exact h k (by omega) h2
    · refine .inr ⟨k, rfl, by omega, h2, h3, fun i h5 h6 => ?_⟩
      by_cases e : i = j
      · subst e; exact hp'
      · exact h4 i (by omega) h6
theorem backOK_0 {p : Nat → Bool} {n : Nat} {a : Int} (h : backOK p n 0 a) : a = idx p n := by
  rcases h with ⟨rfl, h⟩ | ⟨k, rfl, -, h2, h3, h4⟩
  · unfold idx; rw [first_end fun j hj => h j (by omega) hj, if_neg (by omega)]
  · unfold idx; rw [first_at h2 (fun j hj => h4 j (by omega) hj) h3, if_pos h2]
end Go.Proofs.Ytkklmkogdogbkaa.M
