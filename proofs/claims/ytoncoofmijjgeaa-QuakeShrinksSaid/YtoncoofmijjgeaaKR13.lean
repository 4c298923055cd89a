/-
  Texts of one seat, joined. No condition. (This text proves no statement by itself.)
-/
import Derived.Test.YtoncoofmijjgeaaKN1
namespace Go.Proofs.Ytoncoofmijjgeaa.M
open Go
set_option linter.unusedVariables false
set_option linter.unusedSimpArgs false
def fmL (o : Nat → Option Sc) : Nat → List Sc
 | 0 => []
 | i + 1 => match o i with
  | some z => fmL o i ++ [z]
  | none => fmL o i
def fmN (o : Nat → Option Sc) (i : Nat) : Nat := (fmL o i).length
def fmR (o : Nat → Option Sc) (i : Nat) : Nat → Sc := scR (fmL o i)
theorem fm_stay {o : Nat → Option Sc} {i : Nat} (h : o i = none) : fmN o (i + 1) = fmN o i ∧ fmR o (i + 1) = fmR o i := by
 have e : fmL o (i + 1) = fmL o i := by
  conv => lhs; unfold fmL
  rw [h]
 unfold fmN fmR
 rw [e]
 exact ⟨rfl, rfl⟩
theorem fm_step {o : Nat → Option Sc} {i : Nat} {z : Sc} (h : o i = some z) : fmN o (i + 1) = fmN o i + 1 ∧ ∀ k, k < fmN o i + 1 → fmR o (i + 1) k = if k < fmN o i then fmR o i k else z := by
 have e : fmL o (i + 1) = fmL o i ++ [z] := by
  conv => lhs; unfold fmL
  rw [h]
 unfold fmN fmR
 rw [e]
 refine ⟨by simp, fun k hk => ?_⟩
 unfold scR
 rw [List.getD_eq_getElem?_getD, List.getD_eq_getElem?_getD]
 by_cases c : k < (fmL o i).length
 ·rw [List.getElem?_append_left c, if_pos c]
 ·rw [List.getElem?_append_right (by omega), if_neg c]
  have e : k - (fmL o i).length = 0 := by omega
  rw [e]; rfl
namespace Gd
variable {g : Gd} {s : Nat → Sc} {f c : Int} {j n : Nat}
end Gd
end Go.Proofs.Ytoncoofmijjgeaa.M
