/-
  The small calculus, fourteenth part: what is left to show of a piece of code. No condition. (This text proves no statement by itself.)
-/
import Derived.Test.YtkklmkogdogbkaaSep13
namespace Go.Proofs.Ytkklmkogdogbkaa.Sep
open Go
set_option linter.unusedVariables false
set_option linter.unusedSimpArgs false

abbrev Slots := List (Nat × AV)
abbrev Blks := List (Nat × Blk)

def getA : Slots → Nat → AV
  | [], _ => .top
  | (t, v) :: r, t' => if t = t' then v else getA r t'
def getH : Blks → Nat → Option Blk
  | [], _ => none
  | (t, v) :: r, t' => if t = t' then some v else getH r t'
def setA (A : Slots) (d : Option Nat) (v : AV) : Slots :=
  match d with
  | some d => (d, v) :: A
  | none => A
def setH (H : Blks) : List (Nat × Blk) → Blks
  | [] => H
  | p :: ps => setH (p :: H) ps
/-- The slots of L alone. -/
def prune (L : List Nat) (A : Slots) : Slots := L.map fun t => (t, getA A t)

theorem getA_setA (A : Slots) (d : Option Nat) (v : AV) : getA (setA A d v) = updS (getA A) d v := by
  funext t
  cases d with
  | none => simp [setA, updS]
  | some d => simp [setA, updS, getA]
theorem getH_setH (H : Blks) (wr : List (Nat × Blk)) : getH (setH H wr) = applyW (getH H) wr := by
  induction wr generalizing H with
  | nil => rfl
  | cons p ps ih =>
    rw [setH, ih]
    unfold applyW
    rw [List.foldl_cons]
    congr 1
    funext j
    simp only [getH, updH]
    by_cases h : p.1 = j
    · simp [h]
    · have h' : ¬ j = p.1 := fun e => h e.symm
      simp [h, h']
theorem getA_prune {L : List Nat} {A : Slots} {t : Nat} : getA (prune L A) t = getA A t ∨ getA (prune L A) t = .top := by
  unfold prune
  induction L with
  | nil => exact .inr rfl
  | cons x L ih =>
    simp only [List.map_cons, getA]
    by_cases h : x = t
    · subst h; simp
    · simpa [h] using ih

section
variable {ops : Array Oper}

theorem AI_congr {outs outs' : Nat → Out} {A0 : Nat → AV} {I : Nat → Bool} : ∀ {n : Nat}, (∀ i, i < n → outs i = outs' i) → AI ops outs A0 I n = AI ops outs' A0 I n := by
  intro n
  induction n with
  | zero => intro _; rfl
  | succ n ih => intro h; simp only [AI, ih (fun i hi => h i (by omega)), h n (by omega)]
theorem HI_congr {outs outs' : Nat → Out} {H0 : Nat → Option Blk} {I : Nat → Bool} : ∀ {n : Nat}, (∀ i, i < n → outs i = outs' i) → HI outs H0 I n = HI outs' H0 I n := by
  intro n
  induction n with
  | zero => intro _; rfl
  | succ n ih => intro h; simp only [HI, ih (fun i hi => h i (by omega)), h n (by omega)]

end

/-- What is left to show of a region. -/
def regOK (N : Nat) (draw : Bool) (ops : Array Oper) (tr : List (List Nat × List Nat)) : Bool := dstsOK N ops && (!draw || regionOK ops tr)

end Go.Proofs.Ytkklmkogdogbkaa.Sep
