/-
  Texts of one seat, joined. No condition. (This text proves no statement by itself.)
-/
import Derived.Test.YtoncoofmijjgeaaKN1
namespace Go.Proofs.Ytoncoofmijjgeaa.M
open Go
set_option linter.unusedVariables false
set_option linter.unusedSimpArgs false
def fmL (o : Nat → Option Sc) : Nat → List Sc
 | 0 => []
 | i + 1 => match o i with
  | some z => fmL o i ++ [z]
  | none => fmL o i
def fmN (o : Nat → Option Sc) (i : Nat) : Nat := (fmL o i).length
def fmR (o : Nat → Option Sc) (i : Nat) : Nat → Sc := scR (fmL o i)
namespace Gd
variable {g : Gd} {s : Nat → Sc} {f c : Int} {j n : Nat}
end Gd
end Go.Proofs.Ytoncoofmijjgeaa.M
