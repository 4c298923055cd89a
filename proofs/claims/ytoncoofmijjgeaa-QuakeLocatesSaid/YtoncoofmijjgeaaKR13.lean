/-
  Texts of one seat, joined. No condition. (This text proves no statement by itself.)
-/
import Derived.Test.YtoncoofmijjgeaaKN1
namespace Go.Proofs.Ytoncoofmijjgeaa.M
open Go
set_option linter.unusedVariables false
set_option linter.unusedSimpArgs false
namespace Gd
variable {g : Gd} {s : Nat → Sc} {f c : Int} {j n : Nat}
end Gd
end Go.Proofs.Ytoncoofmijjgeaa.M
