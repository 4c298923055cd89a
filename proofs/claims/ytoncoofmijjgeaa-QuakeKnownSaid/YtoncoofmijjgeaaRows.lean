/-
  No cell of these rows narrows 'for every input' (looked for: loops, veiled, ifaces, maps, wideKeys, modest, calm, conditions, laid).
  DERIVED. THE GIVEN ROWS OF THIS SEAT. 13 by the template 'for every input the law returns true; each argument reads behind the call as it read before'; 0 by the template 'total and deterministic' (their statements: YtoncoofmijjgeaaTotals.lean).
  GIVEN WITH THE SEED: the statements are not yours to turn. If you find one false, say at which input.
  Laid BY PROGRAM, IN A SANDBOX (cutbox-rows.mjs): the forced cells as the released guide's own fill.sh prints them over the translation 89bbf5905b3537df… (all of the seat's roots in one cut). By AI agents, Wed Nov 11 2026. No macro, syntax, notation, axiom, sorry.
-/
import Derived.Test.YtoncoofmijjgeaaChecked
import GoSem.Claim
import GoSem.ClaimJoined
import GoSem.ClaimMapViews
import Derived.JoinedTies
import Derived.KernelRfl
namespace Go.Proofs.Ytoncoofmijjgeaa
/- THE CELL 'sum', in the pinned program and in every row, IS THE sha256 OF THE DUMP (.gsa) THAT YtoncoofmijjgeaaProg.lean LOADS. Nothing in Lean hashes anything: it is a label: what it is worth is what the hold of that sum in a sandbox is worth. -/
noncomputable def Try.pinned : Pinned := { name := "ytoncoofmijjgeaa", sum := "89bbf5905b3537dfa39fb9f0d08421d1bee38f02a29ac5ce924b764105db1b95", checked := Try.checked }
namespace Rows
def none {H : Type} : Left H := { results := [], args := [] }

/-- 'tidewalllaw04.QuakeLefts': WHATEVER THE INPUT: true; the input reads as it did. -/
def quakeLeftsSpec : ChangeSpec := { name := "quakeLefts", fn := fun _ => fun
  | [d1, d2, d3, d4, d5] => { results := [.lit (.bool true)], args := [d1, d2, d3, d4, d5] }
  | _ => none }
def quakeLeftsRow : OpenClaim := { program := "ytoncoofmijjgeaa", sum := "89bbf5905b3537dfa39fb9f0d08421d1bee38f02a29ac5ce924b764105db1b95", func := "tidewall/tidewalllaw04.QuakeLefts", spec := "quakeLefts", unfollowed := true, recurses := true, apart := false }
def QuakeLeftsSaid : Prop := quakeLeftsRow.holds Try.pinned (OpenSpec.ofChange quakeLeftsSpec)

/-- ITS FALSE NEIGHBOUR: 'it returns false'. Refute it at one input. -/
def quakeLeftsWrong : ChangeSpec := { name := "quakeLefts", fn := fun _ => fun
  | [d1, d2, d3, d4, d5] => { results := [.lit (.bool false)], args := [d1, d2, d3, d4, d5] }
  | _ => none }
def QuakeLeftsWrongFalsely : Prop := quakeLeftsRow.holds Try.pinned (OpenSpec.ofChange quakeLeftsWrong)

/-- 'tidewalllaw04.QuakeShrinks': WHATEVER THE INPUT: true; the input reads as it did. -/
def quakeShrinksSpec : ChangeSpec := { name := "quakeShrinks", fn := fun _ => fun
  | [d1, d2, d3] => { results := [.lit (.bool true)], args := [d1, d2, d3] }
  | _ => none }
def quakeShrinksRow : OpenClaim := { program := "ytoncoofmijjgeaa", sum := "89bbf5905b3537dfa39fb9f0d08421d1bee38f02a29ac5ce924b764105db1b95", func := "tidewall/tidewalllaw04.QuakeShrinks", spec := "quakeShrinks", unfollowed := true, recurses := true, apart := false }
def QuakeShrinksSaid : Prop := quakeShrinksRow.holds Try.pinned (OpenSpec.ofChange quakeShrinksSpec)

/-- ITS FALSE NEIGHBOUR: 'it returns false'. Refute it at one input. -/
def quakeShrinksWrong : ChangeSpec := { name := "quakeShrinks", fn := fun _ => fun
  | [d1, d2, d3] => { results := [.lit (.bool false)], args := [d1, d2, d3] }
  | _ => none }
def QuakeShrinksWrongFalsely : Prop := quakeShrinksRow.holds Try.pinned (OpenSpec.ofChange quakeShrinksWrong)

/-- 'tidewalllaw04.QuakeTravels': WHATEVER THE INPUT: true; the input reads as it did. -/
def quakeTravelsSpec : ChangeSpec := { name := "quakeTravels", fn := fun _ => fun
  | [d1, d2, d3, d4] => { results := [.lit (.bool true)], args := [d1, d2, d3, d4] }
  | _ => none }
def quakeTravelsRow : OpenClaim := { program := "ytoncoofmijjgeaa", sum := "89bbf5905b3537dfa39fb9f0d08421d1bee38f02a29ac5ce924b764105db1b95", func := "tidewall/tidewalllaw04.QuakeTravels", spec := "quakeTravels", unfollowed := true, recurses := true, apart := false }
def QuakeTravelsSaid : Prop := quakeTravelsRow.holds Try.pinned (OpenSpec.ofChange quakeTravelsSpec)

/-- ITS FALSE NEIGHBOUR: 'it returns false'. Refute it at one input. -/
def quakeTravelsWrong : ChangeSpec := { name := "quakeTravels", fn := fun _ => fun
  | [d1, d2, d3, d4] => { results := [.lit (.bool false)], args := [d1, d2, d3, d4] }
  | _ => none }
def QuakeTravelsWrongFalsely : Prop := quakeTravelsRow.holds Try.pinned (OpenSpec.ofChange quakeTravelsWrong)

/-- 'tidewalllaw04.QuakeInside': WHATEVER THE INPUT: true; the input reads as it did. -/
def quakeInsideSpec : ChangeSpec := { name := "quakeInside", fn := fun _ => fun
  | [d1, d2, d3, d4, d5, d6, d7, d8] => { results := [.lit (.bool true)], args := [d1, d2, d3, d4, d5, d6, d7, d8] }
  | _ => none }
def quakeInsideRow : OpenClaim := { program := "ytoncoofmijjgeaa", sum := "89bbf5905b3537dfa39fb9f0d08421d1bee38f02a29ac5ce924b764105db1b95", func := "tidewall/tidewalllaw04.QuakeInside", spec := "quakeInside", unfollowed := true, recurses := true, apart := false }
def QuakeInsideSaid : Prop := quakeInsideRow.holds Try.pinned (OpenSpec.ofChange quakeInsideSpec)

/-- ITS FALSE NEIGHBOUR: 'it returns false'. Refute it at one input. -/
def quakeInsideWrong : ChangeSpec := { name := "quakeInside", fn := fun _ => fun
  | [d1, d2, d3, d4, d5, d6, d7, d8] => { results := [.lit (.bool false)], args := [d1, d2, d3, d4, d5, d6, d7, d8] }
  | _ => none }
def QuakeInsideWrongFalsely : Prop := quakeInsideRow.holds Try.pinned (OpenSpec.ofChange quakeInsideWrong)

/-- 'tidewalllaw04.QuakeProofs': WHATEVER THE INPUT: true; the input reads as it did. -/
def quakeProofsSpec : ChangeSpec := { name := "quakeProofs", fn := fun _ => fun
  | [d1, d2, d3, d4, d5, d6] => { results := [.lit (.bool true)], args := [d1, d2, d3, d4, d5, d6] }
  | _ => none }
def quakeProofsRow : OpenClaim := { program := "ytoncoofmijjgeaa", sum := "89bbf5905b3537dfa39fb9f0d08421d1bee38f02a29ac5ce924b764105db1b95", func := "tidewall/tidewalllaw04.QuakeProofs", spec := "quakeProofs", unfollowed := true, recurses := true, apart := false }
def QuakeProofsSaid : Prop := quakeProofsRow.holds Try.pinned (OpenSpec.ofChange quakeProofsSpec)

/-- ITS FALSE NEIGHBOUR: 'it returns false'. Refute it at one input. -/
def quakeProofsWrong : ChangeSpec := { name := "quakeProofs", fn := fun _ => fun
  | [d1, d2, d3, d4, d5, d6] => { results := [.lit (.bool false)], args := [d1, d2, d3, d4, d5, d6] }
  | _ => none }
def QuakeProofsWrongFalsely : Prop := quakeProofsRow.holds Try.pinned (OpenSpec.ofChange quakeProofsWrong)

/-- 'tidewalllaw04.QuakeMinimal': WHATEVER THE INPUT: true; the input reads as it did. -/
def quakeMinimalSpec : ChangeSpec := { name := "quakeMinimal", fn := fun _ => fun
  | [d1, d2] => { results := [.lit (.bool true)], args := [d1, d2] }
  | _ => none }
def quakeMinimalRow : OpenClaim := { program := "ytoncoofmijjgeaa", sum := "89bbf5905b3537dfa39fb9f0d08421d1bee38f02a29ac5ce924b764105db1b95", func := "tidewall/tidewalllaw04.QuakeMinimal", spec := "quakeMinimal", unfollowed := true, recurses := true, apart := false }
def QuakeMinimalSaid : Prop := quakeMinimalRow.holds Try.pinned (OpenSpec.ofChange quakeMinimalSpec)

/-- ITS FALSE NEIGHBOUR: 'it returns false'. Refute it at one input. -/
def quakeMinimalWrong : ChangeSpec := { name := "quakeMinimal", fn := fun _ => fun
  | [d1, d2] => { results := [.lit (.bool false)], args := [d1, d2] }
  | _ => none }
def QuakeMinimalWrongFalsely : Prop := quakeMinimalRow.holds Try.pinned (OpenSpec.ofChange quakeMinimalWrong)

/-- 'tidewalllaw04.QuakeAgrees': WHATEVER THE INPUT: true; the input reads as it did. -/
def quakeAgreesSpec : ChangeSpec := { name := "quakeAgrees", fn := fun _ => fun
  | [d1, d2, d3, d4] => { results := [.lit (.bool true)], args := [d1, d2, d3, d4] }
  | _ => none }
def quakeAgreesRow : OpenClaim := { program := "ytoncoofmijjgeaa", sum := "89bbf5905b3537dfa39fb9f0d08421d1bee38f02a29ac5ce924b764105db1b95", func := "tidewall/tidewalllaw04.QuakeAgrees", spec := "quakeAgrees", unfollowed := true, recurses := true, apart := false }
def QuakeAgreesSaid : Prop := quakeAgreesRow.holds Try.pinned (OpenSpec.ofChange quakeAgreesSpec)

/-- ITS FALSE NEIGHBOUR: 'it returns false'. Refute it at one input. -/
def quakeAgreesWrong : ChangeSpec := { name := "quakeAgrees", fn := fun _ => fun
  | [d1, d2, d3, d4] => { results := [.lit (.bool false)], args := [d1, d2, d3, d4] }
  | _ => none }
def QuakeAgreesWrongFalsely : Prop := quakeAgreesRow.holds Try.pinned (OpenSpec.ofChange quakeAgreesWrong)

/-- 'tidewalllaw04.QuakeTruth': WHATEVER THE INPUT: true; the input reads as it did. -/
def quakeTruthSpec : ChangeSpec := { name := "quakeTruth", fn := fun _ => fun
  | [d1, d2] => { results := [.lit (.bool true)], args := [d1, d2] }
  | _ => none }
def quakeTruthRow : OpenClaim := { program := "ytoncoofmijjgeaa", sum := "89bbf5905b3537dfa39fb9f0d08421d1bee38f02a29ac5ce924b764105db1b95", func := "tidewall/tidewalllaw04.QuakeTruth", spec := "quakeTruth", unfollowed := true, recurses := true, apart := false }
def QuakeTruthSaid : Prop := quakeTruthRow.holds Try.pinned (OpenSpec.ofChange quakeTruthSpec)

/-- ITS FALSE NEIGHBOUR: 'it returns false'. Refute it at one input. -/
def quakeTruthWrong : ChangeSpec := { name := "quakeTruth", fn := fun _ => fun
  | [d1, d2] => { results := [.lit (.bool false)], args := [d1, d2] }
  | _ => none }
def QuakeTruthWrongFalsely : Prop := quakeTruthRow.holds Try.pinned (OpenSpec.ofChange quakeTruthWrong)

/-- 'tidewalllaw04.QuakeSources': WHATEVER THE INPUT: true; the input reads as it did. -/
def quakeSourcesSpec : ChangeSpec := { name := "quakeSources", fn := fun _ => fun
  | [d1, d2, d3, d4, d5] => { results := [.lit (.bool true)], args := [d1, d2, d3, d4, d5] }
  | _ => none }
def quakeSourcesRow : OpenClaim := { program := "ytoncoofmijjgeaa", sum := "89bbf5905b3537dfa39fb9f0d08421d1bee38f02a29ac5ce924b764105db1b95", func := "tidewall/tidewalllaw04.QuakeSources", spec := "quakeSources", unfollowed := true, recurses := true, apart := false }
def QuakeSourcesSaid : Prop := quakeSourcesRow.holds Try.pinned (OpenSpec.ofChange quakeSourcesSpec)

/-- ITS FALSE NEIGHBOUR: 'it returns false'. Refute it at one input. -/
def quakeSourcesWrong : ChangeSpec := { name := "quakeSources", fn := fun _ => fun
  | [d1, d2, d3, d4, d5] => { results := [.lit (.bool false)], args := [d1, d2, d3, d4, d5] }
  | _ => none }
def QuakeSourcesWrongFalsely : Prop := quakeSourcesRow.holds Try.pinned (OpenSpec.ofChange quakeSourcesWrong)

/-- 'tidewalllaw04.QuakeSlides': WHATEVER THE INPUT: true; the input reads as it did. -/
def quakeSlidesSpec : ChangeSpec := { name := "quakeSlides", fn := fun _ => fun
  | [d1, d2, d3] => { results := [.lit (.bool true)], args := [d1, d2, d3] }
  | _ => none }
def quakeSlidesRow : OpenClaim := { program := "ytoncoofmijjgeaa", sum := "89bbf5905b3537dfa39fb9f0d08421d1bee38f02a29ac5ce924b764105db1b95", func := "tidewall/tidewalllaw04.QuakeSlides", spec := "quakeSlides", unfollowed := true, recurses := true, apart := false }
def QuakeSlidesSaid : Prop := quakeSlidesRow.holds Try.pinned (OpenSpec.ofChange quakeSlidesSpec)

/-- ITS FALSE NEIGHBOUR: 'it returns false'. Refute it at one input. -/
def quakeSlidesWrong : ChangeSpec := { name := "quakeSlides", fn := fun _ => fun
  | [d1, d2, d3] => { results := [.lit (.bool false)], args := [d1, d2, d3] }
  | _ => none }
def QuakeSlidesWrongFalsely : Prop := quakeSlidesRow.holds Try.pinned (OpenSpec.ofChange quakeSlidesWrong)

/-- 'tidewalllaw04.QuakeSlid': WHATEVER THE INPUT: true; the input reads as it did. -/
def quakeSlidSpec : ChangeSpec := { name := "quakeSlid", fn := fun _ => fun
  | [d1, d2, d3, d4, d5, d6] => { results := [.lit (.bool true)], args := [d1, d2, d3, d4, d5, d6] }
  | _ => none }
def quakeSlidRow : OpenClaim := { program := "ytoncoofmijjgeaa", sum := "89bbf5905b3537dfa39fb9f0d08421d1bee38f02a29ac5ce924b764105db1b95", func := "tidewall/tidewalllaw04.QuakeSlid", spec := "quakeSlid", unfollowed := true, recurses := true, apart := false }
def QuakeSlidSaid : Prop := quakeSlidRow.holds Try.pinned (OpenSpec.ofChange quakeSlidSpec)

/-- ITS FALSE NEIGHBOUR: 'it returns false'. Refute it at one input. -/
def quakeSlidWrong : ChangeSpec := { name := "quakeSlid", fn := fun _ => fun
  | [d1, d2, d3, d4, d5, d6] => { results := [.lit (.bool false)], args := [d1, d2, d3, d4, d5, d6] }
  | _ => none }
def QuakeSlidWrongFalsely : Prop := quakeSlidRow.holds Try.pinned (OpenSpec.ofChange quakeSlidWrong)

/-- 'tidewalllaw04.QuakeLocates': WHATEVER THE INPUT: true; the input reads as it did. -/
def quakeLocatesSpec : ChangeSpec := { name := "quakeLocates", fn := fun _ => fun
  | [d1, d2, d3, d4, d5] => { results := [.lit (.bool true)], args := [d1, d2, d3, d4, d5] }
  | _ => none }
def quakeLocatesRow : OpenClaim := { program := "ytoncoofmijjgeaa", sum := "89bbf5905b3537dfa39fb9f0d08421d1bee38f02a29ac5ce924b764105db1b95", func := "tidewall/tidewalllaw04.QuakeLocates", spec := "quakeLocates", unfollowed := true, recurses := true, apart := false }
def QuakeLocatesSaid : Prop := quakeLocatesRow.holds Try.pinned (OpenSpec.ofChange quakeLocatesSpec)

/-- ITS FALSE NEIGHBOUR: 'it returns false'. Refute it at one input. -/
def quakeLocatesWrong : ChangeSpec := { name := "quakeLocates", fn := fun _ => fun
  | [d1, d2, d3, d4, d5] => { results := [.lit (.bool false)], args := [d1, d2, d3, d4, d5] }
  | _ => none }
def QuakeLocatesWrongFalsely : Prop := quakeLocatesRow.holds Try.pinned (OpenSpec.ofChange quakeLocatesWrong)

/-- 'tidewalllaw04.QuakeKnown': WHATEVER THE INPUT: true; the input reads as it did. -/
def quakeKnownSpec : ChangeSpec := { name := "quakeKnown", fn := fun _ => fun
  | [] => { results := [.lit (.bool true)], args := [] }
  | _ => none }
def quakeKnownRow : OpenClaim := { program := "ytoncoofmijjgeaa", sum := "89bbf5905b3537dfa39fb9f0d08421d1bee38f02a29ac5ce924b764105db1b95", func := "tidewall/tidewalllaw04.QuakeKnown", spec := "quakeKnown", unfollowed := true, recurses := true, apart := false }
def QuakeKnownSaid : Prop := quakeKnownRow.holds Try.pinned (OpenSpec.ofChange quakeKnownSpec)

/-- ITS FALSE NEIGHBOUR: 'it returns false'. Refute it at one input. -/
def quakeKnownWrong : ChangeSpec := { name := "quakeKnown", fn := fun _ => fun
  | [] => { results := [.lit (.bool false)], args := [] }
  | _ => none }
def QuakeKnownWrongFalsely : Prop := quakeKnownRow.holds Try.pinned (OpenSpec.ofChange quakeKnownWrong)

/- THE SECOND FORM. 'bulk': how many values and letters a reading holds, each counted each time it is reached (what is shared counts as often as it is met; a slice's spare places count too). A statement '..UptoSaid' is the law's where the arguments, and the package variables that the reading takes, are together of bulk at most 1048576: NARROWER than '..Said'. Prove '..Said' where nothing that the law and all that it calls make is longer than what came in: it says more and counts as full. Else prove '..UptoSaid'. A law counts once. -/
mutual
def uptoBulk {H : Type} : DataW H → Nat
  | .lit (.string bytes) => bytes.length + 1
  | .lit _ => 1
  | .nil => 1
  | .ptr d => uptoBulk d + 1
  | .slice elems spare => uptoBulkAll elems + uptoBulkAll spare + 1
  | .agg parts => uptoBulkAll parts + 1
  | .iface _ d => uptoBulk d + 1
  | .map entries => uptoBulkEntries entries + 1
  | .held _ => 1
def uptoBulkAll {H : Type} : List (DataW H) → Nat
  | [] => 0
  | d :: r => uptoBulk d + uptoBulkAll r
def uptoBulkEntries {H : Type} : List (Lit × DataW H) → Nat
  | [] => 0
  | x :: r => uptoBulkEntry x + uptoBulkEntries r
def uptoBulkEntry {H : Type} : Lit × DataW H → Nat
  | (.string bytes, d) => bytes.length + uptoBulk d + 1
  | (_, d) => uptoBulk d + 1
 end
def uptoSmall : (H : Type) → List (DataW H) → Bool := fun _ ds => decide (uptoBulkAll ds ≤ 1048576)
def OpenSpec.upto (s : _root_.Go.ChangeSpec) : _root_.Go.OpenSpec := { _root_.Go.OpenSpec.ofChange s with cond := some uptoSmall }

/-- 'tidewalllaw04.QuakeLefts', WHERE WHAT IT READS IS OF BULK AT MOST 1048576: true; the input reads as it did. -/
def quakeLeftsUptoRow : OpenClaim := { program := "ytoncoofmijjgeaa", sum := "89bbf5905b3537dfa39fb9f0d08421d1bee38f02a29ac5ce924b764105db1b95", func := "tidewall/tidewalllaw04.QuakeLefts", spec := "quakeLefts", unfollowed := true, recurses := true, apart := false, narrowed := true }
def QuakeLeftsUptoSaid : Prop := quakeLeftsUptoRow.holds Try.pinned (OpenSpec.upto quakeLeftsSpec)

/-- 'tidewalllaw04.QuakeShrinks', WHERE WHAT IT READS IS OF BULK AT MOST 1048576: true; the input reads as it did. -/
def quakeShrinksUptoRow : OpenClaim := { program := "ytoncoofmijjgeaa", sum := "89bbf5905b3537dfa39fb9f0d08421d1bee38f02a29ac5ce924b764105db1b95", func := "tidewall/tidewalllaw04.QuakeShrinks", spec := "quakeShrinks", unfollowed := true, recurses := true, apart := false, narrowed := true }
def QuakeShrinksUptoSaid : Prop := quakeShrinksUptoRow.holds Try.pinned (OpenSpec.upto quakeShrinksSpec)

/-- 'tidewalllaw04.QuakeTravels', WHERE WHAT IT READS IS OF BULK AT MOST 1048576: true; the input reads as it did. -/
def quakeTravelsUptoRow : OpenClaim := { program := "ytoncoofmijjgeaa", sum := "89bbf5905b3537dfa39fb9f0d08421d1bee38f02a29ac5ce924b764105db1b95", func := "tidewall/tidewalllaw04.QuakeTravels", spec := "quakeTravels", unfollowed := true, recurses := true, apart := false, narrowed := true }
def QuakeTravelsUptoSaid : Prop := quakeTravelsUptoRow.holds Try.pinned (OpenSpec.upto quakeTravelsSpec)

/-- 'tidewalllaw04.QuakeInside', WHERE WHAT IT READS IS OF BULK AT MOST 1048576: true; the input reads as it did. -/
def quakeInsideUptoRow : OpenClaim := { program := "ytoncoofmijjgeaa", sum := "89bbf5905b3537dfa39fb9f0d08421d1bee38f02a29ac5ce924b764105db1b95", func := "tidewall/tidewalllaw04.QuakeInside", spec := "quakeInside", unfollowed := true, recurses := true, apart := false, narrowed := true }
def QuakeInsideUptoSaid : Prop := quakeInsideUptoRow.holds Try.pinned (OpenSpec.upto quakeInsideSpec)

/-- 'tidewalllaw04.QuakeProofs', WHERE WHAT IT READS IS OF BULK AT MOST 1048576: true; the input reads as it did. -/
def quakeProofsUptoRow : OpenClaim := { program := "ytoncoofmijjgeaa", sum := "89bbf5905b3537dfa39fb9f0d08421d1bee38f02a29ac5ce924b764105db1b95", func := "tidewall/tidewalllaw04.QuakeProofs", spec := "quakeProofs", unfollowed := true, recurses := true, apart := false, narrowed := true }
def QuakeProofsUptoSaid : Prop := quakeProofsUptoRow.holds Try.pinned (OpenSpec.upto quakeProofsSpec)

/-- 'tidewalllaw04.QuakeMinimal', WHERE WHAT IT READS IS OF BULK AT MOST 1048576: true; the input reads as it did. -/
def quakeMinimalUptoRow : OpenClaim := { program := "ytoncoofmijjgeaa", sum := "89bbf5905b3537dfa39fb9f0d08421d1bee38f02a29ac5ce924b764105db1b95", func := "tidewall/tidewalllaw04.QuakeMinimal", spec := "quakeMinimal", unfollowed := true, recurses := true, apart := false, narrowed := true }
def QuakeMinimalUptoSaid : Prop := quakeMinimalUptoRow.holds Try.pinned (OpenSpec.upto quakeMinimalSpec)

/-- 'tidewalllaw04.QuakeAgrees', WHERE WHAT IT READS IS OF BULK AT MOST 1048576: true; the input reads as it did. -/
def quakeAgreesUptoRow : OpenClaim := { program := "ytoncoofmijjgeaa", sum := "89bbf5905b3537dfa39fb9f0d08421d1bee38f02a29ac5ce924b764105db1b95", func := "tidewall/tidewalllaw04.QuakeAgrees", spec := "quakeAgrees", unfollowed := true, recurses := true, apart := false, narrowed := true }
def QuakeAgreesUptoSaid : Prop := quakeAgreesUptoRow.holds Try.pinned (OpenSpec.upto quakeAgreesSpec)

/-- 'tidewalllaw04.QuakeTruth', WHERE WHAT IT READS IS OF BULK AT MOST 1048576: true; the input reads as it did. -/
def quakeTruthUptoRow : OpenClaim := { program := "ytoncoofmijjgeaa", sum := "89bbf5905b3537dfa39fb9f0d08421d1bee38f02a29ac5ce924b764105db1b95", func := "tidewall/tidewalllaw04.QuakeTruth", spec := "quakeTruth", unfollowed := true, recurses := true, apart := false, narrowed := true }
def QuakeTruthUptoSaid : Prop := quakeTruthUptoRow.holds Try.pinned (OpenSpec.upto quakeTruthSpec)

/-- 'tidewalllaw04.QuakeSources', WHERE WHAT IT READS IS OF BULK AT MOST 1048576: true; the input reads as it did. -/
def quakeSourcesUptoRow : OpenClaim := { program := "ytoncoofmijjgeaa", sum := "89bbf5905b3537dfa39fb9f0d08421d1bee38f02a29ac5ce924b764105db1b95", func := "tidewall/tidewalllaw04.QuakeSources", spec := "quakeSources", unfollowed := true, recurses := true, apart := false, narrowed := true }
def QuakeSourcesUptoSaid : Prop := quakeSourcesUptoRow.holds Try.pinned (OpenSpec.upto quakeSourcesSpec)

/-- 'tidewalllaw04.QuakeSlides', WHERE WHAT IT READS IS OF BULK AT MOST 1048576: true; the input reads as it did. -/
def quakeSlidesUptoRow : OpenClaim := { program := "ytoncoofmijjgeaa", sum := "89bbf5905b3537dfa39fb9f0d08421d1bee38f02a29ac5ce924b764105db1b95", func := "tidewall/tidewalllaw04.QuakeSlides", spec := "quakeSlides", unfollowed := true, recurses := true, apart := false, narrowed := true }
def QuakeSlidesUptoSaid : Prop := quakeSlidesUptoRow.holds Try.pinned (OpenSpec.upto quakeSlidesSpec)

/-- 'tidewalllaw04.QuakeSlid', WHERE WHAT IT READS IS OF BULK AT MOST 1048576: true; the input reads as it did. -/
def quakeSlidUptoRow : OpenClaim := { program := "ytoncoofmijjgeaa", sum := "89bbf5905b3537dfa39fb9f0d08421d1bee38f02a29ac5ce924b764105db1b95", func := "tidewall/tidewalllaw04.QuakeSlid", spec := "quakeSlid", unfollowed := true, recurses := true, apart := false, narrowed := true }
def QuakeSlidUptoSaid : Prop := quakeSlidUptoRow.holds Try.pinned (OpenSpec.upto quakeSlidSpec)

/-- 'tidewalllaw04.QuakeLocates', WHERE WHAT IT READS IS OF BULK AT MOST 1048576: true; the input reads as it did. -/
def quakeLocatesUptoRow : OpenClaim := { program := "ytoncoofmijjgeaa", sum := "89bbf5905b3537dfa39fb9f0d08421d1bee38f02a29ac5ce924b764105db1b95", func := "tidewall/tidewalllaw04.QuakeLocates", spec := "quakeLocates", unfollowed := true, recurses := true, apart := false, narrowed := true }
def QuakeLocatesUptoSaid : Prop := quakeLocatesUptoRow.holds Try.pinned (OpenSpec.upto quakeLocatesSpec)

/-- 'tidewalllaw04.QuakeKnown', WHERE WHAT IT READS IS OF BULK AT MOST 1048576: true; the input reads as it did. -/
def quakeKnownUptoRow : OpenClaim := { program := "ytoncoofmijjgeaa", sum := "89bbf5905b3537dfa39fb9f0d08421d1bee38f02a29ac5ce924b764105db1b95", func := "tidewall/tidewalllaw04.QuakeKnown", spec := "quakeKnown", unfollowed := true, recurses := true, apart := false, narrowed := true }
def QuakeKnownUptoSaid : Prop := quakeKnownUptoRow.holds Try.pinned (OpenSpec.upto quakeKnownSpec)

end Rows
end Go.Proofs.Ytoncoofmijjgeaa
