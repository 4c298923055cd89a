/-
  No cell of these rows narrows 'for every input' (looked for: loops, veiled, ifaces, maps, wideKeys, modest, calm, conditions, laid).
  DERIVED. THE GIVEN ROWS OF THIS SEAT. 8 by the template 'for every input the law returns true; each argument reads behind the call as it read before'; 0 by the template 'total and deterministic' (their statements: YtpbgkohljjmbhaaTotals.lean).
  GIVEN WITH THE SEED: the statements are not yours to turn. If you find one false, say at which input.
  Laid BY PROGRAM, IN A SANDBOX (cutbox-rows.mjs): the forced cells as the released guide's own fill.sh prints them over the translation c56cf9f267f682ad… (all of the seat's roots in one cut). By AI agents, Wed Nov 11 2026. No macro, syntax, notation, axiom, sorry.
-/
import Derived.Test.YtpbgkohljjmbhaaChecked
import GoSem.Claim
import GoSem.ClaimJoined
import GoSem.ClaimMapViews
import Derived.JoinedTies
import Derived.KernelRfl
namespace Go.Proofs.Ytpbgkohljjmbhaa
/- THE CELL 'sum', in the pinned program and in every row, IS THE sha256 OF THE DUMP (.gsa) THAT YtpbgkohljjmbhaaProg.lean LOADS. Nothing in Lean hashes anything: it is a label: what it is worth is what the hold of that sum in a sandbox is worth. -/
noncomputable def Try.pinned : Pinned := { name := "ytpbgkohljjmbhaa", sum := "c56cf9f267f682ad8a552246a8d58e0c16cb1df3ff232c1dee39db7fc63c3eb8", checked := Try.checked }
namespace Rows
def none {H : Type} : Left H := { results := [], args := [] }

/-- 'tidewalllaw02.TideCosines': WHATEVER THE INPUT: true; the input reads as it did. -/
def tideCosinesSpec : ChangeSpec := { name := "tideCosines", fn := fun _ => fun
  | [d] => { results := [.lit (.bool true)], args := [d] }
  | _ => none }
def tideCosinesRow : OpenClaim := { program := "ytpbgkohljjmbhaa", sum := "c56cf9f267f682ad8a552246a8d58e0c16cb1df3ff232c1dee39db7fc63c3eb8", func := "tidewall/tidewalllaw02.TideCosines", spec := "tideCosines", unfollowed := true, recurses := true, named := ["math/bits.divideError", "math/bits.overflowError"], apart := false }
def TideCosinesSaid : Prop := tideCosinesRow.holds Try.pinned (OpenSpec.ofChange tideCosinesSpec)

/-- ITS FALSE NEIGHBOUR: 'it returns false'. Refute it at one input. -/
def tideCosinesWrong : ChangeSpec := { name := "tideCosines", fn := fun _ => fun
  | [d] => { results := [.lit (.bool false)], args := [d] }
  | _ => none }
def TideCosinesWrongFalsely : Prop := tideCosinesRow.holds Try.pinned (OpenSpec.ofChange tideCosinesWrong)

/-- 'tidewalllaw02.TideLevels': WHATEVER THE INPUT: true; the input reads as it did. -/
def tideLevelsSpec : ChangeSpec := { name := "tideLevels", fn := fun _ => fun
  | [d1, d2, d3] => { results := [.lit (.bool true)], args := [d1, d2, d3] }
  | _ => none }
def tideLevelsRow : OpenClaim := { program := "ytpbgkohljjmbhaa", sum := "c56cf9f267f682ad8a552246a8d58e0c16cb1df3ff232c1dee39db7fc63c3eb8", func := "tidewall/tidewalllaw02.TideLevels", spec := "tideLevels", unfollowed := true, recurses := true, named := ["math/bits.divideError", "math/bits.overflowError"], apart := false }
def TideLevelsSaid : Prop := tideLevelsRow.holds Try.pinned (OpenSpec.ofChange tideLevelsSpec)

/-- ITS FALSE NEIGHBOUR: 'it returns false'. Refute it at one input. -/
def tideLevelsWrong : ChangeSpec := { name := "tideLevels", fn := fun _ => fun
  | [d1, d2, d3] => { results := [.lit (.bool false)], args := [d1, d2, d3] }
  | _ => none }
def TideLevelsWrongFalsely : Prop := tideLevelsRow.holds Try.pinned (OpenSpec.ofChange tideLevelsWrong)

/-- 'tidewalllaw02.TideWindows': WHATEVER THE INPUT: true; the input reads as it did. -/
def tideWindowsSpec : ChangeSpec := { name := "tideWindows", fn := fun _ => fun
  | [d1, d2, d3, d4] => { results := [.lit (.bool true)], args := [d1, d2, d3, d4] }
  | _ => none }
def tideWindowsRow : OpenClaim := { program := "ytpbgkohljjmbhaa", sum := "c56cf9f267f682ad8a552246a8d58e0c16cb1df3ff232c1dee39db7fc63c3eb8", func := "tidewall/tidewalllaw02.TideWindows", spec := "tideWindows", unfollowed := true, recurses := true, named := ["math/bits.divideError", "math/bits.overflowError"], apart := false }
def TideWindowsSaid : Prop := tideWindowsRow.holds Try.pinned (OpenSpec.ofChange tideWindowsSpec)

/-- ITS FALSE NEIGHBOUR: 'it returns false'. Refute it at one input. -/
def tideWindowsWrong : ChangeSpec := { name := "tideWindows", fn := fun _ => fun
  | [d1, d2, d3, d4] => { results := [.lit (.bool false)], args := [d1, d2, d3, d4] }
  | _ => none }
def TideWindowsWrongFalsely : Prop := tideWindowsRow.holds Try.pinned (OpenSpec.ofChange tideWindowsWrong)

/-- 'tidewalllaw02.TideCircle': WHATEVER THE INPUT: true; the input reads as it did. -/
def tideCircleSpec : ChangeSpec := { name := "tideCircle", fn := fun _ => fun
  | [d1, d2] => { results := [.lit (.bool true)], args := [d1, d2] }
  | _ => none }
def tideCircleRow : OpenClaim := { program := "ytpbgkohljjmbhaa", sum := "c56cf9f267f682ad8a552246a8d58e0c16cb1df3ff232c1dee39db7fc63c3eb8", func := "tidewall/tidewalllaw02.TideCircle", spec := "tideCircle", unfollowed := true, recurses := true, named := ["math/bits.divideError", "math/bits.overflowError"], apart := false }
def TideCircleSaid : Prop := tideCircleRow.holds Try.pinned (OpenSpec.ofChange tideCircleSpec)

/-- ITS FALSE NEIGHBOUR: 'it returns false'. Refute it at one input. -/
def tideCircleWrong : ChangeSpec := { name := "tideCircle", fn := fun _ => fun
  | [d1, d2] => { results := [.lit (.bool false)], args := [d1, d2] }
  | _ => none }
def TideCircleWrongFalsely : Prop := tideCircleRow.holds Try.pinned (OpenSpec.ofChange tideCircleWrong)

/-- 'tidewalllaw02.TideSpans': WHATEVER THE INPUT: true; the input reads as it did. -/
def tideSpansSpec : ChangeSpec := { name := "tideSpans", fn := fun _ => fun
  | [d1, d2, d3, d4] => { results := [.lit (.bool true)], args := [d1, d2, d3, d4] }
  | _ => none }
def tideSpansRow : OpenClaim := { program := "ytpbgkohljjmbhaa", sum := "c56cf9f267f682ad8a552246a8d58e0c16cb1df3ff232c1dee39db7fc63c3eb8", func := "tidewall/tidewalllaw02.TideSpans", spec := "tideSpans", unfollowed := true, recurses := true, named := ["math/bits.divideError", "math/bits.overflowError"], apart := false }
def TideSpansSaid : Prop := tideSpansRow.holds Try.pinned (OpenSpec.ofChange tideSpansSpec)

/-- ITS FALSE NEIGHBOUR: 'it returns false'. Refute it at one input. -/
def tideSpansWrong : ChangeSpec := { name := "tideSpans", fn := fun _ => fun
  | [d1, d2, d3, d4] => { results := [.lit (.bool false)], args := [d1, d2, d3, d4] }
  | _ => none }
def TideSpansWrongFalsely : Prop := tideSpansRow.holds Try.pinned (OpenSpec.ofChange tideSpansWrong)

/-- 'tidewalllaw02.TideInside': WHATEVER THE INPUT: true; the input reads as it did. -/
def tideInsideSpec : ChangeSpec := { name := "tideInside", fn := fun _ => fun
  | [d1, d2, d3, d4, d5, d6, d7] => { results := [.lit (.bool true)], args := [d1, d2, d3, d4, d5, d6, d7] }
  | _ => none }
def tideInsideRow : OpenClaim := { program := "ytpbgkohljjmbhaa", sum := "c56cf9f267f682ad8a552246a8d58e0c16cb1df3ff232c1dee39db7fc63c3eb8", func := "tidewall/tidewalllaw02.TideInside", spec := "tideInside", unfollowed := true, recurses := true, named := ["math/bits.divideError", "math/bits.overflowError"], apart := false }
def TideInsideSaid : Prop := tideInsideRow.holds Try.pinned (OpenSpec.ofChange tideInsideSpec)

/-- ITS FALSE NEIGHBOUR: 'it returns false'. Refute it at one input. -/
def tideInsideWrong : ChangeSpec := { name := "tideInside", fn := fun _ => fun
  | [d1, d2, d3, d4, d5, d6, d7] => { results := [.lit (.bool false)], args := [d1, d2, d3, d4, d5, d6, d7] }
  | _ => none }
def TideInsideWrongFalsely : Prop := tideInsideRow.holds Try.pinned (OpenSpec.ofChange tideInsideWrong)

/-- 'tidewalllaw02.TideLow': WHATEVER THE INPUT: true; the input reads as it did. -/
def tideLowSpec : ChangeSpec := { name := "tideLow", fn := fun _ => fun
  | [d1, d2, d3, d4, d5, d6, d7, d8] => { results := [.lit (.bool true)], args := [d1, d2, d3, d4, d5, d6, d7, d8] }
  | _ => none }
def tideLowRow : OpenClaim := { program := "ytpbgkohljjmbhaa", sum := "c56cf9f267f682ad8a552246a8d58e0c16cb1df3ff232c1dee39db7fc63c3eb8", func := "tidewall/tidewalllaw02.TideLow", spec := "tideLow", unfollowed := true, recurses := true, named := ["math/bits.divideError", "math/bits.overflowError"], apart := false }
def TideLowSaid : Prop := tideLowRow.holds Try.pinned (OpenSpec.ofChange tideLowSpec)

/-- ITS FALSE NEIGHBOUR: 'it returns false'. Refute it at one input. -/
def tideLowWrong : ChangeSpec := { name := "tideLow", fn := fun _ => fun
  | [d1, d2, d3, d4, d5, d6, d7, d8] => { results := [.lit (.bool false)], args := [d1, d2, d3, d4, d5, d6, d7, d8] }
  | _ => none }
def TideLowWrongFalsely : Prop := tideLowRow.holds Try.pinned (OpenSpec.ofChange tideLowWrong)

/-- 'tidewalllaw02.TideSums': WHATEVER THE INPUT: true; the input reads as it did. -/
def tideSumsSpec : ChangeSpec := { name := "tideSums", fn := fun _ => fun
  | [d1, d2, d3, d4, d5, d6] => { results := [.lit (.bool true)], args := [d1, d2, d3, d4, d5, d6] }
  | _ => none }
def tideSumsRow : OpenClaim := { program := "ytpbgkohljjmbhaa", sum := "c56cf9f267f682ad8a552246a8d58e0c16cb1df3ff232c1dee39db7fc63c3eb8", func := "tidewall/tidewalllaw02.TideSums", spec := "tideSums", unfollowed := true, recurses := true, named := ["math/bits.divideError", "math/bits.overflowError"], apart := false }
def TideSumsSaid : Prop := tideSumsRow.holds Try.pinned (OpenSpec.ofChange tideSumsSpec)

/-- ITS FALSE NEIGHBOUR: 'it returns false'. Refute it at one input. -/
def tideSumsWrong : ChangeSpec := { name := "tideSums", fn := fun _ => fun
  | [d1, d2, d3, d4, d5, d6] => { results := [.lit (.bool false)], args := [d1, d2, d3, d4, d5, d6] }
  | _ => none }
def TideSumsWrongFalsely : Prop := tideSumsRow.holds Try.pinned (OpenSpec.ofChange tideSumsWrong)

/- THE SECOND FORM. 'bulk': how many values and letters a reading holds, each counted each time it is reached (what is shared counts as often as it is met; a slice's spare places count too). A statement '..UptoSaid' is the law's where the arguments, and the package variables that the reading takes, are together of bulk at most 1048576: NARROWER than '..Said'. Prove '..Said' where nothing that the law and all that it calls make is longer than what came in: it says more and counts as full. Else prove '..UptoSaid'. A law counts once. -/
mutual
def uptoBulk {H : Type} : DataW H → Nat
  | .lit (.string bytes) => bytes.length + 1
  | .lit _ => 1
  | .nil => 1
  | .ptr d => uptoBulk d + 1
  | .slice elems spare => uptoBulkAll elems + uptoBulkAll spare + 1
  | .agg parts => uptoBulkAll parts + 1
  | .iface _ d => uptoBulk d + 1
  | .map entries => uptoBulkEntries entries + 1
  | .held _ => 1
def uptoBulkAll {H : Type} : List (DataW H) → Nat
  | [] => 0
  | d :: r => uptoBulk d + uptoBulkAll r
def uptoBulkEntries {H : Type} : List (Lit × DataW H) → Nat
  | [] => 0
  | x :: r => uptoBulkEntry x + uptoBulkEntries r
def uptoBulkEntry {H : Type} : Lit × DataW H → Nat
  | (.string bytes, d) => bytes.length + uptoBulk d + 1
  | (_, d) => uptoBulk d + 1
 end
def uptoSmall : (H : Type) → List (DataW H) → Bool := fun _ ds => decide (uptoBulkAll ds ≤ 1048576)
def OpenSpec.upto (s : _root_.Go.ChangeSpec) : _root_.Go.OpenSpec := { _root_.Go.OpenSpec.ofChange s with cond := some uptoSmall }

/-- 'tidewalllaw02.TideCosines', WHERE WHAT IT READS IS OF BULK AT MOST 1048576: true; the input reads as it did. -/
def tideCosinesUptoRow : OpenClaim := { program := "ytpbgkohljjmbhaa", sum := "c56cf9f267f682ad8a552246a8d58e0c16cb1df3ff232c1dee39db7fc63c3eb8", func := "tidewall/tidewalllaw02.TideCosines", spec := "tideCosines", unfollowed := true, recurses := true, named := ["math/bits.divideError", "math/bits.overflowError"], apart := false, narrowed := true }
def TideCosinesUptoSaid : Prop := tideCosinesUptoRow.holds Try.pinned (OpenSpec.upto tideCosinesSpec)

/-- 'tidewalllaw02.TideLevels', WHERE WHAT IT READS IS OF BULK AT MOST 1048576: true; the input reads as it did. -/
def tideLevelsUptoRow : OpenClaim := { program := "ytpbgkohljjmbhaa", sum := "c56cf9f267f682ad8a552246a8d58e0c16cb1df3ff232c1dee39db7fc63c3eb8", func := "tidewall/tidewalllaw02.TideLevels", spec := "tideLevels", unfollowed := true, recurses := true, named := ["math/bits.divideError", "math/bits.overflowError"], apart := false, narrowed := true }
def TideLevelsUptoSaid : Prop := tideLevelsUptoRow.holds Try.pinned (OpenSpec.upto tideLevelsSpec)

/-- 'tidewalllaw02.TideWindows', WHERE WHAT IT READS IS OF BULK AT MOST 1048576: true; the input reads as it did. -/
def tideWindowsUptoRow : OpenClaim := { program := "ytpbgkohljjmbhaa", sum := "c56cf9f267f682ad8a552246a8d58e0c16cb1df3ff232c1dee39db7fc63c3eb8", func := "tidewall/tidewalllaw02.TideWindows", spec := "tideWindows", unfollowed := true, recurses := true, named := ["math/bits.divideError", "math/bits.overflowError"], apart := false, narrowed := true }
def TideWindowsUptoSaid : Prop := tideWindowsUptoRow.holds Try.pinned (OpenSpec.upto tideWindowsSpec)

/-- 'tidewalllaw02.TideCircle', WHERE WHAT IT READS IS OF BULK AT MOST 1048576: true; the input reads as it did. -/
def tideCircleUptoRow : OpenClaim := { program := "ytpbgkohljjmbhaa", sum := "c56cf9f267f682ad8a552246a8d58e0c16cb1df3ff232c1dee39db7fc63c3eb8", func := "tidewall/tidewalllaw02.TideCircle", spec := "tideCircle", unfollowed := true, recurses := true, named := ["math/bits.divideError", "math/bits.overflowError"], apart := false, narrowed := true }
def TideCircleUptoSaid : Prop := tideCircleUptoRow.holds Try.pinned (OpenSpec.upto tideCircleSpec)

/-- 'tidewalllaw02.TideSpans', WHERE WHAT IT READS IS OF BULK AT MOST 1048576: true; the input reads as it did. -/
def tideSpansUptoRow : OpenClaim := { program := "ytpbgkohljjmbhaa", sum := "c56cf9f267f682ad8a552246a8d58e0c16cb1df3ff232c1dee39db7fc63c3eb8", func := "tidewall/tidewalllaw02.TideSpans", spec := "tideSpans", unfollowed := true, recurses := true, named := ["math/bits.divideError", "math/bits.overflowError"], apart := false, narrowed := true }
def TideSpansUptoSaid : Prop := tideSpansUptoRow.holds Try.pinned (OpenSpec.upto tideSpansSpec)

/-- 'tidewalllaw02.TideInside', WHERE WHAT IT READS IS OF BULK AT MOST 1048576: true; the input reads as it did. -/
def tideInsideUptoRow : OpenClaim := { program := "ytpbgkohljjmbhaa", sum := "c56cf9f267f682ad8a552246a8d58e0c16cb1df3ff232c1dee39db7fc63c3eb8", func := "tidewall/tidewalllaw02.TideInside", spec := "tideInside", unfollowed := true, recurses := true, named := ["math/bits.divideError", "math/bits.overflowError"], apart := false, narrowed := true }
def TideInsideUptoSaid : Prop := tideInsideUptoRow.holds Try.pinned (OpenSpec.upto tideInsideSpec)

/-- 'tidewalllaw02.TideLow', WHERE WHAT IT READS IS OF BULK AT MOST 1048576: true; the input reads as it did. -/
def tideLowUptoRow : OpenClaim := { program := "ytpbgkohljjmbhaa", sum := "c56cf9f267f682ad8a552246a8d58e0c16cb1df3ff232c1dee39db7fc63c3eb8", func := "tidewall/tidewalllaw02.TideLow", spec := "tideLow", unfollowed := true, recurses := true, named := ["math/bits.divideError", "math/bits.overflowError"], apart := false, narrowed := true }
def TideLowUptoSaid : Prop := tideLowUptoRow.holds Try.pinned (OpenSpec.upto tideLowSpec)

/-- 'tidewalllaw02.TideSums', WHERE WHAT IT READS IS OF BULK AT MOST 1048576: true; the input reads as it did. -/
def tideSumsUptoRow : OpenClaim := { program := "ytpbgkohljjmbhaa", sum := "c56cf9f267f682ad8a552246a8d58e0c16cb1df3ff232c1dee39db7fc63c3eb8", func := "tidewall/tidewalllaw02.TideSums", spec := "tideSums", unfollowed := true, recurses := true, named := ["math/bits.divideError", "math/bits.overflowError"], apart := false, narrowed := true }
def TideSumsUptoSaid : Prop := tideSumsUptoRow.holds Try.pinned (OpenSpec.upto tideSumsSpec)

end Rows
end Go.Proofs.Ytpbgkohljjmbhaa
