/-
  No cell of these rows narrows 'for every input' (looked for: loops, veiled, ifaces, maps, wideKeys, modest, calm, conditions, laid).
  DERIVED. THE GIVEN ROWS OF THIS SEAT. 12 by the template 'for every input the law returns true; each argument reads behind the call as it read before'; 0 by the template 'total and deterministic' (their statements: YtkklmkogdogbkaaTotals.lean).
  GIVEN WITH THE SEED: the statements are not yours to turn. If you find one false, say at which input.
  Laid BY PROGRAM, IN A SANDBOX (cutbox-rows.mjs): the forced cells as the released guide's own fill.sh prints them over the translation ab786914be164ce4… (all of the seat's roots in one cut). By AI agents, Wed Nov 11 2026. No macro, syntax, notation, axiom, sorry.
-/
import Derived.Test.YtkklmkogdogbkaaChecked
import GoSem.Claim
import GoSem.ClaimJoined
import GoSem.ClaimMapViews
import Derived.JoinedTies
import Derived.KernelRfl
namespace Go.Proofs.Ytkklmkogdogbkaa
/- THE CELL 'sum', in the pinned program and in every row, IS THE sha256 OF THE DUMP (.gsa) THAT YtkklmkogdogbkaaProg.lean LOADS. Nothing in Lean hashes anything: it is a label: what it is worth is what the hold of that sum in a sandbox is worth. -/
noncomputable def Try.pinned : Pinned := { name := "ytkklmkogdogbkaa", sum := "ab786914be164ce442231b4039d0bb88eb69779f0dd8081a5854ce5c63f26eec", checked := Try.checked }
namespace Rows
def none {H : Type} : Left H := { results := [], args := [] }

/-- 'tidewalllaw03.SurgeEye': WHATEVER THE INPUT: true; the input reads as it did. -/
def surgeEyeSpec : ChangeSpec := { name := "surgeEye", fn := fun _ => fun
  | [d1, d2, d3, d4] => { results := [.lit (.bool true)], args := [d1, d2, d3, d4] }
  | _ => none }
def surgeEyeRow : OpenClaim := { program := "ytkklmkogdogbkaa", sum := "ab786914be164ce442231b4039d0bb88eb69779f0dd8081a5854ce5c63f26eec", func := "tidewall/tidewalllaw03.SurgeEye", spec := "surgeEye", unfollowed := true, recurses := true, apart := false }
def SurgeEyeSaid : Prop := surgeEyeRow.holds Try.pinned (OpenSpec.ofChange surgeEyeSpec)

/-- ITS FALSE NEIGHBOUR: 'it returns false'. Refute it at one input. -/
def surgeEyeWrong : ChangeSpec := { name := "surgeEye", fn := fun _ => fun
  | [d1, d2, d3, d4] => { results := [.lit (.bool false)], args := [d1, d2, d3, d4] }
  | _ => none }
def SurgeEyeWrongFalsely : Prop := surgeEyeRow.holds Try.pinned (OpenSpec.ofChange surgeEyeWrong)

/-- 'tidewalllaw03.SurgeStorms': WHATEVER THE INPUT: true; the input reads as it did. -/
def surgeStormsSpec : ChangeSpec := { name := "surgeStorms", fn := fun _ => fun
  | [d1, d2, d3, d4, d5] => { results := [.lit (.bool true)], args := [d1, d2, d3, d4, d5] }
  | _ => none }
def surgeStormsRow : OpenClaim := { program := "ytkklmkogdogbkaa", sum := "ab786914be164ce442231b4039d0bb88eb69779f0dd8081a5854ce5c63f26eec", func := "tidewall/tidewalllaw03.SurgeStorms", spec := "surgeStorms", unfollowed := true, recurses := true, apart := false }
def SurgeStormsSaid : Prop := surgeStormsRow.holds Try.pinned (OpenSpec.ofChange surgeStormsSpec)

/-- ITS FALSE NEIGHBOUR: 'it returns false'. Refute it at one input. -/
def surgeStormsWrong : ChangeSpec := { name := "surgeStorms", fn := fun _ => fun
  | [d1, d2, d3, d4, d5] => { results := [.lit (.bool false)], args := [d1, d2, d3, d4, d5] }
  | _ => none }
def SurgeStormsWrongFalsely : Prop := surgeStormsRow.holds Try.pinned (OpenSpec.ofChange surgeStormsWrong)

/-- 'tidewalllaw03.SurgeTurns': WHATEVER THE INPUT: true; the input reads as it did. -/
def surgeTurnsSpec : ChangeSpec := { name := "surgeTurns", fn := fun _ => fun
  | [d1, d2, d3, d4] => { results := [.lit (.bool true)], args := [d1, d2, d3, d4] }
  | _ => none }
def surgeTurnsRow : OpenClaim := { program := "ytkklmkogdogbkaa", sum := "ab786914be164ce442231b4039d0bb88eb69779f0dd8081a5854ce5c63f26eec", func := "tidewall/tidewalllaw03.SurgeTurns", spec := "surgeTurns", unfollowed := true, recurses := true, apart := false }
def SurgeTurnsSaid : Prop := surgeTurnsRow.holds Try.pinned (OpenSpec.ofChange surgeTurnsSpec)

/-- ITS FALSE NEIGHBOUR: 'it returns false'. Refute it at one input. -/
def surgeTurnsWrong : ChangeSpec := { name := "surgeTurns", fn := fun _ => fun
  | [d1, d2, d3, d4] => { results := [.lit (.bool false)], args := [d1, d2, d3, d4] }
  | _ => none }
def SurgeTurnsWrongFalsely : Prop := surgeTurnsRow.holds Try.pinned (OpenSpec.ofChange surgeTurnsWrong)

/-- 'tidewalllaw03.SurgeSetups': WHATEVER THE INPUT: true; the input reads as it did. -/
def surgeSetupsSpec : ChangeSpec := { name := "surgeSetups", fn := fun _ => fun
  | [d1, d2] => { results := [.lit (.bool true)], args := [d1, d2] }
  | _ => none }
def surgeSetupsRow : OpenClaim := { program := "ytkklmkogdogbkaa", sum := "ab786914be164ce442231b4039d0bb88eb69779f0dd8081a5854ce5c63f26eec", func := "tidewall/tidewalllaw03.SurgeSetups", spec := "surgeSetups", unfollowed := true, recurses := true, apart := false }
def SurgeSetupsSaid : Prop := surgeSetupsRow.holds Try.pinned (OpenSpec.ofChange surgeSetupsSpec)

/-- ITS FALSE NEIGHBOUR: 'it returns false'. Refute it at one input. -/
def surgeSetupsWrong : ChangeSpec := { name := "surgeSetups", fn := fun _ => fun
  | [d1, d2] => { results := [.lit (.bool false)], args := [d1, d2] }
  | _ => none }
def SurgeSetupsWrongFalsely : Prop := surgeSetupsRow.holds Try.pinned (OpenSpec.ofChange surgeSetupsWrong)

/-- 'tidewalllaw03.SurgeInside': WHATEVER THE INPUT: true; the input reads as it did. -/
def surgeInsideSpec : ChangeSpec := { name := "surgeInside", fn := fun _ => fun
  | [d1, d2, d3, d4, d5] => { results := [.lit (.bool true)], args := [d1, d2, d3, d4, d5] }
  | _ => none }
def surgeInsideRow : OpenClaim := { program := "ytkklmkogdogbkaa", sum := "ab786914be164ce442231b4039d0bb88eb69779f0dd8081a5854ce5c63f26eec", func := "tidewall/tidewalllaw03.SurgeInside", spec := "surgeInside", unfollowed := true, recurses := true, apart := false }
def SurgeInsideSaid : Prop := surgeInsideRow.holds Try.pinned (OpenSpec.ofChange surgeInsideSpec)

/-- ITS FALSE NEIGHBOUR: 'it returns false'. Refute it at one input. -/
def surgeInsideWrong : ChangeSpec := { name := "surgeInside", fn := fun _ => fun
  | [d1, d2, d3, d4, d5] => { results := [.lit (.bool false)], args := [d1, d2, d3, d4, d5] }
  | _ => none }
def SurgeInsideWrongFalsely : Prop := surgeInsideRow.holds Try.pinned (OpenSpec.ofChange surgeInsideWrong)

/-- 'tidewalllaw03.SurgeRuns': WHATEVER THE INPUT: true; the input reads as it did. -/
def surgeRunsSpec : ChangeSpec := { name := "surgeRuns", fn := fun _ => fun
  | [d1, d2, d3] => { results := [.lit (.bool true)], args := [d1, d2, d3] }
  | _ => none }
def surgeRunsRow : OpenClaim := { program := "ytkklmkogdogbkaa", sum := "ab786914be164ce442231b4039d0bb88eb69779f0dd8081a5854ce5c63f26eec", func := "tidewall/tidewalllaw03.SurgeRuns", spec := "surgeRuns", unfollowed := true, recurses := true, apart := false }
def SurgeRunsSaid : Prop := surgeRunsRow.holds Try.pinned (OpenSpec.ofChange surgeRunsSpec)

/-- ITS FALSE NEIGHBOUR: 'it returns false'. Refute it at one input. -/
def surgeRunsWrong : ChangeSpec := { name := "surgeRuns", fn := fun _ => fun
  | [d1, d2, d3] => { results := [.lit (.bool false)], args := [d1, d2, d3] }
  | _ => none }
def SurgeRunsWrongFalsely : Prop := surgeRunsRow.holds Try.pinned (OpenSpec.ofChange surgeRunsWrong)

/-- 'tidewalllaw03.SurgeExceeds': WHATEVER THE INPUT: true; the input reads as it did. -/
def surgeExceedsSpec : ChangeSpec := { name := "surgeExceeds", fn := fun _ => fun
  | [d1, d2] => { results := [.lit (.bool true)], args := [d1, d2] }
  | _ => none }
def surgeExceedsRow : OpenClaim := { program := "ytkklmkogdogbkaa", sum := "ab786914be164ce442231b4039d0bb88eb69779f0dd8081a5854ce5c63f26eec", func := "tidewall/tidewalllaw03.SurgeExceeds", spec := "surgeExceeds", unfollowed := true, recurses := true, apart := false }
def SurgeExceedsSaid : Prop := surgeExceedsRow.holds Try.pinned (OpenSpec.ofChange surgeExceedsSpec)

/-- ITS FALSE NEIGHBOUR: 'it returns false'. Refute it at one input. -/
def surgeExceedsWrong : ChangeSpec := { name := "surgeExceeds", fn := fun _ => fun
  | [d1, d2] => { results := [.lit (.bool false)], args := [d1, d2] }
  | _ => none }
def SurgeExceedsWrongFalsely : Prop := surgeExceedsRow.holds Try.pinned (OpenSpec.ofChange surgeExceedsWrong)

/-- 'tidewalllaw03.SurgeFetches': WHATEVER THE INPUT: true; the input reads as it did. -/
def surgeFetchesSpec : ChangeSpec := { name := "surgeFetches", fn := fun _ => fun
  | [d1, d2] => { results := [.lit (.bool true)], args := [d1, d2] }
  | _ => none }
def surgeFetchesRow : OpenClaim := { program := "ytkklmkogdogbkaa", sum := "ab786914be164ce442231b4039d0bb88eb69779f0dd8081a5854ce5c63f26eec", func := "tidewall/tidewalllaw03.SurgeFetches", spec := "surgeFetches", unfollowed := true, recurses := true, apart := false }
def SurgeFetchesSaid : Prop := surgeFetchesRow.holds Try.pinned (OpenSpec.ofChange surgeFetchesSpec)

/-- ITS FALSE NEIGHBOUR: 'it returns false'. Refute it at one input. -/
def surgeFetchesWrong : ChangeSpec := { name := "surgeFetches", fn := fun _ => fun
  | [d1, d2] => { results := [.lit (.bool false)], args := [d1, d2] }
  | _ => none }
def SurgeFetchesWrongFalsely : Prop := surgeFetchesRow.holds Try.pinned (OpenSpec.ofChange surgeFetchesWrong)

/-- 'tidewalllaw03.SurgePoints': WHATEVER THE INPUT: true; the input reads as it did. -/
def surgePointsSpec : ChangeSpec := { name := "surgePoints", fn := fun _ => fun
  | [d1, d2, d3, d4] => { results := [.lit (.bool true)], args := [d1, d2, d3, d4] }
  | _ => none }
def surgePointsRow : OpenClaim := { program := "ytkklmkogdogbkaa", sum := "ab786914be164ce442231b4039d0bb88eb69779f0dd8081a5854ce5c63f26eec", func := "tidewall/tidewalllaw03.SurgePoints", spec := "surgePoints", unfollowed := true, recurses := true, apart := false }
def SurgePointsSaid : Prop := surgePointsRow.holds Try.pinned (OpenSpec.ofChange surgePointsSpec)

/-- ITS FALSE NEIGHBOUR: 'it returns false'. Refute it at one input. -/
def surgePointsWrong : ChangeSpec := { name := "surgePoints", fn := fun _ => fun
  | [d1, d2, d3, d4] => { results := [.lit (.bool false)], args := [d1, d2, d3, d4] }
  | _ => none }
def SurgePointsWrongFalsely : Prop := surgePointsRow.holds Try.pinned (OpenSpec.ofChange surgePointsWrong)

/-- 'tidewalllaw03.SurgeFields': WHATEVER THE INPUT: true; the input reads as it did. -/
def surgeFieldsSpec : ChangeSpec := { name := "surgeFields", fn := fun _ => fun
  | [d1, d2, d3] => { results := [.lit (.bool true)], args := [d1, d2, d3] }
  | _ => none }
def surgeFieldsRow : OpenClaim := { program := "ytkklmkogdogbkaa", sum := "ab786914be164ce442231b4039d0bb88eb69779f0dd8081a5854ce5c63f26eec", func := "tidewall/tidewalllaw03.SurgeFields", spec := "surgeFields", unfollowed := true, recurses := true, apart := false }
def SurgeFieldsSaid : Prop := surgeFieldsRow.holds Try.pinned (OpenSpec.ofChange surgeFieldsSpec)

/-- ITS FALSE NEIGHBOUR: 'it returns false'. Refute it at one input. -/
def surgeFieldsWrong : ChangeSpec := { name := "surgeFields", fn := fun _ => fun
  | [d1, d2, d3] => { results := [.lit (.bool false)], args := [d1, d2, d3] }
  | _ => none }
def SurgeFieldsWrongFalsely : Prop := surgeFieldsRow.holds Try.pinned (OpenSpec.ofChange surgeFieldsWrong)

/-- 'tidewalllaw03.SurgeSteps': WHATEVER THE INPUT: true; the input reads as it did. -/
def surgeStepsSpec : ChangeSpec := { name := "surgeSteps", fn := fun _ => fun
  | [d1, d2, d3, d4] => { results := [.lit (.bool true)], args := [d1, d2, d3, d4] }
  | _ => none }
def surgeStepsRow : OpenClaim := { program := "ytkklmkogdogbkaa", sum := "ab786914be164ce442231b4039d0bb88eb69779f0dd8081a5854ce5c63f26eec", func := "tidewall/tidewalllaw03.SurgeSteps", spec := "surgeSteps", unfollowed := true, recurses := true, apart := false }
def SurgeStepsSaid : Prop := surgeStepsRow.holds Try.pinned (OpenSpec.ofChange surgeStepsSpec)

/-- ITS FALSE NEIGHBOUR: 'it returns false'. Refute it at one input. -/
def surgeStepsWrong : ChangeSpec := { name := "surgeSteps", fn := fun _ => fun
  | [d1, d2, d3, d4] => { results := [.lit (.bool false)], args := [d1, d2, d3, d4] }
  | _ => none }
def SurgeStepsWrongFalsely : Prop := surgeStepsRow.holds Try.pinned (OpenSpec.ofChange surgeStepsWrong)

/-- 'tidewalllaw03.SurgeKnown': WHATEVER THE INPUT: true; the input reads as it did. -/
def surgeKnownSpec : ChangeSpec := { name := "surgeKnown", fn := fun _ => fun
  | [] => { results := [.lit (.bool true)], args := [] }
  | _ => none }
def surgeKnownRow : OpenClaim := { program := "ytkklmkogdogbkaa", sum := "ab786914be164ce442231b4039d0bb88eb69779f0dd8081a5854ce5c63f26eec", func := "tidewall/tidewalllaw03.SurgeKnown", spec := "surgeKnown", unfollowed := true, recurses := true, apart := false }
def SurgeKnownSaid : Prop := surgeKnownRow.holds Try.pinned (OpenSpec.ofChange surgeKnownSpec)

/-- ITS FALSE NEIGHBOUR: 'it returns false'. Refute it at one input. -/
def surgeKnownWrong : ChangeSpec := { name := "surgeKnown", fn := fun _ => fun
  | [] => { results := [.lit (.bool false)], args := [] }
  | _ => none }
def SurgeKnownWrongFalsely : Prop := surgeKnownRow.holds Try.pinned (OpenSpec.ofChange surgeKnownWrong)

/- THE SECOND FORM. 'bulk': how many values and letters a reading holds, each counted each time it is reached (what is shared counts as often as it is met; a slice's spare places count too). A statement '..UptoSaid' is the law's where the arguments, and the package variables that the reading takes, are together of bulk at most 1048576: NARROWER than '..Said'. Prove '..Said' where nothing that the law and all that it calls make is longer than what came in: it says more and counts as full. Else prove '..UptoSaid'. A law counts once. -/
mutual
def uptoBulk {H : Type} : DataW H → Nat
  | .lit (.string bytes) => bytes.length + 1
  | .lit _ => 1
  | .nil => 1
  | .ptr d => uptoBulk d + 1
  | .slice elems spare => uptoBulkAll elems + uptoBulkAll spare + 1
  | .agg parts => uptoBulkAll parts + 1
  | .iface _ d => uptoBulk d + 1
  | .map entries => uptoBulkEntries entries + 1
  | .held _ => 1
def uptoBulkAll {H : Type} : List (DataW H) → Nat
  | [] => 0
  | d :: r => uptoBulk d + uptoBulkAll r
def uptoBulkEntries {H : Type} : List (Lit × DataW H) → Nat
  | [] => 0
  | x :: r => uptoBulkEntry x + uptoBulkEntries r
def uptoBulkEntry {H : Type} : Lit × DataW H → Nat
  | (.string bytes, d) => bytes.length + uptoBulk d + 1
  | (_, d) => uptoBulk d + 1
 end
def uptoSmall : (H : Type) → List (DataW H) → Bool := fun _ ds => decide (uptoBulkAll ds ≤ 1048576)
def OpenSpec.upto (s : _root_.Go.ChangeSpec) : _root_.Go.OpenSpec := { _root_.Go.OpenSpec.ofChange s with cond := some uptoSmall }

/-- 'tidewalllaw03.SurgeEye', WHERE WHAT IT READS IS OF BULK AT MOST 1048576: true; the input reads as it did. -/
def surgeEyeUptoRow : OpenClaim := { program := "ytkklmkogdogbkaa", sum := "ab786914be164ce442231b4039d0bb88eb69779f0dd8081a5854ce5c63f26eec", func := "tidewall/tidewalllaw03.SurgeEye", spec := "surgeEye", unfollowed := true, recurses := true, apart := false, narrowed := true }
def SurgeEyeUptoSaid : Prop := surgeEyeUptoRow.holds Try.pinned (OpenSpec.upto surgeEyeSpec)

/-- 'tidewalllaw03.SurgeStorms', WHERE WHAT IT READS IS OF BULK AT MOST 1048576: true; the input reads as it did. -/
def surgeStormsUptoRow : OpenClaim := { program := "ytkklmkogdogbkaa", sum := "ab786914be164ce442231b4039d0bb88eb69779f0dd8081a5854ce5c63f26eec", func := "tidewall/tidewalllaw03.SurgeStorms", spec := "surgeStorms", unfollowed := true, recurses := true, apart := false, narrowed := true }
def SurgeStormsUptoSaid : Prop := surgeStormsUptoRow.holds Try.pinned (OpenSpec.upto surgeStormsSpec)

/-- 'tidewalllaw03.SurgeTurns', WHERE WHAT IT READS IS OF BULK AT MOST 1048576: true; the input reads as it did. -/
def surgeTurnsUptoRow : OpenClaim := { program := "ytkklmkogdogbkaa", sum := "ab786914be164ce442231b4039d0bb88eb69779f0dd8081a5854ce5c63f26eec", func := "tidewall/tidewalllaw03.SurgeTurns", spec := "surgeTurns", unfollowed := true, recurses := true, apart := false, narrowed := true }
def SurgeTurnsUptoSaid : Prop := surgeTurnsUptoRow.holds Try.pinned (OpenSpec.upto surgeTurnsSpec)

/-- 'tidewalllaw03.SurgeSetups', WHERE WHAT IT READS IS OF BULK AT MOST 1048576: true; the input reads as it did. -/
def surgeSetupsUptoRow : OpenClaim := { program := "ytkklmkogdogbkaa", sum := "ab786914be164ce442231b4039d0bb88eb69779f0dd8081a5854ce5c63f26eec", func := "tidewall/tidewalllaw03.SurgeSetups", spec := "surgeSetups", unfollowed := true, recurses := true, apart := false, narrowed := true }
def SurgeSetupsUptoSaid : Prop := surgeSetupsUptoRow.holds Try.pinned (OpenSpec.upto surgeSetupsSpec)

/-- 'tidewalllaw03.SurgeInside', WHERE WHAT IT READS IS OF BULK AT MOST 1048576: true; the input reads as it did. -/
def surgeInsideUptoRow : OpenClaim := { program := "ytkklmkogdogbkaa", sum := "ab786914be164ce442231b4039d0bb88eb69779f0dd8081a5854ce5c63f26eec", func := "tidewall/tidewalllaw03.SurgeInside", spec := "surgeInside", unfollowed := true, recurses := true, apart := false, narrowed := true }
def SurgeInsideUptoSaid : Prop := surgeInsideUptoRow.holds Try.pinned (OpenSpec.upto surgeInsideSpec)

/-- 'tidewalllaw03.SurgeRuns', WHERE WHAT IT READS IS OF BULK AT MOST 1048576: true; the input reads as it did. -/
def surgeRunsUptoRow : OpenClaim := { program := "ytkklmkogdogbkaa", sum := "ab786914be164ce442231b4039d0bb88eb69779f0dd8081a5854ce5c63f26eec", func := "tidewall/tidewalllaw03.SurgeRuns", spec := "surgeRuns", unfollowed := true, recurses := true, apart := false, narrowed := true }
def SurgeRunsUptoSaid : Prop := surgeRunsUptoRow.holds Try.pinned (OpenSpec.upto surgeRunsSpec)

/-- 'tidewalllaw03.SurgeExceeds', WHERE WHAT IT READS IS OF BULK AT MOST 1048576: true; the input reads as it did. -/
def surgeExceedsUptoRow : OpenClaim := { program := "ytkklmkogdogbkaa", sum := "ab786914be164ce442231b4039d0bb88eb69779f0dd8081a5854ce5c63f26eec", func := "tidewall/tidewalllaw03.SurgeExceeds", spec := "surgeExceeds", unfollowed := true, recurses := true, apart := false, narrowed := true }
def SurgeExceedsUptoSaid : Prop := surgeExceedsUptoRow.holds Try.pinned (OpenSpec.upto surgeExceedsSpec)

/-- 'tidewalllaw03.SurgeFetches', WHERE WHAT IT READS IS OF BULK AT MOST 1048576: true; the input reads as it did. -/
def surgeFetchesUptoRow : OpenClaim := { program := "ytkklmkogdogbkaa", sum := "ab786914be164ce442231b4039d0bb88eb69779f0dd8081a5854ce5c63f26eec", func := "tidewall/tidewalllaw03.SurgeFetches", spec := "surgeFetches", unfollowed := true, recurses := true, apart := false, narrowed := true }
def SurgeFetchesUptoSaid : Prop := surgeFetchesUptoRow.holds Try.pinned (OpenSpec.upto surgeFetchesSpec)

/-- 'tidewalllaw03.SurgePoints', WHERE WHAT IT READS IS OF BULK AT MOST 1048576: true; the input reads as it did. -/
def surgePointsUptoRow : OpenClaim := { program := "ytkklmkogdogbkaa", sum := "ab786914be164ce442231b4039d0bb88eb69779f0dd8081a5854ce5c63f26eec", func := "tidewall/tidewalllaw03.SurgePoints", spec := "surgePoints", unfollowed := true, recurses := true, apart := false, narrowed := true }
def SurgePointsUptoSaid : Prop := surgePointsUptoRow.holds Try.pinned (OpenSpec.upto surgePointsSpec)

/-- 'tidewalllaw03.SurgeFields', WHERE WHAT IT READS IS OF BULK AT MOST 1048576: true; the input reads as it did. -/
def surgeFieldsUptoRow : OpenClaim := { program := "ytkklmkogdogbkaa", sum := "ab786914be164ce442231b4039d0bb88eb69779f0dd8081a5854ce5c63f26eec", func := "tidewall/tidewalllaw03.SurgeFields", spec := "surgeFields", unfollowed := true, recurses := true, apart := false, narrowed := true }
def SurgeFieldsUptoSaid : Prop := surgeFieldsUptoRow.holds Try.pinned (OpenSpec.upto surgeFieldsSpec)

/-- 'tidewalllaw03.SurgeSteps', WHERE WHAT IT READS IS OF BULK AT MOST 1048576: true; the input reads as it did. -/
def surgeStepsUptoRow : OpenClaim := { program := "ytkklmkogdogbkaa", sum := "ab786914be164ce442231b4039d0bb88eb69779f0dd8081a5854ce5c63f26eec", func := "tidewall/tidewalllaw03.SurgeSteps", spec := "surgeSteps", unfollowed := true, recurses := true, apart := false, narrowed := true }
def SurgeStepsUptoSaid : Prop := surgeStepsUptoRow.holds Try.pinned (OpenSpec.upto surgeStepsSpec)

/-- 'tidewalllaw03.SurgeKnown', WHERE WHAT IT READS IS OF BULK AT MOST 1048576: true; the input reads as it did. -/
def surgeKnownUptoRow : OpenClaim := { program := "ytkklmkogdogbkaa", sum := "ab786914be164ce442231b4039d0bb88eb69779f0dd8081a5854ce5c63f26eec", func := "tidewall/tidewalllaw03.SurgeKnown", spec := "surgeKnown", unfollowed := true, recurses := true, apart := false, narrowed := true }
def SurgeKnownUptoSaid : Prop := surgeKnownUptoRow.holds Try.pinned (OpenSpec.upto surgeKnownSpec)

end Rows
end Go.Proofs.Ytkklmkogdogbkaa
