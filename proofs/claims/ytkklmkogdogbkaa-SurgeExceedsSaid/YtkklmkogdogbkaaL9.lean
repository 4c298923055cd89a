/-
  The law on Exceeds: for every input it answers true, and its arguments read as they did. No condition.
-/
import Derived.Test.YtkklmkogdogbkaaS10
import Derived.Test.YtkklmkogdogbkaaReads
import Derived.Test.YtkklmkogdogbkaaRows
import Derived.JoinedOf
import Derived.JoinedAt
namespace Go.Proofs.Ytkklmkogdogbkaa
open Go Go.ChangeShapes Go.WideShapes Go.ChangeAt Go.RowKit
set_option linter.unusedVariables false
set_option linter.unusedSimpArgs false

set_option maxRecDepth 100000 in
theorem exceeds_lifted (os : Os) (started : os.Started) (H : Type) (enc : TypeId × Value → H) (fresh handsOn again : Bool) :
    ReturnsInHanded {} Try.checked os 9 .any (Rows.surgeExceedsSpec.pre6 enc Try.prog Try.f9 Rows.surgeExceedsRow.domain false) (Rows.surgeExceedsSpec.post enc Try.prog Try.f9 false fresh handsOn again) := by
  refine returnsInHanded_of_change (C := Try.checked) Sep.own started (by kernel_rfl) Try.func9
    (ChangeSpec.witness6 (enc := enc) (C := Try.checked) false ⟨#[], #[.slice none 0 0, .int .i64 0], []⟩ 8 (by kernel_rfl) (by kernel_rfl) (by kernel_rfl) (by kernel_rfl)) ?_
  intro W base args ds gs before hval0 hW _ _
  have hval : ∀ (j : Nat) t v, Try.f9.params[j]? = some t → args[j]? = some v → Value.okWide Try.prog W .any base t v := hval0
  have hW' := hW
  obtain ⟨p, q, hA0, hV, rfl, hfz, hnd⟩ := hW
  have hA : DataW.TrodAll enc Try.prog W 0 (fun _ => true) true Try.f9.params.toList args.toList ds p := hA0
  rw [Try.params9] at hA hval
  obtain ⟨v0, v1, d0, d1, p0, p1, rfl, rfl, rfl, h0, h1⟩ := trodAll_two hA
  obtain ⟨rfl, rfl⟩ := trodVars_none hV
  obtain ⟨n, x, y, hn, r0⟩ := Sep.pairs_rel Try.underlying22 Try.underlying26 (by kernel_rfl) rfl rfl (by kernel_rfl) (by kernel_rfl) Try.underlying3 Try.underlying3 (hval 0 22 v0 rfl rfl) h0
  obtain ⟨z, hz, r1⟩ := Sep.int_rel Try.underlying3 (hval 1 3 v1 rfl rfl) h1
  have hp := Sep.s9 [.sl 2 n (fun k => [Sep.SI (x k), Sep.SI (y k)]), Sep.SI z] _ _ rfl (Sep.AllP.cons.2 ⟨fun k hk => ⟨rfl, rfl⟩, Sep.AllP.cons.2 ⟨hn, Sep.AllP.nil⟩⟩)
  refine (Sep.calls_true hp (Sep.relCs_cons r0 (Sep.relCs_cons r1 Sep.relCs_nil))).mono fun e W' ⟨he, hs⟩ => ?_
  subst he
  exact ⟨_, rfl, Sep.post_true Sep.laidOut rfl (by kernel_rfl) (tb := 4) (by kernel_rfl) Try.underlying4 rfl hW' hs⟩

theorem exceeds : Rows.SurgeExceedsSaid :=
  OpenClaim.holds_of_wide 9 Try.f9 rfl rfl rfl rfl rfl rfl rfl ⟨rfl, rfl, rfl, rfl, rfl⟩ rfl rfl rfl rfl rfl (by kernel_rfl) Try.func9 (by kernel_rfl)
    (of_decide_eq_true (by kernel_rfl)) (by unfold Func.isWrapper; first | (rw [if_pos (by decide +kernel)]; kernel_rfl) | (rw [if_neg (by decide +kernel)]; exact ⟨rfl, rfl⟩))
    (fun os started H enc _ => exceeds_lifted os started H enc _ _ _)
#print axioms exceeds
end Go.Proofs.Ytkklmkogdogbkaa
