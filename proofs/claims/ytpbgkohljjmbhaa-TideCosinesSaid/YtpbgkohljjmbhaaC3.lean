/-
  The law on TideCosines: for every input it answers true, and its arguments read as they did. No condition.
-/
import Derived.Test.YtpbgkohljjmbhaaKC14
import Derived.Test.YtpbgkohljjmbhaaKL
import Derived.Test.YtpbgkohljjmbhaaRows
import Derived.JoinedOf
import Derived.JoinedAt
namespace Go.Proofs.Ytpbgkohljjmbhaa
open Go Go.ChangeShapes Go.WideShapes Go.ChangeAt Go.RowKit
set_option linter.unusedVariables false
set_option linter.unusedSimpArgs false

namespace Sep
def shs3 : List (Bool × List Sh) := [(true, [.int .i64, .int .i64])]
set_option maxRecDepth 100000 in
theorem pure3 (xs : List SV) (hx : ParsFit shs3 xs) : Pure PP 3 (SV.denL xs) (SV.bool true).den := by
  obtain ⟨a0, xs0, rfl, K0, hx0⟩ := parsFit_cons hx
  obtain ⟨_, rfl, H0⟩ := parFits_agg K0
  obtain rfl := parsFit_nil hx0
  obtain ⟨lo, _, rfl, hlo, H0⟩ := fitsL_int H0
  obtain ⟨hi, _, rfl, hhi, H0⟩ := fitsL_int H0
  obtain rfl := fitsL_nil H0
  exact s3 _ _ _ rfl AllP.nil
end Sep

set_option maxRecDepth 100000 in
theorem cosines_lifted (os : Os) (started : os.Started) (H : Type) (enc : TypeId × Value → H) (fresh handsOn again : Bool) :
    ReturnsInHanded {} Try.checked os 3 .any (Rows.tideCosinesSpec.pre6 enc Try.prog Try.f3 Rows.tideCosinesRow.domain false) (Rows.tideCosinesSpec.post enc Try.prog Try.f3 false fresh handsOn again) := by
  refine returnsInHanded_of_change (C := Try.checked) Sep.own started (by kernel_rfl) Try.func3
    (ChangeSpec.witness6 (enc := enc) (C := Try.checked) false ⟨#[], #[.agg #[.int .i64 0, .int .i64 0]], []⟩ 8 (by kernel_rfl) (by kernel_rfl) (by kernel_rfl) (by kernel_rfl)) ?_
  intro W base args ds gs before hval0 hW _ _
  have hval : ∀ (j : Nat) t v, Try.f3.params[j]? = some t → args[j]? = some v → Value.okWide Try.prog W .any base t v := hval0
  have hW' := hW
  obtain ⟨p, q, hA0, hV, rfl, hfz, hnd⟩ := hW
  have hA : DataW.TrodAll enc Try.prog W 0 (fun _ => true) true Try.f3.params.toList args.toList ds p := hA0
  rw [Try.params3] at hA hval
  obtain ⟨rfl, rfl⟩ := trodVars_none hV
  have hl := Sep.trodAll_len hA
  obtain ⟨xs, hx, hr⟩ := Sep.pars_rel (r := .any) (b0 := base) (ss := Sep.shs3) (by kernel_rfl) (fun j t v e1 e2 => hval j t v (by simpa using e1) (by simpa using e2)) hA
  rw [Array.toArray_toList] at hr
  obtain ⟨d0, rfl⟩ : ∃ d0, ds = [d0] := by match ds, hl with | [a0], _ => exact ⟨a0, rfl⟩
  refine (Sep.calls_true (Sep.pure3 xs hx) hr).mono fun e W' ⟨he, hs⟩ => ?_
  subst he
  exact ⟨_, rfl, Sep.post_true Sep.laidOut rfl (by kernel_rfl) (tb := 4) (by kernel_rfl) Try.underlying4 rfl hW' hs⟩

theorem cosines : Rows.TideCosinesSaid :=
  OpenClaim.holds_of_wide 3 Try.f3 rfl rfl rfl rfl rfl rfl rfl ⟨rfl, rfl, rfl, rfl, rfl⟩ rfl rfl rfl rfl rfl (by kernel_rfl) Try.func3 (by kernel_rfl)
    (of_decide_eq_true (by kernel_rfl)) (by unfold Func.isWrapper; first | (rw [if_pos (by decide +kernel)]; kernel_rfl) | (rw [if_neg (by decide +kernel)]; exact ⟨rfl, rfl⟩))
    (fun os started H enc _ => cosines_lifted os started H enc _ _ _)
#print axioms cosines
end Go.Proofs.Ytpbgkohljjmbhaa
