/-
  The law on TideCircle: for every input it answers true, and its arguments read as they did. No condition.
-/
import Derived.Test.YtpbgkohljjmbhaaKC17
import Derived.Test.YtpbgkohljjmbhaaKL
import Derived.Test.YtpbgkohljjmbhaaRows
import Derived.JoinedOf
import Derived.JoinedAt
namespace Go.Proofs.Ytpbgkohljjmbhaa
open Go Go.ChangeShapes Go.WideShapes Go.ChangeAt Go.RowKit
set_option linter.unusedVariables false
set_option linter.unusedSimpArgs false

namespace Sep
def shs6 : List (Bool × List Sh) := [(false, [.int .i32]), (false, [.int .i32])]
set_option maxRecDepth 100000 in
theorem pure6 (xs : List SV) (hx : ParsFit shs6 xs) : Pure PP 6 (SV.denL xs) (SV.bool true).den := by
  obtain ⟨a0, xs0, rfl, K0, hx0⟩ := parsFit_cons hx
  obtain ⟨L0, E0, H0⟩ := parFits_one K0
  obtain ⟨a1, xs1, rfl, K1, hx1⟩ := parsFit_cons hx0
  obtain ⟨L1, E1, H1⟩ := parFits_one K1
  obtain rfl := parsFit_nil hx1
  obtain ⟨a, _, rfl, ha, ha', H0⟩ := fitsL_ik H0
  obtain rfl := fitsL_nil H0
  cases E0
  obtain ⟨b, _, rfl, hb, hb', H1⟩ := fitsL_ik H1
  obtain rfl := fitsL_nil H1
  cases E1
  have e1 : IntKind.i32.min = -2147483648 := rfl
  have e2 : IntKind.i32.max = 2147483647 := rfl
  rw [e1] at ha hb
  rw [e2] at ha' hb'
  exact s6 _ _ _ rfl (AllP.cons.2 ⟨ha, AllP.cons.2 ⟨ha', AllP.cons.2 ⟨hb, AllP.cons.2 ⟨hb', AllP.nil⟩⟩⟩⟩)
end Sep

set_option maxRecDepth 100000 in
theorem circle_lifted (os : Os) (started : os.Started) (H : Type) (enc : TypeId × Value → H) (fresh handsOn again : Bool) :
    ReturnsInHanded {} Try.checked os 6 .any (Rows.tideCircleSpec.pre6 enc Try.prog Try.f6 Rows.tideCircleRow.domain false) (Rows.tideCircleSpec.post enc Try.prog Try.f6 false fresh handsOn again) := by
  refine returnsInHanded_of_change (C := Try.checked) Sep.own started (by kernel_rfl) Try.func6
    (ChangeSpec.witness6 (enc := enc) (C := Try.checked) false ⟨#[], #[.int .i32 0, .int .i32 0], []⟩ 8 (by kernel_rfl) (by kernel_rfl) (by kernel_rfl) (by kernel_rfl)) ?_
  intro W base args ds gs before hval0 hW _ _
  have hval : ∀ (j : Nat) t v, Try.f6.params[j]? = some t → args[j]? = some v → Value.okWide Try.prog W .any base t v := hval0
  have hW' := hW
  obtain ⟨p, q, hA0, hV, rfl, hfz, hnd⟩ := hW
  have hA : DataW.TrodAll enc Try.prog W 0 (fun _ => true) true Try.f6.params.toList args.toList ds p := hA0
  rw [Try.params6] at hA hval
  obtain ⟨rfl, rfl⟩ := trodVars_none hV
  have hl := Sep.trodAll_len hA
  obtain ⟨xs, hx, hr⟩ := Sep.pars_rel (r := .any) (b0 := base) (ss := Sep.shs6) (by kernel_rfl) (fun j t v e1 e2 => hval j t v (by simpa using e1) (by simpa using e2)) hA
  rw [Array.toArray_toList] at hr
  obtain ⟨d0, d1, rfl⟩ : ∃ d0, ∃ d1, ds = [d0, d1] := by match ds, hl with | [a0, a1], _ => exact ⟨a0, a1, rfl⟩
  refine (Sep.calls_true (Sep.pure6 xs hx) hr).mono fun e W' ⟨he, hs⟩ => ?_
  subst he
  exact ⟨_, rfl, Sep.post_true Sep.laidOut rfl (by kernel_rfl) (tb := 4) (by kernel_rfl) Try.underlying4 rfl hW' hs⟩

theorem circle : Rows.TideCircleSaid :=
  OpenClaim.holds_of_wide 6 Try.f6 rfl rfl rfl rfl rfl rfl rfl ⟨rfl, rfl, rfl, rfl, rfl⟩ rfl rfl rfl rfl rfl (by kernel_rfl) Try.func6 (by kernel_rfl)
    (of_decide_eq_true (by kernel_rfl)) (by unfold Func.isWrapper; first | (rw [if_pos (by decide +kernel)]; kernel_rfl) | (rw [if_neg (by decide +kernel)]; exact ⟨rfl, rfl⟩))
    (fun os started H enc _ => circle_lifted os started H enc _ _ _)
#print axioms circle
end Go.Proofs.Ytpbgkohljjmbhaa
