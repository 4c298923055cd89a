/-
  The law on TideSpans: for every input it answers true, and its arguments read as they did. No condition.
-/
import Derived.Test.YtpbgkohljjmbhaaKT15
import Derived.Test.YtpbgkohljjmbhaaKL
import Derived.Test.YtpbgkohljjmbhaaRows
import Derived.JoinedOf
import Derived.JoinedAt
namespace Go.Proofs.Ytpbgkohljjmbhaa
open Go Go.ChangeShapes Go.WideShapes Go.ChangeAt Go.RowKit
set_option linter.unusedVariables false
set_option linter.unusedSimpArgs false

namespace Sep
def shs7 : List (Bool × List Sh) := [(false, [.int .i32]), (false, [.int .u16]), (false, [.int .u16]), (false, [.int .u16])]
set_option maxRecDepth 100000 in
theorem pure7 (xs : List SV) (hx : ParsFit shs7 xs) : Pure PP 7 (SV.denL xs) (SV.bool true).den := by
  obtain ⟨a0, xs0, rfl, K0, hx0⟩ := parsFit_cons hx
  obtain ⟨L0, E0, H0⟩ := parFits_one K0
  obtain ⟨a1, xs1, rfl, K1, hx1⟩ := parsFit_cons hx0
  obtain ⟨L1, E1, H1⟩ := parFits_one K1
  obtain ⟨a2, xs2, rfl, K2, hx2⟩ := parsFit_cons hx1
  obtain ⟨L2, E2, H2⟩ := parFits_one K2
  obtain ⟨a3, xs3, rfl, K3, hx3⟩ := parsFit_cons hx2
  obtain ⟨L3, E3, H3⟩ := parFits_one K3
  obtain rfl := parsFit_nil hx3
  obtain ⟨a, _, rfl, ha, ha', H0⟩ := fitsL_ik H0
  obtain rfl := fitsL_nil H0
  cases E0
  obtain ⟨b, _, rfl, hb, hb', H1⟩ := fitsL_ik H1
  obtain rfl := fitsL_nil H1
  cases E1
  obtain ⟨c, _, rfl, hc, hc', H2⟩ := fitsL_ik H2
  obtain rfl := fitsL_nil H2
  cases E2
  obtain ⟨d, _, rfl, hd, hd', H3⟩ := fitsL_ik H3
  obtain rfl := fitsL_nil H3
  cases E3
  have e1 : IntKind.i32.min = -2147483648 := rfl
  have e2 : IntKind.i32.max = 2147483647 := rfl
  have e3 : IntKind.u16.min = 0 := rfl
  have e4 : IntKind.u16.max = 65535 := rfl
  rw [e1] at ha
  rw [e2] at ha'
  rw [e3] at hb hc hd
  rw [e4] at hb' hc' hd'
  exact s7 _ _ _ rfl (AllP.cons.2 ⟨ha, AllP.cons.2 ⟨ha', AllP.cons.2 ⟨hb, AllP.cons.2 ⟨hb', AllP.cons.2 ⟨hc, AllP.cons.2 ⟨hc', AllP.cons.2 ⟨hd, AllP.cons.2 ⟨hd', AllP.nil⟩⟩⟩⟩⟩⟩⟩⟩)
end Sep

set_option maxRecDepth 100000 in
theorem spans_lifted (os : Os) (started : os.Started) (H : Type) (enc : TypeId × Value → H) (fresh handsOn again : Bool) :
    ReturnsInHanded {} Try.checked os 7 .any (Rows.tideSpansSpec.pre6 enc Try.prog Try.f7 Rows.tideSpansRow.domain false) (Rows.tideSpansSpec.post enc Try.prog Try.f7 false fresh handsOn again) := by
  refine returnsInHanded_of_change (C := Try.checked) Sep.own started (by kernel_rfl) Try.func7
    (ChangeSpec.witness6 (enc := enc) (C := Try.checked) false ⟨#[], #[.int .i32 0, .int .u16 0, .int .u16 0, .int .u16 0], []⟩ 8 (by kernel_rfl) (by kernel_rfl) (by kernel_rfl) (by kernel_rfl)) ?_
  intro W base args ds gs before hval0 hW _ _
  have hval : ∀ (j : Nat) t v, Try.f7.params[j]? = some t → args[j]? = some v → Value.okWide Try.prog W .any base t v := hval0
  have hW' := hW
  obtain ⟨p, q, hA0, hV, rfl, hfz, hnd⟩ := hW
  have hA : DataW.TrodAll enc Try.prog W 0 (fun _ => true) true Try.f7.params.toList args.toList ds p := hA0
  rw [Try.params7] at hA hval
  obtain ⟨rfl, rfl⟩ := trodVars_none hV
  have hl := Sep.trodAll_len hA
  obtain ⟨xs, hx, hr⟩ := Sep.pars_rel (r := .any) (b0 := base) (ss := Sep.shs7) (by kernel_rfl) (fun j t v e1 e2 => hval j t v (by simpa using e1) (by simpa using e2)) hA
  rw [Array.toArray_toList] at hr
  obtain ⟨d0, d1, d2, d3, rfl⟩ : ∃ d0, ∃ d1, ∃ d2, ∃ d3, ds = [d0, d1, d2, d3] := by match ds, hl with | [a0, a1, a2, a3], _ => exact ⟨a0, a1, a2, a3, rfl⟩
  refine (Sep.calls_true (Sep.pure7 xs hx) hr).mono fun e W' ⟨he, hs⟩ => ?_
  subst he
  exact ⟨_, rfl, Sep.post_true Sep.laidOut rfl (by kernel_rfl) (tb := 4) (by kernel_rfl) Try.underlying4 rfl hW' hs⟩

theorem spans : Rows.TideSpansSaid :=
  OpenClaim.holds_of_wide 7 Try.f7 rfl rfl rfl rfl rfl rfl rfl ⟨rfl, rfl, rfl, rfl, rfl⟩ rfl rfl rfl rfl rfl (by kernel_rfl) Try.func7 (by kernel_rfl)
    (of_decide_eq_true (by kernel_rfl)) (by unfold Func.isWrapper; first | (rw [if_pos (by decide +kernel)]; kernel_rfl) | (rw [if_neg (by decide +kernel)]; exact ⟨rfl, rfl⟩))
    (fun os started H enc _ => spans_lifted os started H enc _ _ _)
#print axioms spans
end Go.Proofs.Ytpbgkohljjmbhaa
