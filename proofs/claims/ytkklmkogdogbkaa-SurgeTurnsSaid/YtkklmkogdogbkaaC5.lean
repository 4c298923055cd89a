/-
  The law on SurgeTurns: for every input it answers true, and its arguments read as they did. No condition.
-/
import Derived.Test.YtkklmkogdogbkaaK9
import Derived.Test.YtkklmkogdogbkaaKL
import Derived.Test.YtkklmkogdogbkaaRows
import Derived.JoinedOf
import Derived.JoinedAt
namespace Go.Proofs.Ytkklmkogdogbkaa
open Go Go.ChangeShapes Go.WideShapes Go.ChangeAt Go.RowKit
set_option linter.unusedVariables false
set_option linter.unusedSimpArgs false

namespace Sep
def shs5 : List (Bool × List Sh) := [(true, [.int .i64, .int .i64]), (true, [.int .i64, .int .i64]), (true, [.int .u32, .int .u32]), (true, [.int .u32, .int .u32])]
set_option maxRecDepth 100000 in
theorem pure5 (xs : List SV) (hx : ParsFit shs5 xs) : Pure PP 5 (SV.denL xs) (SV.bool true).den := by
  obtain ⟨a0, xs0, rfl, K0, hx0⟩ := parsFit_cons hx
  obtain ⟨_, rfl, H0⟩ := parFits_agg K0
  obtain ⟨a1, xs1, rfl, K1, hx1⟩ := parsFit_cons hx0
  obtain ⟨_, rfl, H1⟩ := parFits_agg K1
  obtain ⟨a2, xs2, rfl, K2, hx2⟩ := parsFit_cons hx1
  obtain ⟨_, rfl, H2⟩ := parFits_agg K2
  obtain ⟨a3, xs3, rfl, K3, hx3⟩ := parsFit_cons hx2
  obtain ⟨_, rfl, H3⟩ := parFits_agg K3
  obtain rfl := parsFit_nil hx3
  obtain ⟨p0, _, rfl, hp0, H0⟩ := fitsL_int H0
  obtain ⟨p1, _, rfl, hp1, H0⟩ := fitsL_int H0
  obtain rfl := fitsL_nil H0
  obtain ⟨q0, _, rfl, hq0, H1⟩ := fitsL_int H1
  obtain ⟨q1, _, rfl, hq1, H1⟩ := fitsL_int H1
  obtain rfl := fitsL_nil H1
  obtain ⟨c0, _, rfl, hc0, hc0', H2⟩ := fitsL_ik H2
  obtain ⟨c1, _, rfl, hc1, hc1', H2⟩ := fitsL_ik H2
  obtain rfl := fitsL_nil H2
  obtain ⟨d0, _, rfl, hd0, hd0', H3⟩ := fitsL_ik H3
  obtain ⟨d1, _, rfl, hd1, hd1', H3⟩ := fitsL_ik H3
  obtain rfl := fitsL_nil H3
  have e1 : IntKind.u32.min = 0 := rfl
  have e2 : IntKind.u32.max = 4294967295 := rfl
  rw [e1] at hc0 hc1 hd0 hd1
  rw [e2] at hc0' hc1' hd0' hd1'
  exact s5 _ _ _ rfl (AllP.cons.2 ⟨hc0, AllP.cons.2 ⟨hc0', AllP.cons.2 ⟨hc1, AllP.cons.2 ⟨hc1', AllP.cons.2 ⟨hd0, AllP.cons.2 ⟨hd0', AllP.cons.2 ⟨hd1, AllP.cons.2 ⟨hd1', AllP.nil⟩⟩⟩⟩⟩⟩⟩⟩)
end Sep

set_option maxRecDepth 100000 in
theorem turns_lifted (os : Os) (started : os.Started) (H : Type) (enc : TypeId × Value → H) (fresh handsOn again : Bool) :
    ReturnsInHanded {} Try.checked os 5 .any (Rows.surgeTurnsSpec.pre6 enc Try.prog Try.f5 Rows.surgeTurnsRow.domain false) (Rows.surgeTurnsSpec.post enc Try.prog Try.f5 false fresh handsOn again) := by
  refine returnsInHanded_of_change (C := Try.checked) Sep.own started (by kernel_rfl) Try.func5
    (ChangeSpec.witness6 (enc := enc) (C := Try.checked) false ⟨#[], #[.agg #[.int .i64 0, .int .i64 0], .agg #[.int .i64 0, .int .i64 0], .agg #[.int .u32 0, .int .u32 0], .agg #[.int .u32 0, .int .u32 0]], []⟩ 8 (by kernel_rfl) (by kernel_rfl) (by kernel_rfl) (by kernel_rfl)) ?_
  intro W base args ds gs before hval0 hW _ _
  have hval : ∀ (j : Nat) t v, Try.f5.params[j]? = some t → args[j]? = some v → Value.okWide Try.prog W .any base t v := hval0
  have hW' := hW
  obtain ⟨p, q, hA0, hV, rfl, hfz, hnd⟩ := hW
  have hA : DataW.TrodAll enc Try.prog W 0 (fun _ => true) true Try.f5.params.toList args.toList ds p := hA0
  rw [Try.params5] at hA hval
  obtain ⟨rfl, rfl⟩ := trodVars_none hV
  have hl := Sep.trodAll_len hA
  obtain ⟨xs, hx, hr⟩ := Sep.pars_rel (ss := Sep.shs5) (by kernel_rfl) (fun j t v e1 e2 => hval j t v (by simpa using e1) (by simpa using e2)) hA
  rw [Array.toArray_toList] at hr
  obtain ⟨d0, d1, d2, d3, rfl⟩ : ∃ d0, ∃ d1, ∃ d2, ∃ d3, ds = [d0, d1, d2, d3] := by match ds, hl with | [a0, a1, a2, a3], _ => exact ⟨a0, a1, a2, a3, rfl⟩
  refine (Sep.calls_true (Sep.pure5 xs hx) hr).mono fun e W' ⟨he, hs⟩ => ?_
  subst he
  exact ⟨_, rfl, Sep.post_true Sep.laidOut rfl (by kernel_rfl) (tb := 4) (by kernel_rfl) Try.underlying4 rfl hW' hs⟩

theorem turns : Rows.SurgeTurnsSaid :=
  OpenClaim.holds_of_wide 5 Try.f5 rfl rfl rfl rfl rfl rfl rfl ⟨rfl, rfl, rfl, rfl, rfl⟩ rfl rfl rfl rfl rfl (by kernel_rfl) Try.func5 (by kernel_rfl)
    (of_decide_eq_true (by kernel_rfl)) (by unfold Func.isWrapper; first | (rw [if_pos (by decide +kernel)]; kernel_rfl) | (rw [if_neg (by decide +kernel)]; exact ⟨rfl, rfl⟩))
    (fun os started H enc _ => turns_lifted os started H enc _ _ _)
#print axioms turns
end Go.Proofs.Ytkklmkogdogbkaa
