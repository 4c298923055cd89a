/-
  The law on QuakeAgrees: for every input it answers true, and its arguments read as they did. No condition.
-/
import Derived.Test.YtoncoofmijjgeaaKR13
import Derived.Test.YtoncoofmijjgeaaKL
import Derived.Test.YtoncoofmijjgeaaRows
import Derived.JoinedOf
import Derived.JoinedAt
namespace Go.Proofs.Ytoncoofmijjgeaa
open Go Go.ChangeShapes Go.WideShapes Go.ChangeAt Go.RowKit
set_option linter.unusedVariables false
set_option linter.unusedSimpArgs false

namespace Sep
def shs9 : List (Bool × List Sh) := [(true, [.int .i64, .int .i64, .int .i64, .int .i64, .int .i64, .int .i64, .int .i64, .int .i64]), (false, [.sl (intSh 1)]), (false, [.sl (intSh 5)]), (false, [.sl (intSh 6)])]
set_option maxRecDepth 100000 in
theorem pure9 (xs : List SV) (hx : ParsFit shs9 xs) : Pure PP 9 (SV.denL xs) (SV.bool true).den := by
  obtain ⟨a0, xs0, rfl, K0, hx0⟩ := parsFit_cons hx
  obtain ⟨_, rfl, H0⟩ := parFits_agg K0
  obtain ⟨a1, xs1, rfl, K1, hx1⟩ := parsFit_cons hx0
  obtain ⟨L1, E1, H1⟩ := parFits_one K1
  obtain ⟨a2, xs2, rfl, K2, hx2⟩ := parsFit_cons hx1
  obtain ⟨L2, E2, H2⟩ := parFits_one K2
  obtain ⟨a3, xs3, rfl, K3, hx3⟩ := parsFit_cons hx2
  obtain ⟨L3, E3, H3⟩ := parFits_one K3
  obtain rfl := parsFit_nil hx3
  obtain ⟨w, _, rfl, hw, H0⟩ := fitsL_int H0
  obtain ⟨ht, _, rfl, hht, H0⟩ := fitsL_int H0
  obtain ⟨s, _, rfl, hs, H0⟩ := fitsL_int H0
  obtain ⟨v0, _, rfl, hv0, H0⟩ := fitsL_int H0
  obtain ⟨v1, _, rfl, hv1, H0⟩ := fitsL_int H0
  obtain ⟨d0, _, rfl, hd0, H0⟩ := fitsL_int H0
  obtain ⟨d1, _, rfl, hd1, H0⟩ := fitsL_int H0
  obtain ⟨r, _, rfl, hr, H0⟩ := fitsL_int H0
  obtain rfl := fitsL_nil H0
  obtain ⟨ns, g, _, rfl, hns, hg, H1⟩ := fitsL_sl H1
  obtain rfl := fitsL_nil H1
  cases E1
  obtain ⟨n, e, _, rfl, hn, he, H2⟩ := fitsL_sl H2
  obtain rfl := fitsL_nil H2
  cases E2
  obtain ⟨m, q, _, rfl, hm, hq, H3⟩ := fitsL_sl H3
  obtain rfl := fitsL_nil H3
  cases E3
  exact s9 _ _ _ rfl (AllP.cons.2 ⟨row_fits hg, AllP.cons.2 ⟨row_fits he, AllP.cons.2 ⟨row_fits hq, AllP.cons.2 ⟨hn, AllP.nil⟩⟩⟩⟩)
end Sep

set_option maxRecDepth 100000 in
theorem agrees_lifted (os : Os) (started : os.Started) (H : Type) (enc : TypeId × Value → H) (fresh handsOn again : Bool) :
    ReturnsInHanded {} Try.checked os 9 .any (Rows.quakeAgreesSpec.pre6 enc Try.prog Try.f9 Rows.quakeAgreesRow.domain false) (Rows.quakeAgreesSpec.post enc Try.prog Try.f9 false fresh handsOn again) := by
  refine returnsInHanded_of_change (C := Try.checked) Sep.own started (by kernel_rfl) Try.func9
    (ChangeSpec.witness6 (enc := enc) (C := Try.checked) false ⟨#[], #[.agg #[.int .i64 0, .int .i64 0, .int .i64 0, .int .i64 0, .int .i64 0, .int .i64 0, .int .i64 0, .int .i64 0], .slice none 0 0, .slice none 0 0, .slice none 0 0], []⟩ 8 (by kernel_rfl) (by kernel_rfl) (by kernel_rfl) (by kernel_rfl)) ?_
  intro W base args ds gs before hval0 hW _ _
  have hval : ∀ (j : Nat) t v, Try.f9.params[j]? = some t → args[j]? = some v → Value.okWide Try.prog W .any base t v := hval0
  have hW' := hW
  obtain ⟨p, q, hA0, hV, rfl, hfz, hnd⟩ := hW
  have hA : DataW.TrodAll enc Try.prog W 0 (fun _ => true) true Try.f9.params.toList args.toList ds p := hA0
  rw [Try.params9] at hA hval
  obtain ⟨rfl, rfl⟩ := trodVars_none hV
  have hl := Sep.trodAll_len hA
  obtain ⟨xs, hx, hr⟩ := Sep.pars_rel (r := .any) (b0 := base) (ss := Sep.shs9) (by kernel_rfl) (fun j t v e1 e2 => hval j t v (by simpa using e1) (by simpa using e2)) hA
  rw [Array.toArray_toList] at hr
  obtain ⟨d0, d1, d2, d3, rfl⟩ : ∃ d0, ∃ d1, ∃ d2, ∃ d3, ds = [d0, d1, d2, d3] := by match ds, hl with | [a0, a1, a2, a3], _ => exact ⟨a0, a1, a2, a3, rfl⟩
  refine (Sep.calls_true (Sep.pure9 xs hx) hr).mono fun e W' ⟨he, hs⟩ => ?_
  subst he
  exact ⟨_, rfl, Sep.post_true Sep.laidOut rfl (by kernel_rfl) (tb := 4) (by kernel_rfl) Try.underlying4 rfl hW' hs⟩

theorem agrees : Rows.QuakeAgreesSaid :=
  OpenClaim.holds_of_wide 9 Try.f9 rfl rfl rfl rfl rfl rfl rfl ⟨rfl, rfl, rfl, rfl, rfl⟩ rfl rfl rfl rfl rfl (by kernel_rfl) Try.func9 (by kernel_rfl)
    (of_decide_eq_true (by kernel_rfl)) (by unfold Func.isWrapper; first | (rw [if_pos (by decide +kernel)]; kernel_rfl) | (rw [if_neg (by decide +kernel)]; exact ⟨rfl, rfl⟩))
    (fun os started H enc _ => agrees_lifted os started H enc _ _ _)
#print axioms agrees
end Go.Proofs.Ytoncoofmijjgeaa
