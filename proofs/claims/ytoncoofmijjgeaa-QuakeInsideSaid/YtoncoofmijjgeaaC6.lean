/-
  The law on QuakeInside: for every input it answers true, and its arguments read as they did. No condition.
-/
import Derived.Test.YtoncoofmijjgeaaKN14
import Derived.Test.YtoncoofmijjgeaaKL
import Derived.Test.YtoncoofmijjgeaaRows
import Derived.JoinedOf
import Derived.JoinedAt
namespace Go.Proofs.Ytoncoofmijjgeaa
open Go Go.ChangeShapes Go.WideShapes Go.ChangeAt Go.RowKit
set_option linter.unusedVariables false
set_option linter.unusedSimpArgs false

namespace Sep
def shs6 : List (Bool × List Sh) := [(true, [.int .i64, .int .i64, .int .i64, .int .i64, .int .i64, .int .i64, .int .i64, .int .i64, .sl (intSh 1), .sl (intSh 5), .sl (intSh 6), .int .i64]), (false, [.int .u16]), (false, [.int .u16]), (false, [.int .u16]), (false, [.int .u16]), (false, [.int .u16]), (false, [.int .i64]), (false, [.int .i64])]
set_option maxRecDepth 100000 in
theorem pure6 (xs : List SV) (hx : ParsFit shs6 xs) : Pure PP 6 (SV.denL xs) (SV.bool true).den := by
  obtain ⟨a0, xs0, rfl, K0, hx0⟩ := parsFit_cons hx
  obtain ⟨_, rfl, H0⟩ := parFits_agg K0
  obtain ⟨a1, xs1, rfl, K1, hx1⟩ := parsFit_cons hx0
  obtain ⟨L1, E1, H1⟩ := parFits_one K1
  obtain ⟨a2, xs2, rfl, K2, hx2⟩ := parsFit_cons hx1
  obtain ⟨L2, E2, H2⟩ := parFits_one K2
  obtain ⟨a3, xs3, rfl, K3, hx3⟩ := parsFit_cons hx2
  obtain ⟨L3, E3, H3⟩ := parFits_one K3
  obtain ⟨a4, xs4, rfl, K4, hx4⟩ := parsFit_cons hx3
  obtain ⟨L4, E4, H4⟩ := parFits_one K4
  obtain ⟨a5, xs5, rfl, K5, hx5⟩ := parsFit_cons hx4
  obtain ⟨L5, E5, H5⟩ := parFits_one K5
  obtain ⟨a6, xs6, rfl, K6, hx6⟩ := parsFit_cons hx5
  obtain ⟨L6, E6, H6⟩ := parFits_one K6
  obtain ⟨a7, xs7, rfl, K7, hx7⟩ := parsFit_cons hx6
  obtain ⟨L7, E7, H7⟩ := parFits_one K7
  obtain rfl := parsFit_nil hx7
  obtain ⟨w, _, rfl, hw, H0⟩ := fitsL_int H0
  obtain ⟨ht, _, rfl, hht, H0⟩ := fitsL_int H0
  obtain ⟨s, _, rfl, hs, H0⟩ := fitsL_int H0
  obtain ⟨v0, _, rfl, hv0, H0⟩ := fitsL_int H0
  obtain ⟨v1, _, rfl, hv1, H0⟩ := fitsL_int H0
  obtain ⟨d0, _, rfl, hd0, H0⟩ := fitsL_int H0
  obtain ⟨d1, _, rfl, hd1, H0⟩ := fitsL_int H0
  obtain ⟨r, _, rfl, hr, H0⟩ := fitsL_int H0
  obtain ⟨ns, g, _, rfl, hns, hg, H0⟩ := fitsL_sl H0
  obtain ⟨n, e, _, rfl, hn, he, H0⟩ := fitsL_sl H0
  obtain ⟨m, q, _, rfl, hm, hq, H0⟩ := fitsL_sl H0
  obtain ⟨f, _, rfl, hf, H0⟩ := fitsL_int H0
  obtain rfl := fitsL_nil H0
  obtain ⟨x1, _, rfl, hx1, hx1', H1⟩ := fitsL_ik H1
  obtain rfl := fitsL_nil H1
  cases E1
  obtain ⟨x2, _, rfl, hx2, hx2', H2⟩ := fitsL_ik H2
  obtain rfl := fitsL_nil H2
  cases E2
  obtain ⟨x3, _, rfl, hx3, hx3', H3⟩ := fitsL_ik H3
  obtain rfl := fitsL_nil H3
  cases E3
  obtain ⟨x4, _, rfl, hx4, hx4', H4⟩ := fitsL_ik H4
  obtain rfl := fitsL_nil H4
  cases E4
  obtain ⟨x5, _, rfl, hx5, hx5', H5⟩ := fitsL_ik H5
  obtain rfl := fitsL_nil H5
  cases E5
  obtain ⟨y1, _, rfl, hy1, H6⟩ := fitsL_int H6
  obtain rfl := fitsL_nil H6
  cases E6
  obtain ⟨y2, _, rfl, hy2, H7⟩ := fitsL_int H7
  obtain rfl := fitsL_nil H7
  cases E7
  have e3 : IntKind.u16.min = 0 := rfl
  have e4 : IntKind.u16.max = 65535 := rfl
  exact s6 (row_fits hg) (row_fits he) (row_fits hq) (by omega) (by omega) (by omega) (by omega) (by omega)
end Sep

set_option maxRecDepth 100000 in
theorem inside_lifted (os : Os) (started : os.Started) (H : Type) (enc : TypeId × Value → H) (fresh handsOn again : Bool) :
    ReturnsInHanded {} Try.checked os 6 .any (Rows.quakeInsideSpec.pre6 enc Try.prog Try.f6 Rows.quakeInsideRow.domain false) (Rows.quakeInsideSpec.post enc Try.prog Try.f6 false fresh handsOn again) := by
  refine returnsInHanded_of_change (C := Try.checked) Sep.own started (by kernel_rfl) Try.func6
    (ChangeSpec.witness6 (enc := enc) (C := Try.checked) false ⟨#[], #[.agg #[.int .i64 0, .int .i64 0, .int .i64 0, .int .i64 0, .int .i64 0, .int .i64 0, .int .i64 0, .int .i64 0, .slice none 0 0, .slice none 0 0, .slice none 0 0, .int .i64 0], .int .u16 0, .int .u16 0, .int .u16 0, .int .u16 0, .int .u16 0, .int .i64 0, .int .i64 0], []⟩ 8 (by kernel_rfl) (by kernel_rfl) (by kernel_rfl) (by kernel_rfl)) ?_
  intro W base args ds gs before hval0 hW _ _
  have hval : ∀ (j : Nat) t v, Try.f6.params[j]? = some t → args[j]? = some v → Value.okWide Try.prog W .any base t v := hval0
  have hW' := hW
  obtain ⟨p, q, hA0, hV, rfl, hfz, hnd⟩ := hW
  have hA : DataW.TrodAll enc Try.prog W 0 (fun _ => true) true Try.f6.params.toList args.toList ds p := hA0
  rw [Try.params6] at hA hval
  obtain ⟨rfl, rfl⟩ := trodVars_none hV
  have hl := Sep.trodAll_len hA
  obtain ⟨xs, hx, hr⟩ := Sep.pars_rel (r := .any) (b0 := base) (ss := Sep.shs6) (by kernel_rfl) (fun j t v e1 e2 => hval j t v (by simpa using e1) (by simpa using e2)) hA
  rw [Array.toArray_toList] at hr
  obtain ⟨d0, d1, d2, d3, d4, d5, d6, d7, rfl⟩ : ∃ d0, ∃ d1, ∃ d2, ∃ d3, ∃ d4, ∃ d5, ∃ d6, ∃ d7, ds = [d0, d1, d2, d3, d4, d5, d6, d7] := by match ds, hl with | [a0, a1, a2, a3, a4, a5, a6, a7], _ => exact ⟨a0, a1, a2, a3, a4, a5, a6, a7, rfl⟩
  refine (Sep.calls_true (Sep.pure6 xs hx) hr).mono fun e W' ⟨he, hs⟩ => ?_
  subst he
  exact ⟨_, rfl, Sep.post_true Sep.laidOut rfl (by kernel_rfl) (tb := 4) (by kernel_rfl) Try.underlying4 rfl hW' hs⟩

theorem inside : Rows.QuakeInsideSaid :=
  OpenClaim.holds_of_wide 6 Try.f6 rfl rfl rfl rfl rfl rfl rfl ⟨rfl, rfl, rfl, rfl, rfl⟩ rfl rfl rfl rfl rfl (by kernel_rfl) Try.func6 (by kernel_rfl)
    (of_decide_eq_true (by kernel_rfl)) (by unfold Func.isWrapper; first | (rw [if_pos (by decide +kernel)]; kernel_rfl) | (rw [if_neg (by decide +kernel)]; exact ⟨rfl, rfl⟩))
    (fun os started H enc _ => inside_lifted os started H enc _ _ _)
#print axioms inside
end Go.Proofs.Ytoncoofmijjgeaa
