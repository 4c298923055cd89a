/-
  The law on QuakeMinimal: for every input it answers true, and its arguments read as they did. No condition.
-/
import Derived.Test.YtoncoofmijjgeaaKN14
import Derived.Test.YtoncoofmijjgeaaKL
import Derived.Test.YtoncoofmijjgeaaRows
import Derived.JoinedOf
import Derived.JoinedAt
namespace Go.Proofs.Ytoncoofmijjgeaa
open Go Go.ChangeShapes Go.WideShapes Go.ChangeAt Go.RowKit
set_option linter.unusedVariables false
set_option linter.unusedSimpArgs false

namespace Sep
def shs8 : List (Bool × List Sh) := [(true, [.int .i64, .int .i64, .int .i64, .int .i64, .int .i64, .int .i64, .int .i64, .int .i64, .sl (intSh 1), .sl (intSh 5), .sl (intSh 6), .int .i64]), (false, [.int .u8])]
set_option maxRecDepth 100000 in
theorem pure8 (xs : List SV) (hx : ParsFit shs8 xs) : Pure PP 8 (SV.denL xs) (SV.bool true).den := by
  obtain ⟨a0, xs0, rfl, K0, hx0⟩ := parsFit_cons hx
  obtain ⟨_, rfl, H0⟩ := parFits_agg K0
  obtain ⟨a1, xs1, rfl, K1, hx1⟩ := parsFit_cons hx0
  obtain ⟨L1, E1, H1⟩ := parFits_one K1
  obtain rfl := parsFit_nil hx1
  obtain ⟨w, _, rfl, hw, H0⟩ := fitsL_int H0
  obtain ⟨ht, _, rfl, hht, H0⟩ := fitsL_int H0
  obtain ⟨s, _, rfl, hs, H0⟩ := fitsL_int H0
  obtain ⟨v0, _, rfl, hv0, H0⟩ := fitsL_int H0
  obtain ⟨v1, _, rfl, hv1, H0⟩ := fitsL_int H0
  obtain ⟨d0, _, rfl, hd0, H0⟩ := fitsL_int H0
  obtain ⟨d1, _, rfl, hd1, H0⟩ := fitsL_int H0
  obtain ⟨r, _, rfl, hr, H0⟩ := fitsL_int H0
  obtain ⟨ns, g, _, rfl, hns, hg, H0⟩ := fitsL_sl H0
  obtain ⟨n, e, _, rfl, hn, he, H0⟩ := fitsL_sl H0
  obtain ⟨m, q, _, rfl, hm, hq, H0⟩ := fitsL_sl H0
  obtain ⟨f, _, rfl, hf, H0⟩ := fitsL_int H0
  obtain rfl := fitsL_nil H0
  obtain ⟨u, _, rfl, hu, hu', H1⟩ := fitsL_ik H1
  obtain rfl := fitsL_nil H1
  cases E1
  have e3 : IntKind.u8.min = 0 := rfl
  have e4 : IntKind.u8.max = 255 := rfl
  exact s8 (row_fits hg) (row_fits he) (row_fits hq) (by omega)
end Sep

set_option maxRecDepth 100000 in
theorem minimal_lifted (os : Os) (started : os.Started) (H : Type) (enc : TypeId × Value → H) (fresh handsOn again : Bool) :
    ReturnsInHanded {} Try.checked os 8 .any (Rows.quakeMinimalSpec.pre6 enc Try.prog Try.f8 Rows.quakeMinimalRow.domain false) (Rows.quakeMinimalSpec.post enc Try.prog Try.f8 false fresh handsOn again) := by
  refine returnsInHanded_of_change (C := Try.checked) Sep.own started (by kernel_rfl) Try.func8
    (ChangeSpec.witness6 (enc := enc) (C := Try.checked) false ⟨#[], #[.agg #[.int .i64 0, .int .i64 0, .int .i64 0, .int .i64 0, .int .i64 0, .int .i64 0, .int .i64 0, .int .i64 0, .slice none 0 0, .slice none 0 0, .slice none 0 0, .int .i64 0], .int .u8 0], []⟩ 8 (by kernel_rfl) (by kernel_rfl) (by kernel_rfl) (by kernel_rfl)) ?_
  intro W base args ds gs before hval0 hW _ _
  have hval : ∀ (j : Nat) t v, Try.f8.params[j]? = some t → args[j]? = some v → Value.okWide Try.prog W .any base t v := hval0
  have hW' := hW
  obtain ⟨p, q, hA0, hV, rfl, hfz, hnd⟩ := hW
  have hA : DataW.TrodAll enc Try.prog W 0 (fun _ => true) true Try.f8.params.toList args.toList ds p := hA0
  rw [Try.params8] at hA hval
  obtain ⟨rfl, rfl⟩ := trodVars_none hV
  have hl := Sep.trodAll_len hA
  obtain ⟨xs, hx, hr⟩ := Sep.pars_rel (r := .any) (b0 := base) (ss := Sep.shs8) (by kernel_rfl) (fun j t v e1 e2 => hval j t v (by simpa using e1) (by simpa using e2)) hA
  rw [Array.toArray_toList] at hr
  obtain ⟨d0, d1, rfl⟩ : ∃ d0, ∃ d1, ds = [d0, d1] := by match ds, hl with | [a0, a1], _ => exact ⟨a0, a1, rfl⟩
  refine (Sep.calls_true (Sep.pure8 xs hx) hr).mono fun e W' ⟨he, hs⟩ => ?_
  subst he
  exact ⟨_, rfl, Sep.post_true Sep.laidOut rfl (by kernel_rfl) (tb := 4) (by kernel_rfl) Try.underlying4 rfl hW' hs⟩

theorem minimal : Rows.QuakeMinimalSaid :=
  OpenClaim.holds_of_wide 8 Try.f8 rfl rfl rfl rfl rfl rfl rfl ⟨rfl, rfl, rfl, rfl, rfl⟩ rfl rfl rfl rfl rfl (by kernel_rfl) Try.func8 (by kernel_rfl)
    (of_decide_eq_true (by kernel_rfl)) (by unfold Func.isWrapper; first | (rw [if_pos (by decide +kernel)]; kernel_rfl) | (rw [if_neg (by decide +kernel)]; exact ⟨rfl, rfl⟩))
    (fun os started H enc _ => minimal_lifted os started H enc _ _ _)
#print axioms minimal
end Go.Proofs.Ytoncoofmijjgeaa
