/-
  The law on QuakeLocates: for every input it answers true, and its arguments read as they did. No condition.
-/
import Derived.Test.YtoncoofmijjgeaaKN14
import Derived.Test.YtoncoofmijjgeaaKL
import Derived.Test.YtoncoofmijjgeaaRows
import Derived.JoinedOf
import Derived.JoinedAt
namespace Go.Proofs.Ytoncoofmijjgeaa
open Go Go.ChangeShapes Go.WideShapes Go.ChangeAt Go.RowKit
set_option linter.unusedVariables false
set_option linter.unusedSimpArgs false

namespace Sep
def shs14 : List (Bool × List Sh) := [(true, [.int .i64, .int .i64, .int .i64, .int .i64, .int .i64, .int .i64, .int .i64, .int .i64]), (false, [.sl (intSh 1)]), (false, [.sl (intSh 5)]), (false, [.int .i64]), (false, [.sl ([.bool,.int .i64,.int .i64,.int .i64,.int .i64,.int .i64,.int .i64])])]
set_option maxRecDepth 100000 in
theorem pure14 (xs : List SV) (hx : ParsFit shs14 xs) : Pure PP 14 (SV.denL xs) (SV.bool true).den := by
  obtain ⟨a0, xs0, rfl, K0, hx0⟩ := parsFit_cons hx
  obtain ⟨_, rfl, H0⟩ := parFits_agg K0
  obtain ⟨a1, xs1, rfl, K1, hx1⟩ := parsFit_cons hx0
  obtain ⟨L1, E1, H1⟩ := parFits_one K1
  obtain ⟨a2, xs2, rfl, K2, hx2⟩ := parsFit_cons hx1
  obtain ⟨L2, E2, H2⟩ := parFits_one K2
  obtain ⟨a3, xs3, rfl, K3, hx3⟩ := parsFit_cons hx2
  obtain ⟨L3, E3, H3⟩ := parFits_one K3
  obtain ⟨a4, xs4, rfl, K4, hx4⟩ := parsFit_cons hx3
  obtain ⟨L4, E4, H4⟩ := parFits_one K4
  obtain rfl := parsFit_nil hx4
  obtain ⟨w, _, rfl, hw, H0⟩ := fitsL_int H0
  obtain ⟨ht, _, rfl, hht, H0⟩ := fitsL_int H0
  obtain ⟨s, _, rfl, hs, H0⟩ := fitsL_int H0
  obtain ⟨v0, _, rfl, hv0, H0⟩ := fitsL_int H0
  obtain ⟨v1, _, rfl, hv1, H0⟩ := fitsL_int H0
  obtain ⟨d0, _, rfl, hd0, H0⟩ := fitsL_int H0
  obtain ⟨d1, _, rfl, hd1, H0⟩ := fitsL_int H0
  obtain ⟨r, _, rfl, hr, H0⟩ := fitsL_int H0
  obtain rfl := fitsL_nil H0
  obtain ⟨ns, g, _, rfl, hns, hg, H1⟩ := fitsL_sl H1
  obtain rfl := fitsL_nil H1
  cases E1
  obtain ⟨n, e, _, rfl, hn, he, H2⟩ := fitsL_sl H2
  obtain rfl := fitsL_nil H2
  cases E2
  obtain ⟨f, _, rfl, hf, H3⟩ := fitsL_int H3
  obtain rfl := fitsL_nil H3
  cases E3
  obtain ⟨na, b, _, rfl, hna, hb, H4⟩ := fitsL_sl H4
  obtain rfl := fitsL_nil H4
  cases E4
  exact s14 (row_fits hg) (row_fits he) (rowM_fits hb)
end Sep

set_option maxRecDepth 100000 in
theorem locates_lifted (os : Os) (started : os.Started) (H : Type) (enc : TypeId × Value → H) (fresh handsOn again : Bool) :
    ReturnsInHanded {} Try.checked os 14 .any (Rows.quakeLocatesSpec.pre6 enc Try.prog Try.f14 Rows.quakeLocatesRow.domain false) (Rows.quakeLocatesSpec.post enc Try.prog Try.f14 false fresh handsOn again) := by
  refine returnsInHanded_of_change (C := Try.checked) Sep.own started (by kernel_rfl) Try.func14
    (ChangeSpec.witness6 (enc := enc) (C := Try.checked) false ⟨#[], #[.agg #[.int .i64 0, .int .i64 0, .int .i64 0, .int .i64 0, .int .i64 0, .int .i64 0, .int .i64 0, .int .i64 0], .slice none 0 0, .slice none 0 0, .int .i64 0, .slice none 0 0], []⟩ 8 (by kernel_rfl) (by kernel_rfl) (by kernel_rfl) (by kernel_rfl)) ?_
  intro W base args ds gs before hval0 hW _ _
  have hval : ∀ (j : Nat) t v, Try.f14.params[j]? = some t → args[j]? = some v → Value.okWide Try.prog W .any base t v := hval0
  have hW' := hW
  obtain ⟨p, q, hA0, hV, rfl, hfz, hnd⟩ := hW
  have hA : DataW.TrodAll enc Try.prog W 0 (fun _ => true) true Try.f14.params.toList args.toList ds p := hA0
  rw [Try.params14] at hA hval
  obtain ⟨rfl, rfl⟩ := trodVars_none hV
  have hl := Sep.trodAll_len hA
  obtain ⟨xs, hx, hr⟩ := Sep.pars_rel (r := .any) (b0 := base) (ss := Sep.shs14) (by kernel_rfl) (fun j t v e1 e2 => hval j t v (by simpa using e1) (by simpa using e2)) hA
  rw [Array.toArray_toList] at hr
  obtain ⟨d0, d1, d2, d3, d4, rfl⟩ : ∃ d0, ∃ d1, ∃ d2, ∃ d3, ∃ d4, ds = [d0, d1, d2, d3, d4] := by match ds, hl with | [a0, a1, a2, a3, a4], _ => exact ⟨a0, a1, a2, a3, a4, rfl⟩
  refine (Sep.calls_true (Sep.pure14 xs hx) hr).mono fun e W' ⟨he, hs⟩ => ?_
  subst he
  exact ⟨_, rfl, Sep.post_true Sep.laidOut rfl (by kernel_rfl) (tb := 4) (by kernel_rfl) Try.underlying4 rfl hW' hs⟩

theorem locates : Rows.QuakeLocatesSaid :=
  OpenClaim.holds_of_wide 14 Try.f14 rfl rfl rfl rfl rfl rfl rfl ⟨rfl, rfl, rfl, rfl, rfl⟩ rfl rfl rfl rfl rfl (by kernel_rfl) Try.func14 (by kernel_rfl)
    (of_decide_eq_true (by kernel_rfl)) (by unfold Func.isWrapper; first | (rw [if_pos (by decide +kernel)]; kernel_rfl) | (rw [if_neg (by decide +kernel)]; exact ⟨rfl, rfl⟩))
    (fun os started H enc _ => locates_lifted os started H enc _ _ _)
#print axioms locates
end Go.Proofs.Ytoncoofmijjgeaa
