/-
  The law on SurgeEye: for every input it answers true, and its arguments read as they did. No condition.
-/
import Derived.Test.YtkklmkogdogbkaaKMod17
import Derived.Test.YtkklmkogdogbkaaKL
import Derived.Test.YtkklmkogdogbkaaRows
import Derived.JoinedOf
import Derived.JoinedAt
namespace Go.Proofs.Ytkklmkogdogbkaa
open Go Go.ChangeShapes Go.WideShapes Go.ChangeAt Go.RowKit
set_option linter.unusedVariables false
set_option linter.unusedSimpArgs false

namespace Sep
def shs3 : List (Bool × List Sh) := [(true, [.int .i64, .int .i64, .int .i64, .sl (intSh 2)]), (true, [.int .i64, .int .i64, .int .i64, .int .i64, .int .i64, .int .i64, .int .i64, .int .i64, .int .i64]), (false, [.int .i64]), (false, [.sl ([.int .u32,.int .u32])])]
set_option maxRecDepth 100000 in
theorem pure3 (xs : List SV) (hx : ParsFit shs3 xs) : Pure PP 3 (SV.denL xs) (SV.bool true).den := by
  obtain ⟨a0, xs0, rfl, K0, hx0⟩ := parsFit_cons hx
  obtain ⟨_, rfl, H0⟩ := parFits_agg K0
  obtain ⟨a1, xs1, rfl, K1, hx1⟩ := parsFit_cons hx0
  obtain ⟨_, rfl, H1⟩ := parFits_agg K1
  obtain ⟨a2, xs2, rfl, K2, hx2⟩ := parsFit_cons hx1
  obtain ⟨L2, E2, H2⟩ := parFits_one K2
  obtain ⟨a3, xs3, rfl, K3, hx3⟩ := parsFit_cons hx2
  obtain ⟨L3, E3, H3⟩ := parFits_one K3
  obtain rfl := parsFit_nil hx3
  obtain ⟨w, _, rfl, hw, H0⟩ := fitsL_int H0
  obtain ⟨h, _, rfl, hh, H0⟩ := fitsL_int H0
  obtain ⟨s, _, rfl, hs, H0⟩ := fitsL_int H0
  obtain ⟨n, g, _, rfl, hn, hg, H0⟩ := fitsL_sl H0
  obtain rfl := fitsL_nil H0
  obtain ⟨x0, _, rfl, hx0, H1⟩ := fitsL_int H1
  obtain ⟨x1, _, rfl, hx1, H1⟩ := fitsL_int H1
  obtain ⟨y0, _, rfl, hy0, H1⟩ := fitsL_int H1
  obtain ⟨y1, _, rfl, hy1, H1⟩ := fitsL_int H1
  obtain ⟨r, _, rfl, hr, H1⟩ := fitsL_int H1
  obtain ⟨m0, _, rfl, hm0, H1⟩ := fitsL_int H1
  obtain ⟨m1, _, rfl, hm1, H1⟩ := fitsL_int H1
  obtain ⟨l0, _, rfl, hl0, H1⟩ := fitsL_int H1
  obtain ⟨l1, _, rfl, hl1, H1⟩ := fitsL_int H1
  obtain rfl := fitsL_nil H1
  obtain ⟨c, _, rfl, hc, H2⟩ := fitsL_int H2
  obtain rfl := fitsL_nil H2
  cases E2
  obtain ⟨m, f, _, rfl, hm, hf, H3⟩ := fitsL_sl H3
  obtain rfl := fitsL_nil H3
  cases E3
  have key : ∀ i, i < m → ∃ a b, f i = [.int .u32 a, .int .u32 b] ∧ 0 ≤ a ∧ a ≤ 4294967295 ∧ 0 ≤ b ∧ b ≤ 4294967295 := fun i hi => by
    obtain ⟨a, ys, e, ha, ha', H⟩ := fitsL_ik (hf i hi)
    obtain ⟨b, zs, e', hb, hb', H⟩ := fitsL_ik H
    rw [fitsL_nil H] at e'
    rw [e'] at e
    exact ⟨a, b, e, ha, ha', hb, hb'⟩
  have hrow : RowK .u32 2 m f := fun i hi => by
    obtain ⟨a, b, e, -⟩ := key i hi
    show leRow le0 (f i) [.int .u32 (cI f 0 i), .int .u32 (cI f 1 i)]
    have e0 : cI f 0 i = a := by simp [cI, e, asI]
    have e1 : cI f 1 i = b := by simp [cI, e, asI]
    rw [e0, e1, e]
    simp [leRow, le0]
    split
    · trivial
    · rename_i h _; exact (h rfl).elim
  have hbd : ∀ k, k < m → 0 ≤ cI f 0 k ∧ cI f 0 k ≤ 4294967295 ∧ 0 ≤ cI f 1 k ∧ cI f 1 k ≤ 4294967295 := fun i hi => by
    obtain ⟨a, b, e, h1, h2, h3, h4⟩ := key i hi
    have e0 : cI f 0 i = a := by simp [cI, e, asI]
    have e1 : cI f 1 i = b := by simp [cI, e, asI]
    rw [e0, e1]
    exact ⟨h1, h2, h3, h4⟩
  exact s3 _ _ _ rfl (AllP.cons.2 ⟨row_fits hg, AllP.cons.2 ⟨hrow, AllP.cons.2 ⟨hn, AllP.cons.2 ⟨hbd, AllP.nil⟩⟩⟩⟩)
end Sep

set_option maxRecDepth 100000 in
theorem eye_lifted (os : Os) (started : os.Started) (H : Type) (enc : TypeId × Value → H) (fresh handsOn again : Bool) :
    ReturnsInHanded {} Try.checked os 3 .any (Rows.surgeEyeSpec.pre6 enc Try.prog Try.f3 Rows.surgeEyeRow.domain false) (Rows.surgeEyeSpec.post enc Try.prog Try.f3 false fresh handsOn again) := by
  refine returnsInHanded_of_change (C := Try.checked) Sep.own started (by kernel_rfl) Try.func3
    (ChangeSpec.witness6 (enc := enc) (C := Try.checked) false ⟨#[], #[.agg #[.int .i64 0, .int .i64 0, .int .i64 0, .slice none 0 0], .agg #[.int .i64 0, .int .i64 0, .int .i64 0, .int .i64 0, .int .i64 0, .int .i64 0, .int .i64 0, .int .i64 0, .int .i64 0], .int .i64 0, .slice none 0 0], []⟩ 8 (by kernel_rfl) (by kernel_rfl) (by kernel_rfl) (by kernel_rfl)) ?_
  intro W base args ds gs before hval0 hW _ _
  have hval : ∀ (j : Nat) t v, Try.f3.params[j]? = some t → args[j]? = some v → Value.okWide Try.prog W .any base t v := hval0
  have hW' := hW
  obtain ⟨p, q, hA0, hV, rfl, hfz, hnd⟩ := hW
  have hA : DataW.TrodAll enc Try.prog W 0 (fun _ => true) true Try.f3.params.toList args.toList ds p := hA0
  rw [Try.params3] at hA hval
  obtain ⟨rfl, rfl⟩ := trodVars_none hV
  have hl := Sep.trodAll_len hA
  obtain ⟨xs, hx, hr⟩ := Sep.pars_rel (r := .any) (b0 := base) (ss := Sep.shs3) (by kernel_rfl) (fun j t v e1 e2 => hval j t v (by simpa using e1) (by simpa using e2)) hA
  rw [Array.toArray_toList] at hr
  obtain ⟨d0, d1, d2, d3, rfl⟩ : ∃ d0, ∃ d1, ∃ d2, ∃ d3, ds = [d0, d1, d2, d3] := by match ds, hl with | [a0, a1, a2, a3], _ => exact ⟨a0, a1, a2, a3, rfl⟩
  refine (Sep.calls_true (Sep.pure3 xs hx) hr).mono fun e W' ⟨he, hs⟩ => ?_
  subst he
  exact ⟨_, rfl, Sep.post_true Sep.laidOut rfl (by kernel_rfl) (tb := 4) (by kernel_rfl) Try.underlying4 rfl hW' hs⟩

theorem eye : Rows.SurgeEyeSaid :=
  OpenClaim.holds_of_wide 3 Try.f3 rfl rfl rfl rfl rfl rfl rfl ⟨rfl, rfl, rfl, rfl, rfl⟩ rfl rfl rfl rfl rfl (by kernel_rfl) Try.func3 (by kernel_rfl)
    (of_decide_eq_true (by kernel_rfl)) (by unfold Func.isWrapper; first | (rw [if_pos (by decide +kernel)]; kernel_rfl) | (rw [if_neg (by decide +kernel)]; exact ⟨rfl, rfl⟩))
    (fun os started H enc _ => eye_lifted os started H enc _ _ _)
#print axioms eye
end Go.Proofs.Ytkklmkogdogbkaa
