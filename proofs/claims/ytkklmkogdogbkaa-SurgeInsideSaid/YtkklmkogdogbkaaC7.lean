/-
  The law on SurgeInside: for every input it answers true, and its arguments read as they did. No condition.
-/
import Derived.Test.YtkklmkogdogbkaaKMod18
import Derived.Test.YtkklmkogdogbkaaKL
import Derived.Test.YtkklmkogdogbkaaRows
import Derived.JoinedOf
import Derived.JoinedAt
namespace Go.Proofs.Ytkklmkogdogbkaa
open Go Go.ChangeShapes Go.WideShapes Go.ChangeAt Go.RowKit
set_option linter.unusedVariables false
set_option linter.unusedSimpArgs false

namespace Sep
def shs7 : List (Bool × List Sh) := [(true, [.int .i64, .int .i64, .int .i64, .sl (intSh 2), .int .i64, .int .i64, .int .i64, .int .i64, .int .i64, .int .i64, .int .i64, .int .i64]), (true, [.int .i64, .int .i64]), (false, [.sl (intSh 5)]), (false, [.sl ([.int .u32,.int .u32])]), (false, [.int .u8])]
set_option maxRecDepth 100000 in
theorem pure7 (xs : List SV) (hx : ParsFit shs7 xs) : Pure PP 7 (SV.denL xs) (SV.bool true).den := by
  obtain ⟨a0, xs0, rfl, K0, hx0⟩ := parsFit_cons hx
  obtain ⟨_, rfl, H0⟩ := parFits_agg K0
  obtain ⟨a1, xs1, rfl, K1, hx1⟩ := parsFit_cons hx0
  obtain ⟨_, rfl, H1⟩ := parFits_agg K1
  obtain ⟨a2, xs2, rfl, K2, hx2⟩ := parsFit_cons hx1
  obtain ⟨L2, E2, H2⟩ := parFits_one K2
  obtain ⟨a3, xs3, rfl, K3, hx3⟩ := parsFit_cons hx2
  obtain ⟨L3, E3, H3⟩ := parFits_one K3
  obtain ⟨a4, xs4, rfl, K4, hx4⟩ := parsFit_cons hx3
  obtain ⟨L4, E4, H4⟩ := parFits_one K4
  obtain rfl := parsFit_nil hx4
  obtain ⟨w, _, rfl, hw, H0⟩ := fitsL_int H0
  obtain ⟨h, _, rfl, hh, H0⟩ := fitsL_int H0
  obtain ⟨s, _, rfl, hs, H0⟩ := fitsL_int H0
  obtain ⟨n, g, _, rfl, hn, hg, H0⟩ := fitsL_sl H0
  obtain ⟨lo, _, rfl, hlo, H0⟩ := fitsL_int H0
  obtain ⟨hi, _, rfl, hhi, H0⟩ := fitsL_int H0
  obtain ⟨dl, _, rfl, hdl, H0⟩ := fitsL_int H0
  obtain ⟨dh, _, rfl, hdh, H0⟩ := fitsL_int H0
  obtain ⟨ll, _, rfl, hll, H0⟩ := fitsL_int H0
  obtain ⟨lh, _, rfl, hlh, H0⟩ := fitsL_int H0
  obtain ⟨c, _, rfl, hc, H0⟩ := fitsL_int H0
  obtain ⟨d, _, rfl, hd, H0⟩ := fitsL_int H0
  obtain rfl := fitsL_nil H0
  obtain ⟨a, _, rfl, ha, H1⟩ := fitsL_int H1
  obtain ⟨b, _, rfl, hb, H1⟩ := fitsL_int H1
  obtain rfl := fitsL_nil H1
  obtain ⟨m, f, _, rfl, hm, hf, H2⟩ := fitsL_sl H2
  obtain rfl := fitsL_nil H2
  cases E2
  obtain ⟨mc, e, _, rfl, hmc, he, H3⟩ := fitsL_sl H3
  obtain rfl := fitsL_nil H3
  cases E3
  obtain ⟨mk, _, rfl, hmk, hmk', H4⟩ := fitsL_ik H4
  obtain rfl := fitsL_nil H4
  cases E4
  have key : ∀ i, i < mc → ∃ a b, e i = [.int .u32 a, .int .u32 b] ∧ 0 ≤ a ∧ a ≤ 4294967295 ∧ 0 ≤ b ∧ b ≤ 4294967295 := fun i hi => by
    obtain ⟨a, ys, e1, ha, ha', H⟩ := fitsL_ik (he i hi)
    obtain ⟨b, zs, e', hb, hb', H⟩ := fitsL_ik H
    rw [fitsL_nil H] at e'
    rw [e'] at e1
    exact ⟨a, b, e1, ha, ha', hb, hb'⟩
  have hrow : RowK .u32 2 mc e := fun i hi => by
    obtain ⟨a, b, e', -⟩ := key i hi
    show leRow le0 (e i) [.int .u32 (cI e 0 i), .int .u32 (cI e 1 i)]
    have e0 : cI e 0 i = a := by simp [cI, e', asI]
    have e1 : cI e 1 i = b := by simp [cI, e', asI]
    rw [e0, e1, e']
    simp [leRow, le0]
    split
    · trivial
    · rename_i h _; exact (h rfl).elim
  have hbd : ∀ k, k < mc → 0 ≤ cI e 0 k ∧ cI e 0 k ≤ 4294967295 ∧ 0 ≤ cI e 1 k ∧ cI e 1 k ≤ 4294967295 := fun i hi => by
    obtain ⟨a, b, e', h1, h2, h3, h4⟩ := key i hi
    have e0 : cI e 0 i = a := by simp [cI, e', asI]
    have e1 : cI e 1 i = b := by simp [cI, e', asI]
    rw [e0, e1]
    exact ⟨h1, h2, h3, h4⟩
  have m1 : IntKind.u8.min = 0 := rfl
  have m2 : IntKind.u8.max = 255 := rfl
  rw [m1] at hmk
  rw [m2] at hmk'
  exact s7 _ _ _ rfl (AllP.cons.2 ⟨row_fits hg, AllP.cons.2 ⟨row_fits hf, AllP.cons.2 ⟨hrow, AllP.cons.2 ⟨hn, AllP.cons.2 ⟨hm, AllP.cons.2 ⟨hmc, AllP.cons.2 ⟨hbd, AllP.cons.2 ⟨hmk, AllP.cons.2 ⟨hmk', AllP.nil⟩⟩⟩⟩⟩⟩⟩⟩⟩)
end Sep

set_option maxRecDepth 100000 in
theorem inside_lifted (os : Os) (started : os.Started) (H : Type) (enc : TypeId × Value → H) (fresh handsOn again : Bool) :
    ReturnsInHanded {} Try.checked os 7 .any (Rows.surgeInsideSpec.pre6 enc Try.prog Try.f7 Rows.surgeInsideRow.domain false) (Rows.surgeInsideSpec.post enc Try.prog Try.f7 false fresh handsOn again) := by
  refine returnsInHanded_of_change (C := Try.checked) Sep.own started (by kernel_rfl) Try.func7
    (ChangeSpec.witness6 (enc := enc) (C := Try.checked) false ⟨#[], #[.agg #[.int .i64 0, .int .i64 0, .int .i64 0, .slice none 0 0, .int .i64 0, .int .i64 0, .int .i64 0, .int .i64 0, .int .i64 0, .int .i64 0, .int .i64 0, .int .i64 0], .agg #[.int .i64 0, .int .i64 0], .slice none 0 0, .slice none 0 0, .int .u8 0], []⟩ 8 (by kernel_rfl) (by kernel_rfl) (by kernel_rfl) (by kernel_rfl)) ?_
  intro W base args ds gs before hval0 hW _ _
  have hval : ∀ (j : Nat) t v, Try.f7.params[j]? = some t → args[j]? = some v → Value.okWide Try.prog W .any base t v := hval0
  have hW' := hW
  obtain ⟨p, q, hA0, hV, rfl, hfz, hnd⟩ := hW
  have hA : DataW.TrodAll enc Try.prog W 0 (fun _ => true) true Try.f7.params.toList args.toList ds p := hA0
  rw [Try.params7] at hA hval
  obtain ⟨rfl, rfl⟩ := trodVars_none hV
  have hl := Sep.trodAll_len hA
  obtain ⟨xs, hx, hr⟩ := Sep.pars_rel (r := .any) (b0 := base) (ss := Sep.shs7) (by kernel_rfl) (fun j t v e1 e2 => hval j t v (by simpa using e1) (by simpa using e2)) hA
  rw [Array.toArray_toList] at hr
  obtain ⟨d0, d1, d2, d3, d4, rfl⟩ : ∃ d0, ∃ d1, ∃ d2, ∃ d3, ∃ d4, ds = [d0, d1, d2, d3, d4] := by match ds, hl with | [a0, a1, a2, a3, a4], _ => exact ⟨a0, a1, a2, a3, a4, rfl⟩
  refine (Sep.calls_true (Sep.pure7 xs hx) hr).mono fun e W' ⟨he, hs⟩ => ?_
  subst he
  exact ⟨_, rfl, Sep.post_true Sep.laidOut rfl (by kernel_rfl) (tb := 4) (by kernel_rfl) Try.underlying4 rfl hW' hs⟩

theorem inside : Rows.SurgeInsideSaid :=
  OpenClaim.holds_of_wide 7 Try.f7 rfl rfl rfl rfl rfl rfl rfl ⟨rfl, rfl, rfl, rfl, rfl⟩ rfl rfl rfl rfl rfl (by kernel_rfl) Try.func7 (by kernel_rfl)
    (of_decide_eq_true (by kernel_rfl)) (by unfold Func.isWrapper; first | (rw [if_pos (by decide +kernel)]; kernel_rfl) | (rw [if_neg (by decide +kernel)]; exact ⟨rfl, rfl⟩))
    (fun os started H enc _ => inside_lifted os started H enc _ _ _)
#print axioms inside
end Go.Proofs.Ytkklmkogdogbkaa
