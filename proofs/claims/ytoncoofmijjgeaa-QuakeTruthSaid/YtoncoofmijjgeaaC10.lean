/-
  The law on QuakeTruth: for every input it answers true, and its arguments read as they did. No condition.
-/
import Derived.Test.YtoncoofmijjgeaaKN14
import Derived.Test.YtoncoofmijjgeaaKL
import Derived.Test.YtoncoofmijjgeaaRows
import Derived.JoinedOf
import Derived.JoinedAt
namespace Go.Proofs.Ytoncoofmijjgeaa
open Go Go.ChangeShapes Go.WideShapes Go.ChangeAt Go.RowKit
set_option linter.unusedVariables false
set_option linter.unusedSimpArgs false

namespace Sep
def shs10 : List (Bool × List Sh) := [(true, [.int .i64, .int .i64, .int .i64, .int .i64, .int .i64, .int .i64, .int .i64, .int .i64, .sl (intSh 1), .sl (intSh 5), .sl (intSh 6), .int .i64]), (true, [.int .u8, .int .u32, .sl ([.int .u32]), .sl ([.int .u32]), .sl ([.int .u16]), .sl ([.int .u16]), .int .u64])]
set_option maxRecDepth 100000 in
theorem pure10 (xs : List SV) (hx : ParsFit shs10 xs) : Pure PP 10 (SV.denL xs) (SV.bool true).den := by
  obtain ⟨a0, xs0, rfl, K0, hx0⟩ := parsFit_cons hx
  obtain ⟨_, rfl, H0⟩ := parFits_agg K0
  obtain ⟨a1, xs1, rfl, K1, hx1⟩ := parsFit_cons hx0
  obtain ⟨_, rfl, H1⟩ := parFits_agg K1
  obtain rfl := parsFit_nil hx1
  obtain ⟨w, _, rfl, hw, H0⟩ := fitsL_int H0
  obtain ⟨ht, _, rfl, hht, H0⟩ := fitsL_int H0
  obtain ⟨s, _, rfl, hs, H0⟩ := fitsL_int H0
  obtain ⟨v0, _, rfl, hv0, H0⟩ := fitsL_int H0
  obtain ⟨v1, _, rfl, hv1, H0⟩ := fitsL_int H0
  obtain ⟨d0, _, rfl, hd0, H0⟩ := fitsL_int H0
  obtain ⟨d1, _, rfl, hd1, H0⟩ := fitsL_int H0
  obtain ⟨r, _, rfl, hr, H0⟩ := fitsL_int H0
  obtain ⟨ns, g, _, rfl, hns, hg, H0⟩ := fitsL_sl H0
  obtain ⟨n, e, _, rfl, hn, he, H0⟩ := fitsL_sl H0
  obtain ⟨m, q, _, rfl, hm, hq, H0⟩ := fitsL_sl H0
  obtain ⟨f, _, rfl, hf, H0⟩ := fitsL_int H0
  obtain rfl := fitsL_nil H0
  obtain ⟨ix, _, rfl, hix, hix', H1⟩ := fitsL_ik H1
  obtain ⟨tm, _, rfl, htm, htm', H1⟩ := fitsL_ik H1
  obtain ⟨n1, a1, _, rfl, hn1, ha1, H1⟩ := fitsL_sl H1
  obtain ⟨n2, a2, _, rfl, hn2, ha2, H1⟩ := fitsL_sl H1
  obtain ⟨n3, a3, _, rfl, hn3, ha3, H1⟩ := fitsL_sl H1
  obtain ⟨n4, a4, _, rfl, hn4, ha4, H1⟩ := fitsL_sl H1
  obtain ⟨fl, _, rfl, hfl, hfl', H1⟩ := fitsL_ik H1
  obtain rfl := fitsL_nil H1
  have e1 : IntKind.u8.min = 0 := rfl
  have e2 : IntKind.u8.max = 255 := rfl
  have e3 : IntKind.u32.min = 0 := rfl
  have e4 : IntKind.u32.max = 4294967295 := rfl
  have key : ∀ {kd : IntKind} {nn : Nat} {b : Nat → List SV}, (∀ i, i < nn → FitsL [.int kd] (b i)) → RowK kd 1 nn b ∧ ∀ i, i < nn → kd.min ≤ cI b 0 i ∧ cI b 0 i ≤ kd.max := fun {kd nn b} hb => by
    have k0 : ∀ i, i < nn → ∃ a, b i = [.int kd a] ∧ kd.min ≤ a ∧ a ≤ kd.max := fun i hi => by
      obtain ⟨a, ys, e, ha, ha', H⟩ := fitsL_ik (hb i hi)
      rw [fitsL_nil H] at e
      exact ⟨a, e, ha, ha'⟩
    refine ⟨fun i hi => ?_, fun i hi => ?_⟩
    · obtain ⟨a, e, -⟩ := k0 i hi
      show leRow le0 (b i) [.int kd (cI b 0 i)]
      have e0 : cI b 0 i = a := by simp [cI, e, asI]
      rw [e0, e]
      simp [leRow, le0]
      split
      · trivial
      · rename_i h _; exact (h rfl).elim
    · obtain ⟨a, e, h1, h2⟩ := k0 i hi
      have e0 : cI b 0 i = a := by simp [cI, e, asI]
      omega
  obtain ⟨j1, b1⟩ := key ha1
  obtain ⟨j2, b2⟩ := key ha2
  obtain ⟨j3, b3⟩ := key ha3
  obtain ⟨j4, b4⟩ := key ha4
  exact s10 (row_fits hg) (row_fits he) (row_fits hq) j1 j2 j3 j4 (by omega) (by omega) b1 b2 b3 b4
end Sep

set_option maxRecDepth 100000 in
theorem truth_lifted (os : Os) (started : os.Started) (H : Type) (enc : TypeId × Value → H) (fresh handsOn again : Bool) :
    ReturnsInHanded {} Try.checked os 10 .any (Rows.quakeTruthSpec.pre6 enc Try.prog Try.f10 Rows.quakeTruthRow.domain false) (Rows.quakeTruthSpec.post enc Try.prog Try.f10 false fresh handsOn again) := by
  refine returnsInHanded_of_change (C := Try.checked) Sep.own started (by kernel_rfl) Try.func10
    (ChangeSpec.witness6 (enc := enc) (C := Try.checked) false ⟨#[], #[.agg #[.int .i64 0, .int .i64 0, .int .i64 0, .int .i64 0, .int .i64 0, .int .i64 0, .int .i64 0, .int .i64 0, .slice none 0 0, .slice none 0 0, .slice none 0 0, .int .i64 0], .agg #[.int .u8 0, .int .u32 0, .slice none 0 0, .slice none 0 0, .slice none 0 0, .slice none 0 0, .int .u64 0]], []⟩ 8 (by kernel_rfl) (by kernel_rfl) (by kernel_rfl) (by kernel_rfl)) ?_
  intro W base args ds gs before hval0 hW _ _
  have hval : ∀ (j : Nat) t v, Try.f10.params[j]? = some t → args[j]? = some v → Value.okWide Try.prog W .any base t v := hval0
  have hW' := hW
  obtain ⟨p, q, hA0, hV, rfl, hfz, hnd⟩ := hW
  have hA : DataW.TrodAll enc Try.prog W 0 (fun _ => true) true Try.f10.params.toList args.toList ds p := hA0
  rw [Try.params10] at hA hval
  obtain ⟨rfl, rfl⟩ := trodVars_none hV
  have hl := Sep.trodAll_len hA
  obtain ⟨xs, hx, hr⟩ := Sep.pars_rel (r := .any) (b0 := base) (ss := Sep.shs10) (by kernel_rfl) (fun j t v e1 e2 => hval j t v (by simpa using e1) (by simpa using e2)) hA
  rw [Array.toArray_toList] at hr
  obtain ⟨d0, d1, rfl⟩ : ∃ d0, ∃ d1, ds = [d0, d1] := by match ds, hl with | [a0, a1], _ => exact ⟨a0, a1, rfl⟩
  refine (Sep.calls_true (Sep.pure10 xs hx) hr).mono fun e W' ⟨he, hs⟩ => ?_
  subst he
  exact ⟨_, rfl, Sep.post_true Sep.laidOut rfl (by kernel_rfl) (tb := 4) (by kernel_rfl) Try.underlying4 rfl hW' hs⟩

theorem truth : Rows.QuakeTruthSaid :=
  OpenClaim.holds_of_wide 10 Try.f10 rfl rfl rfl rfl rfl rfl rfl ⟨rfl, rfl, rfl, rfl, rfl⟩ rfl rfl rfl rfl rfl (by kernel_rfl) Try.func10 (by kernel_rfl)
    (of_decide_eq_true (by kernel_rfl)) (by unfold Func.isWrapper; first | (rw [if_pos (by decide +kernel)]; kernel_rfl) | (rw [if_neg (by decide +kernel)]; exact ⟨rfl, rfl⟩))
    (fun os started H enc _ => truth_lifted os started H enc _ _ _)
#print axioms truth
end Go.Proofs.Ytoncoofmijjgeaa
