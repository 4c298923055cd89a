/-
  The law on TideLow: for every input it answers true, and its arguments read as they did. No condition.
-/
import Derived.Test.YtpbgkohljjmbhaaKT18
import Derived.Test.YtpbgkohljjmbhaaKL
import Derived.Test.YtpbgkohljjmbhaaRows
import Derived.JoinedOf
import Derived.JoinedAt
namespace Go.Proofs.Ytpbgkohljjmbhaa
open Go Go.ChangeShapes Go.WideShapes Go.ChangeAt Go.RowKit
set_option linter.unusedVariables false
set_option linter.unusedSimpArgs false

namespace Sep
def shs9 : List (Bool × List Sh) := [(false, [.int .i16]), (false, [.sl ([.int .u32,.int .u32,.int .u32])]), (false, [.int .u32]), (false, [.int .u32]), (false, [.int .u8]), (false, [.int .i16]), (false, [.int .u8]), (false, [.int .u32])]
set_option maxRecDepth 100000 in
theorem pure9 (xs : List SV) (hx : ParsFit shs9 xs) : Pure PP 9 (SV.denL xs) (SV.bool true).den := by
  obtain ⟨a0, xs0, rfl, K0, hx0⟩ := parsFit_cons hx
  obtain ⟨L0, E0, H0⟩ := parFits_one K0
  obtain ⟨a1, xs1, rfl, K1, hx1⟩ := parsFit_cons hx0
  obtain ⟨L1, E1, H1⟩ := parFits_one K1
  obtain ⟨a2, xs2, rfl, K2, hx2⟩ := parsFit_cons hx1
  obtain ⟨L2, E2, H2⟩ := parFits_one K2
  obtain ⟨a3, xs3, rfl, K3, hx3⟩ := parsFit_cons hx2
  obtain ⟨L3, E3, H3⟩ := parFits_one K3
  obtain ⟨a4, xs4, rfl, K4, hx4⟩ := parsFit_cons hx3
  obtain ⟨L4, E4, H4⟩ := parFits_one K4
  obtain ⟨a5, xs5, rfl, K5, hx5⟩ := parsFit_cons hx4
  obtain ⟨L5, E5, H5⟩ := parFits_one K5
  obtain ⟨a6, xs6, rfl, K6, hx6⟩ := parsFit_cons hx5
  obtain ⟨L6, E6, H6⟩ := parFits_one K6
  obtain ⟨a7, xs7, rfl, K7, hx7⟩ := parsFit_cons hx6
  obtain ⟨L7, E7, H7⟩ := parFits_one K7
  obtain rfl := parsFit_nil hx7
  obtain ⟨mm, _, rfl, hmm, hmm', H0⟩ := fitsL_ik H0
  obtain rfl := fitsL_nil H0
  cases E0
  obtain ⟨n, g, _, rfl, hn, hg, H1⟩ := fitsL_sl H1
  obtain rfl := fitsL_nil H1
  cases E1
  obtain ⟨f, _, rfl, hf, hf', H2⟩ := fitsL_ik H2
  obtain rfl := fitsL_nil H2
  cases E2
  obtain ⟨l, _, rfl, hl, hl', H3⟩ := fitsL_ik H3
  obtain rfl := fitsL_nil H3
  cases E3
  obtain ⟨c, _, rfl, hc, hc', H4⟩ := fitsL_ik H4
  obtain rfl := fitsL_nil H4
  cases E4
  obtain ⟨lv, _, rfl, hlv, hlv', H5⟩ := fitsL_ik H5
  obtain rfl := fitsL_nil H5
  cases E5
  obtain ⟨mo, _, rfl, hmo, hmo', H6⟩ := fitsL_ik H6
  obtain rfl := fitsL_nil H6
  cases E6
  obtain ⟨z, _, rfl, hz, hz', H7⟩ := fitsL_ik H7
  obtain rfl := fitsL_nil H7
  cases E7
  have key_g : ∀ i, i < n → ∃ a b c, g i = [.int .u32 a, .int .u32 b, .int .u32 c] ∧ 0 ≤ a ∧ a ≤ 4294967295 ∧ 0 ≤ b ∧ b ≤ 4294967295 ∧ 0 ≤ c ∧ c ≤ 4294967295 := fun i hi => by
    obtain ⟨a, ys, e, ha, ha', H⟩ := fitsL_ik (hg i hi)
    obtain ⟨b, zs, e', hb, hb', H⟩ := fitsL_ik H
    obtain ⟨c, vs, e'', hc, hc', H⟩ := fitsL_ik H
    rw [fitsL_nil H] at e''
    rw [e''] at e'
    rw [e'] at e
    exact ⟨a, b, c, e, ha, ha', hb, hb', hc, hc'⟩
  have row_g : RowK .u32 3 n g := fun i hi => by
    obtain ⟨a, b, c, e, -⟩ := key_g i hi
    show leRow le0 (g i) [.int .u32 (cI g 0 i), .int .u32 (cI g 1 i), .int .u32 (cI g 2 i)]
    have e0 : cI g 0 i = a := by simp [cI, e, asI]
    have e1 : cI g 1 i = b := by simp [cI, e, asI]
    have e2 : cI g 2 i = c := by simp [cI, e, asI]
    rw [e0, e1, e2, e]
    simp [leRow, le0]
    split
    · trivial
    · rename_i h _; exact (h rfl).elim
  have hbd_g : M.inU n (cI g 0) (cI g 1) (cI g 2) := fun i hi => by
    obtain ⟨a, b, c, e, h1, h2, h3, h4, h5, h6⟩ := key_g i hi
    have e0 : cI g 0 i = a := by simp [cI, e, asI]
    have e1 : cI g 1 i = b := by simp [cI, e, asI]
    have e2 : cI g 2 i = c := by simp [cI, e, asI]
    rw [e0, e1, e2]
    exact ⟨h1, h2, h3, h4, h5, h6⟩
  have e1 : IntKind.i16.min = -32768 := rfl
  have e2 : IntKind.i16.max = 32767 := rfl
  have e3 : IntKind.u32.min = 0 := rfl
  have e4 : IntKind.u32.max = 4294967295 := rfl
  have e5 : IntKind.u8.min = 0 := rfl
  have e6 : IntKind.u8.max = 255 := rfl
  rw [e1] at hmm hlv
  rw [e2] at hmm' hlv'
  rw [e3] at hf hl hz
  rw [e4] at hf' hl' hz'
  rw [e5] at hc hmo
  rw [e6] at hc' hmo'
  exact s9 _ _ _ rfl (AllP.cons.2 ⟨row_g, AllP.cons.2 ⟨hn, AllP.cons.2 ⟨hmm, AllP.cons.2 ⟨hmm', AllP.cons.2 ⟨hbd_g, AllP.cons.2 ⟨hf, AllP.cons.2 ⟨hf', AllP.cons.2 ⟨hl, AllP.cons.2 ⟨hl', AllP.cons.2 ⟨hc, AllP.cons.2 ⟨hc', AllP.cons.2 ⟨hlv, AllP.cons.2 ⟨hlv', AllP.cons.2 ⟨hmo, AllP.cons.2 ⟨hmo', AllP.cons.2 ⟨hz, AllP.cons.2 ⟨hz', AllP.nil⟩⟩⟩⟩⟩⟩⟩⟩⟩⟩⟩⟩⟩⟩⟩⟩⟩)
end Sep

set_option maxRecDepth 100000 in
theorem low_lifted (os : Os) (started : os.Started) (H : Type) (enc : TypeId × Value → H) (fresh handsOn again : Bool) :
    ReturnsInHanded {} Try.checked os 9 .any (Rows.tideLowSpec.pre6 enc Try.prog Try.f9 Rows.tideLowRow.domain false) (Rows.tideLowSpec.post enc Try.prog Try.f9 false fresh handsOn again) := by
  refine returnsInHanded_of_change (C := Try.checked) Sep.own started (by kernel_rfl) Try.func9
    (ChangeSpec.witness6 (enc := enc) (C := Try.checked) false ⟨#[], #[.int .i16 0, .slice none 0 0, .int .u32 0, .int .u32 0, .int .u8 0, .int .i16 0, .int .u8 0, .int .u32 0], []⟩ 8 (by kernel_rfl) (by kernel_rfl) (by kernel_rfl) (by kernel_rfl)) ?_
  intro W base args ds gs before hval0 hW _ _
  have hval : ∀ (j : Nat) t v, Try.f9.params[j]? = some t → args[j]? = some v → Value.okWide Try.prog W .any base t v := hval0
  have hW' := hW
  obtain ⟨p, q, hA0, hV, rfl, hfz, hnd⟩ := hW
  have hA : DataW.TrodAll enc Try.prog W 0 (fun _ => true) true Try.f9.params.toList args.toList ds p := hA0
  rw [Try.params9] at hA hval
  obtain ⟨rfl, rfl⟩ := trodVars_none hV
  have hl := Sep.trodAll_len hA
  obtain ⟨xs, hx, hr⟩ := Sep.pars_rel (r := .any) (b0 := base) (ss := Sep.shs9) (by kernel_rfl) (fun j t v e1 e2 => hval j t v (by simpa using e1) (by simpa using e2)) hA
  rw [Array.toArray_toList] at hr
  obtain ⟨d0, d1, d2, d3, d4, d5, d6, d7, rfl⟩ : ∃ d0, ∃ d1, ∃ d2, ∃ d3, ∃ d4, ∃ d5, ∃ d6, ∃ d7, ds = [d0, d1, d2, d3, d4, d5, d6, d7] := by match ds, hl with | [a0, a1, a2, a3, a4, a5, a6, a7], _ => exact ⟨a0, a1, a2, a3, a4, a5, a6, a7, rfl⟩
  refine (Sep.calls_true (Sep.pure9 xs hx) hr).mono fun e W' ⟨he, hs⟩ => ?_
  subst he
  exact ⟨_, rfl, Sep.post_true Sep.laidOut rfl (by kernel_rfl) (tb := 4) (by kernel_rfl) Try.underlying4 rfl hW' hs⟩

theorem low : Rows.TideLowSaid :=
  OpenClaim.holds_of_wide 9 Try.f9 rfl rfl rfl rfl rfl rfl rfl ⟨rfl, rfl, rfl, rfl, rfl⟩ rfl rfl rfl rfl rfl (by kernel_rfl) Try.func9 (by kernel_rfl)
    (of_decide_eq_true (by kernel_rfl)) (by unfold Func.isWrapper; first | (rw [if_pos (by decide +kernel)]; kernel_rfl) | (rw [if_neg (by decide +kernel)]; exact ⟨rfl, rfl⟩))
    (fun os started H enc _ => low_lifted os started H enc _ _ _)
#print axioms low
end Go.Proofs.Ytpbgkohljjmbhaa
