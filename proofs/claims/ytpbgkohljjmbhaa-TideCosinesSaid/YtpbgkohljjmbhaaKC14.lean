/-
  The law of cosines. No condition. (This text proves no statement by itself.)
-/
import Derived.Test.YtpbgkohljjmbhaaKC13

namespace Go.Proofs.Ytpbgkohljjmbhaa.Sep
open Go
set_option linter.unusedVariables false
set_option linter.unusedSimpArgs false
def e3 : List SV → Option (List Prop × SV)
  | [.agg [.int .i64 lo, .int .i64 hi]] => some ([], .bool true)
  | _ => none
def Rr3 (lo hi : Int) : Prop := ((decide ((if M.cosE lo hi = (0 : Int) then M.bLo lo hi else (0 : Int)) = if M.cosE lo hi = (0 : Int) then M.bLo lo hi else (0 : Int)) && (decide ((if M.cosE lo hi = (0 : Int) then M.bHi lo hi else (0 : Int)) = if M.cosE lo hi = (0 : Int) then M.bHi lo hi else (0 : Int)) && true)) = true → (decide ((if M.cosE lo hi = (0 : Int) then M.bLo lo hi else (0 : Int)) = if M.cosE lo hi = (0 : Int) then M.bLo lo hi else (0 : Int)) && (decide ((if M.cosE lo hi = (0 : Int) then M.bHi lo hi else (0 : Int)) = if M.cosE lo hi = (0 : Int) then M.bHi lo hi else (0 : Int)) && true)) = true) ∧ ((decide ((if M.cosE lo hi = (0 : Int) then M.bLo lo hi else (0 : Int)) = if M.cosE lo hi = (0 : Int) then M.bLo lo hi else (0 : Int)) && (decide ((if M.cosE lo hi = (0 : Int) then M.bHi lo hi else (0 : Int)) = if M.cosE lo hi = (0 : Int) then M.bHi lo hi else (0 : Int)) && true)) = true → (decide ((if M.cosE lo hi = (0 : Int) then M.bLo lo hi else (0 : Int)) = if M.cosE lo hi = (0 : Int) then M.bLo lo hi else (0 : Int)) && (decide ((if M.cosE lo hi = (0 : Int) then M.bHi lo hi else (0 : Int)) = if M.cosE lo hi = (0 : Int) then M.bHi lo hi else (0 : Int)) && true)) = true) ∧ ((decide ((if M.cosE lo hi = (0 : Int) then M.bLo lo hi else (0 : Int)) = if M.cosE lo hi = (0 : Int) then M.bLo lo hi else (0 : Int)) && (decide ((if M.cosE lo hi = (0 : Int) then M.bHi lo hi else (0 : Int)) = if M.cosE lo hi = (0 : Int) then M.bHi lo hi else (0 : Int)) && true)) = true → (decide ((if M.cosE lo hi = (0 : Int) then M.bLo lo hi else (0 : Int)) = if M.cosE lo hi = (0 : Int) then M.bLo lo hi else (0 : Int)) && (decide ((if M.cosE lo hi = (0 : Int) then M.bHi lo hi else (0 : Int)) = if M.cosE lo hi = (0 : Int) then M.bHi lo hi else (0 : Int)) && true)) = true) ∧ ((bif decide ((if M.cosE lo hi = (0 : Int) then M.bLo lo hi else (0 : Int)) = if M.cosE lo hi = (0 : Int) then M.bLo lo hi else (0 : Int)) && (decide ((if M.cosE lo hi = (0 : Int) then M.bHi lo hi else (0 : Int)) = if M.cosE lo hi = (0 : Int) then M.bHi lo hi else (0 : Int)) && true) then decide (M.cosE lo hi = M.cosE lo hi) else false) = true → (bif decide ((if M.cosE lo hi = (0 : Int) then M.bLo lo hi else (0 : Int)) = if M.cosE lo hi = (0 : Int) then M.bLo lo hi else (0 : Int)) && (decide ((if M.cosE lo hi = (0 : Int) then M.bHi lo hi else (0 : Int)) = if M.cosE lo hi = (0 : Int) then M.bHi lo hi else (0 : Int)) && true) then decide (M.cosE lo hi = M.cosE lo hi) else false) = true) ∧ (bif bif decide ((if M.cosE lo hi = (0 : Int) then M.bLo lo hi else (0 : Int)) = if M.cosE lo hi = (0 : Int) then M.bLo lo hi else (0 : Int)) && (decide ((if M.cosE lo hi = (0 : Int) then M.bHi lo hi else (0 : Int)) = if M.cosE lo hi = (0 : Int) then M.bHi lo hi else (0 : Int)) && true) then decide (M.cosE lo hi = M.cosE lo hi) else false then true else false) = true
theorem r3 (lo hi : Int) : V true eqs [(11, pureE e11), (12, pureE e12), (13, pureE e13)] Try.f3 [0,1,2,3,4,5,6] [] [.agg [SI lo, SI hi]] (.bool true) = Rr3 lo hi := by kernel_rfl
theorem br3 (lo hi : Int)  : Rr3 lo hi := by
  unfold Rr3
  simp
theorem s3 : PureOK PP 3 e3 := by
  intro xs ps res h hp
  unfold e3 at h
  split at h
  · rename_i lo hi
    simp only [Option.some.injEq, Prod.mk.injEq] at h
    obtain ⟨rfl, rfl⟩ := h
    clear hp
    refine enter (L := [0,1,2,3,4,5,6]) (LO := []) (E := eqs) (O := [(11, pureE e11), (12, pureE e12), (13, pureE e13)]) (ck := true) (eqsok) (.cons (pureE_ok s11) (.cons (pureE_ok s12) (.cons (pureE_ok s13) (.nil)))) (k := 3) (f := Try.f3) (xs := [.agg [SI lo, SI hi]]) (r := (.bool true)) (by kernel_rfl) (by kernel_rfl) (fun _ => .nil) ?_
    exact Hold.of (r3 lo hi) (br3 lo hi )
  · cases h
end Go.Proofs.Ytpbgkohljjmbhaa.Sep
