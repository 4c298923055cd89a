/-
  Products, squares, spans within others, and one cosine. No condition. (This text proves no statement by itself.)
-/
import Derived.Test.YtpbgkohljjmbhaaKC13
import Derived.Test.YtpbgkohljjmbhaaKT11

namespace Go.Proofs.Ytpbgkohljjmbhaa.M
def p4 (a b c d : Int) (j : Nat) : Int := if j = 0 then a * c else if j = 1 then a * d else if j = 2 then b * c else b * d
def p4lo (a b c d : Int) : Nat → Int
  | 0 => a * c
  | k + 1 => min (p4lo a b c d k) (p4 a b c d k)
def p4hi (a b c d : Int) : Nat → Int
  | 0 => a * c
  | k + 1 => max (p4hi a b c d k) (p4 a b c d k)
theorem p4_all (a b c d : Int) : p4lo a b c d 4 = pLo a b c d ∧ p4hi a b c d 4 = pHi a b c d := by
  simp [p4lo, p4hi, p4, pLo, pHi]
end Go.Proofs.Ytpbgkohljjmbhaa.M
namespace Go.Proofs.Ytpbgkohljjmbhaa.Sep
open Go
set_option linter.unusedVariables false
set_option linter.unusedSimpArgs false
def lp32 (a b c d : Int) : LoopS where
  ι := Nat
  β := Unit
  pre k := k ≤ 4
  μ k := 4 - k
  next k _ _ _ := k + 1
  out _ := ()
  early _ := false
  SA k := [(4, .ptr 0 0), (6, .ptr 1 0), (37, .vec 2 1 0 4), (38, SI 4), (39, SI k)]
  SH k := [(0, .cells [.top, .top]), (1, .cells [SI (M.p4lo a b c d k), SI (M.p4hi a b c d k)]), (2, .row 1 4 (fun j => [SI (M.p4 a b c d j)]))]
  n0 := 3
  NA _ := [(4, .ptr 0 0), (6, .ptr 1 0)]
  NH _ := [(0, .cells [.top, .top]), (1, .cells [SI (M.pLo a b c d), SI (M.pHi a b c d)])]
  n1 := 2
  RA _ := []
  RH _ := []
def Rq32 (a b c d : Int) (k : Nat) : Prop := (decide ((↑k : Int) < (4 : Int)) = true → (0 : Int) ≤ (↑k : Int) ∧ (↑k : Int) < (↑(4 : Nat) : Int) ∧ (0 : Nat) + Int.toNat (↑k : Int) < (4 : Nat) ∧ R64 ((↑k : Int) + (1 : Int)) ∧ k + (1 : Nat) ≤ (4 : Nat) ∧ (4 : Nat) - (k + (1 : Nat)) < (4 : Nat) - k ∧ () = () ∧ (0 : Nat) = (0 : Nat) ∧ (4 : Nat) = (4 : Nat) ∧ (4 : Int) = (4 : Int) ∧ (↑k : Int) + (1 : Int) = (↑(k + (1 : Nat)) : Int) ∧ min (M.p4lo a b c d k) (M.p4 a b c d ((0 : Nat) + Int.toNat (↑k : Int))) = M.p4lo a b c d (k + (1 : Nat)) ∧ max (M.p4hi a b c d k) (M.p4 a b c d ((0 : Nat) + Int.toNat (↑k : Int))) = M.p4hi a b c d (k + (1 : Nat)) ∧ (4 : Nat) ≤ (4 : Nat) ∧ (∀ (k : Nat), k < (4 : Nat) → M.p4 a b c d k = M.p4 a b c d k) ∧ True) ∧ (decide ((↑k : Int) < (4 : Int)) = false → false = false ∧ M.p4lo a b c d k = M.pLo a b c d ∧ M.p4hi a b c d k = M.pHi a b c d ∧ True)
theorem q32 (a b c d : Int) (k : Nat) : VL true [] [(30, pureE e30)] YS.none Try.f32 0 [0,1,2,3,4,5,6,8,37,38,39,40] [] 0 (lp32 a b c d) (k) = Rq32 a b c d k := by kernel_rfl
theorem peq32 (a b c d : Int) (k : Nat) : (lp32 a b c d).pre (k) = (k ≤ (4 : Nat)) := by kernel_rfl
theorem bq32 (a b c d : Int) (k : Nat) (hp : k ≤ (4 : Nat)) : Rq32 a b c d k := by
  unfold Rq32
  obtain ⟨p1, p2⟩ := M.p4_all a b c d
  simp only [Int.toNat_natCast]
  unfold R64
  refine ⟨fun hlt => ?_, fun hlt => ?_⟩
  · simp only [decide_eq_true_eq] at hlt
    simp [M.p4lo, M.p4hi]
    omega
  · simp only [decide_eq_false_iff_not] at hlt
    have : k = 4 := by omega
    subst this
    simp [p1, p2]
theorem t32 (a b c d : Int) {F : Fence} (hF : FOK F) (Y : YEnv PP YS.none) : ∀ Q A H nx, loopT false Try.f32.ntmps 0 (lp32 a b c d) (fun _ _ _ => (0 : Nat)) Q A H nx → WPS Y F Try.f32.ntmps 0 (.block 0 (blkAt 0 Try.f32)) Q A H nx :=
  loopW (E := []) (.nil) (O := [(30, pureE e30)]) (.cons (pureE_ok s30) (.nil)) (ck := true) (L := [0,1,2,3,4,5,6,8,37,38,39,40]) (f := Try.f32) (m := 0) (id := 0) (l := (lp32 a b c d)) (LI := fun i => []) Y hF (by kernel_rfl) (fun _ => .nil) (by
    rintro k hp
    exact Hold.of (q32 a b c d k) (bq32 a b c d k ((peq32 a b c d k).mp hp)))
def e32 : List SV → Option (List Prop × SV)
  | [.agg [.int .i64 a, .int .i64 b], .agg [.int .i64 c, .int .i64 d]] => some ([R64 (a * c), R64 (a * d), R64 (b * c), R64 (b * d)], .agg [SI (M.pLo a b c d), SI (M.pHi a b c d)])
  | _ => none
def Rr32 (a b c d : Int) : Prop := R64 (a * c) ∧ R64 (a * d) ∧ R64 (b * c) ∧ R64 (b * d) ∧ (0 : Int) ≤ (0 : Int) ∧ (0 : Int) < (↑(4 : Nat) : Int) ∧ (0 : Nat) + Int.toNat (0 : Int) < (4 : Nat) ∧ (0 : Int) ≤ (0 : Int) ∧ (0 : Int) < (↑(4 : Nat) : Int) ∧ (0 : Nat) + Int.toNat (0 : Int) < (4 : Nat) ∧ (0 : Nat) ≤ (4 : Nat) ∧ ((0 : Nat) = (0 : Nat) ∧ (4 : Nat) = (4 : Nat) ∧ (↑(4 : Nat) : Int) = (4 : Int) ∧ (0 : Int) = (↑(0 : Nat) : Int) ∧ (bif decide ((0 : Nat) + Int.toNat (0 : Int) = (3 : Nat)) then b * d else bif decide ((0 : Nat) + Int.toNat (0 : Int) = (2 : Nat)) then b * c else bif decide ((0 : Nat) + Int.toNat (0 : Int) = (1 : Nat)) then a * d else bif decide ((0 : Nat) + Int.toNat (0 : Int) = (0 : Nat)) then a * c else (0 : Int)) = M.p4lo a b c d (0 : Nat) ∧ (bif decide ((0 : Nat) + Int.toNat (0 : Int) = (3 : Nat)) then b * d else bif decide ((0 : Nat) + Int.toNat (0 : Int) = (2 : Nat)) then b * c else bif decide ((0 : Nat) + Int.toNat (0 : Int) = (1 : Nat)) then a * d else bif decide ((0 : Nat) + Int.toNat (0 : Int) = (0 : Nat)) then a * c else (0 : Int)) = M.p4hi a b c d (0 : Nat) ∧ (4 : Nat) ≤ (4 : Nat) ∧ (∀ (k : Nat), k < (4 : Nat) → (bif decide (k = (3 : Nat)) then b * d else bif decide (k = (2 : Nat)) then b * c else bif decide (k = (1 : Nat)) then a * d else bif decide (k = (0 : Nat)) then a * c else (0 : Int)) = M.p4 a b c d k) ∧ True) ∧ (false = false → M.pLo a b c d = M.pLo a b c d ∧ M.pHi a b c d = M.pHi a b c d) ∧ (false = true → False)
theorem r32 (a b c d : Int) : V true [] [(30, pureE e30)] Try.f32 [0,1,2,3,4,5,6,8,37,38,39,40] [(0, loopT false Try.f32.ntmps 0 (lp32 a b c d) (fun _ _ _ => (0 : Nat)))] [.agg [SI a, SI b], .agg [SI c, SI d]] (.agg [SI (M.pLo a b c d), SI (M.pHi a b c d)]) = Rr32 a b c d := by kernel_rfl
theorem br32 (a b c d : Int) (hp : (R64 (a * c)) ∧ (R64 (a * d)) ∧ (R64 (b * c)) ∧ (R64 (b * d)) ∧ AllP []) : Rr32 a b c d := by
  unfold Rr32
  simp [hp, M.p4lo, M.p4hi, M.p4]
  intro k hk
  have : k = 0 ∨ k = 1 ∨ k = 2 ∨ k = 3 := by omega
  rcases this with e | e | e | e <;> subst e <;> simp
theorem s32 : PureOK PP 32 e32 := by
  intro xs ps res h hp
  unfold e32 at h
  split at h
  · rename_i a b c d
    simp only [Option.some.injEq, Prod.mk.injEq] at h
    obtain ⟨rfl, rfl⟩ := h
    simp only [AllP.cons] at hp
    refine enter (L := [0,1,2,3,4,5,6,8,37,38,39,40]) (LO := [(0, loopT false Try.f32.ntmps 0 (lp32 a b c d) (fun _ _ _ => (0 : Nat)))]) (E := []) (O := [(30, pureE e30)]) (ck := true) (.nil) (.cons (pureE_ok s30) (.nil)) (k := 32) (f := Try.f32) (xs := [.agg [SI a, SI b], .agg [SI c, SI d]]) (r := (.agg [SI (M.pLo a b c d), SI (M.pHi a b c d)])) (by kernel_rfl) (by kernel_rfl) (fun Y => .cons (by kernel_rfl) (t32 a b c d FOK.wide Y) (.nil)) ?_
    exact Hold.of (r32 a b c d) (br32 a b c d hp)
  · cases h
def e31 : List SV → Option (List Prop × SV)
  | [.agg [.int .i64 a, .int .i64 b]] => some ([R64 (a * a), R64 (a * b), R64 (b * a), R64 (b * b)], .agg [SI (M.sLo a b), SI (M.sHi a b)])
  | _ => none
def Rr31 (a b : Int) : Prop := R64 (a * a) ∧ R64 (a * b) ∧ R64 (b * a) ∧ R64 (b * b) ∧ (decide (a ≤ (0 : Int)) = true → decide (a ≤ (0 : Int)) = true) ∧ (decide (a ≤ (0 : Int)) = true → decide (a ≤ (0 : Int)) = true) ∧ (decide (a ≤ (0 : Int)) = true → decide (a ≤ (0 : Int)) = true) ∧ ((bif decide (a ≤ (0 : Int)) then decide ((0 : Int) ≤ b) else false) = true → (0 : Int) = M.sLo a b ∧ M.pHi a b a b = M.sHi a b) ∧ ((bif decide (a ≤ (0 : Int)) then decide ((0 : Int) ≤ b) else false) = false → M.pLo a b a b = M.sLo a b ∧ M.pHi a b a b = M.sHi a b)
theorem r31 (a b : Int) : V true [] [(32, pureE e32)] Try.f31 [0,1,2,3,14] [] [.agg [SI a, SI b]] (.agg [SI (M.sLo a b), SI (M.sHi a b)]) = Rr31 a b := by kernel_rfl
theorem br31 (a b : Int) (hp : (R64 (a * a)) ∧ (R64 (a * b)) ∧ (R64 (b * a)) ∧ (R64 (b * b)) ∧ AllP []) : Rr31 a b := by
  unfold Rr31
  simp only [M.sLo, M.sHi]
  by_cases h1 : a ≤ 0 <;> by_cases h2 : 0 ≤ b <;> simp [hp, h1, h2]
theorem s31 : PureOK PP 31 e31 := by
  intro xs ps res h hp
  unfold e31 at h
  split at h
  · rename_i a b
    simp only [Option.some.injEq, Prod.mk.injEq] at h
    obtain ⟨rfl, rfl⟩ := h
    simp only [AllP.cons] at hp
    refine enter (L := [0,1,2,3,14]) (LO := []) (E := []) (O := [(32, pureE e32)]) (ck := true) (.nil) (.cons (pureE_ok s32) (.nil)) (k := 31) (f := Try.f31) (xs := [.agg [SI a, SI b]]) (r := (.agg [SI (M.sLo a b), SI (M.sHi a b)])) (by kernel_rfl) (by kernel_rfl) (fun _ => .nil) ?_
    exact Hold.of (r31 a b) (br31 a b hp)
  · cases h
def e33 : List SV → Option (List Prop × SV)
  | [.agg [.int .i64 a, .int .i64 b], .agg [.int .i64 c, .int .i64 d]] => some ([], .bool (decide (max a c ≤ min b d)))
  | _ => none
def Rr33 (a b c d : Int) : Prop := decide (max a c ≤ min b d) = decide (max a c ≤ min b d)
theorem r33 (a b c d : Int) : V true [] [] Try.f33 [0,1,2,3,4] [] [.agg [SI a, SI b], .agg [SI c, SI d]] (.bool (decide (max a c ≤ min b d))) = Rr33 a b c d := by kernel_rfl
theorem br33 (a b c d : Int)  : Rr33 a b c d := by
  unfold Rr33
  simp
theorem s33 : PureOK PP 33 e33 := by
  intro xs ps res h hp
  unfold e33 at h
  split at h
  · rename_i a b c d
    simp only [Option.some.injEq, Prod.mk.injEq] at h
    obtain ⟨rfl, rfl⟩ := h
    clear hp
    refine enter (L := [0,1,2,3,4]) (LO := []) (E := []) (O := []) (ck := true) (.nil) (.nil) (k := 33) (f := Try.f33) (xs := [.agg [SI a, SI b], .agg [SI c, SI d]]) (r := (.bool (decide (max a c ≤ min b d)))) (by kernel_rfl) (by kernel_rfl) (fun _ => .nil) ?_
    exact Hold.of (r33 a b c d) (br33 a b c d )
  · cases h
def e34 : List SV → Option (List Prop × SV)
  | [.agg [.int .i64 a, .int .i64 b], .agg [.int .i64 c, .int .i64 d]] => some ([], .bool (decide (c ≤ a) && decide (b ≤ d) && decide (a ≤ b)))
  | _ => none
def Rr34 (a b c d : Int) : Prop := (decide (c ≤ a) = true → decide (c ≤ a) = true) ∧ (decide (c ≤ a) = true → decide (c ≤ a) = true) ∧ (decide (c ≤ a) = true → decide (c ≤ a) = true) ∧ (decide (c ≤ a) = true → decide (c ≤ a) = true) ∧ (decide (c ≤ a) = true → decide (c ≤ a) = true) ∧ ((bif decide (c ≤ a) then decide (b ≤ d) else false) = true → (bif decide (c ≤ a) then decide (b ≤ d) else false) = true) ∧ ((bif decide (c ≤ a) then decide (b ≤ d) else false) = true → (bif decide (c ≤ a) then decide (b ≤ d) else false) = true) ∧ ((bif decide (c ≤ a) then decide (b ≤ d) else false) = true → (bif decide (c ≤ a) then decide (b ≤ d) else false) = true) ∧ ((bif decide (c ≤ a) then decide (b ≤ d) else false) = true → (bif decide (c ≤ a) then decide (b ≤ d) else false) = true) ∧ ((bif decide (c ≤ a) then decide (b ≤ d) else false) = true → (bif decide (c ≤ a) then decide (b ≤ d) else false) = true) ∧ (bif bif decide (c ≤ a) then decide (b ≤ d) else false then decide (a ≤ b) else false) = (decide (c ≤ a) && decide (b ≤ d) && decide (a ≤ b))
theorem r34 (a b c d : Int) : V true [] [] Try.f34 [0,1,2,3,4] [] [.agg [SI a, SI b], .agg [SI c, SI d]] (.bool (decide (c ≤ a) && decide (b ≤ d) && decide (a ≤ b))) = Rr34 a b c d := by kernel_rfl
theorem br34 (a b c d : Int)  : Rr34 a b c d := by
  unfold Rr34
  by_cases h1 : c ≤ a <;> by_cases h2 : b ≤ d <;> simp [h1, h2]
theorem s34 : PureOK PP 34 e34 := by
  intro xs ps res h hp
  unfold e34 at h
  split at h
  · rename_i a b c d
    simp only [Option.some.injEq, Prod.mk.injEq] at h
    obtain ⟨rfl, rfl⟩ := h
    clear hp
    refine enter (L := [0,1,2,3,4]) (LO := []) (E := []) (O := []) (ck := true) (.nil) (.nil) (k := 34) (f := Try.f34) (xs := [.agg [SI a, SI b], .agg [SI c, SI d]]) (r := (.bool (decide (c ≤ a) && decide (b ≤ d) && decide (a ≤ b)))) (by kernel_rfl) (by kernel_rfl) (fun _ => .nil) ?_
    exact Hold.of (r34 a b c d) (br34 a b c d )
  · cases h
def e29 : List SV → Option (List Prop × SV)
  | [.int .i64 a] => some ([-9000000000 ≤ a, a ≤ 9000000000], .tup [.agg [SI (M.cLo a), SI (M.cHi a)], .bool true])
  | _ => none
def Rr29 (a : Int) : Prop := (3600 : Int) ≠ (0 : Int) ∧ R64 (Int.tmod a (3600 : Int) + (3600 : Int)) ∧ (3600 : Int) ≠ (0 : Int) ∧ (600 : Int) ≠ (0 : Int) ∧ ((!decide (Int.tmod (Int.tmod (Int.tmod a (3600 : Int) + (3600 : Int)) (3600 : Int)) (600 : Int) = (0 : Int))) = true → (!decide (Int.tmod (Int.tmod (Int.tmod a (3600 : Int) + (3600 : Int)) (3600 : Int)) (600 : Int) = (0 : Int))) = true) ∧ ((!decide (Int.tmod (Int.tmod (Int.tmod a (3600 : Int) + (3600 : Int)) (3600 : Int)) (600 : Int) = (0 : Int))) = true → (900 : Int) ≠ (0 : Int)) ∧ ((!decide (Int.tmod (Int.tmod (Int.tmod a (3600 : Int) + (3600 : Int)) (3600 : Int)) (600 : Int) = (0 : Int))) = true → (!decide (Int.tmod (Int.tmod (Int.tmod a (3600 : Int) + (3600 : Int)) (3600 : Int)) (600 : Int) = (0 : Int))) = true) ∧ (decide (Int.tmod (Int.tmod (Int.tmod a (3600 : Int) + (3600 : Int)) (3600 : Int)) (600 : Int) = (0 : Int)) = false → (!decide (Int.tmod (Int.tmod (Int.tmod a (3600 : Int) + (3600 : Int)) (3600 : Int)) (600 : Int) = (0 : Int))) = true) ∧ (decide (M.cosE a a = (0 : Int)) = true → decide (M.cosE a a = (0 : Int)) = true) ∧ (decide (M.cosE a a = (0 : Int)) = true → decide (M.cosE a a = (0 : Int)) = true) ∧ (decide (M.cosE a a = (0 : Int)) = true → decide (M.cosE a a = (0 : Int)) = true) ∧ ((bif decide (M.cosE a a = (0 : Int)) then decide ((-65536 : Int) ≤ if M.cosE a a = (0 : Int) then M.bLo a a else (0 : Int)) && decide ((if M.cosE a a = (0 : Int) then M.bHi a a else (0 : Int)) ≤ (65536 : Int)) && decide ((if M.cosE a a = (0 : Int) then M.bLo a a else (0 : Int)) ≤ if M.cosE a a = (0 : Int) then M.bHi a a else (0 : Int)) else false) = true → (bif decide (M.cosE a a = (0 : Int)) then decide ((-65536 : Int) ≤ if M.cosE a a = (0 : Int) then M.bLo a a else (0 : Int)) && decide ((if M.cosE a a = (0 : Int) then M.bHi a a else (0 : Int)) ≤ (65536 : Int)) && decide ((if M.cosE a a = (0 : Int) then M.bLo a a else (0 : Int)) ≤ if M.cosE a a = (0 : Int) then M.bHi a a else (0 : Int)) else false) = true) ∧ ((bif decide (M.cosE a a = (0 : Int)) then decide ((-65536 : Int) ≤ if M.cosE a a = (0 : Int) then M.bLo a a else (0 : Int)) && decide ((if M.cosE a a = (0 : Int) then M.bHi a a else (0 : Int)) ≤ (65536 : Int)) && decide ((if M.cosE a a = (0 : Int) then M.bLo a a else (0 : Int)) ≤ if M.cosE a a = (0 : Int) then M.bHi a a else (0 : Int)) else false) = true → (bif decide (M.cosE a a = (0 : Int)) then decide ((-65536 : Int) ≤ if M.cosE a a = (0 : Int) then M.bLo a a else (0 : Int)) && decide ((if M.cosE a a = (0 : Int) then M.bHi a a else (0 : Int)) ≤ (65536 : Int)) && decide ((if M.cosE a a = (0 : Int) then M.bLo a a else (0 : Int)) ≤ if M.cosE a a = (0 : Int) then M.bHi a a else (0 : Int)) else false) = true) ∧ ((bif decide (M.cosE a a = (0 : Int)) then decide ((-65536 : Int) ≤ if M.cosE a a = (0 : Int) then M.bLo a a else (0 : Int)) && decide ((if M.cosE a a = (0 : Int) then M.bHi a a else (0 : Int)) ≤ (65536 : Int)) && decide ((if M.cosE a a = (0 : Int) then M.bLo a a else (0 : Int)) ≤ if M.cosE a a = (0 : Int) then M.bHi a a else (0 : Int)) else false) = true → (bif decide (M.cosE a a = (0 : Int)) then decide ((-65536 : Int) ≤ if M.cosE a a = (0 : Int) then M.bLo a a else (0 : Int)) && decide ((if M.cosE a a = (0 : Int) then M.bHi a a else (0 : Int)) ≤ (65536 : Int)) && decide ((if M.cosE a a = (0 : Int) then M.bLo a a else (0 : Int)) ≤ if M.cosE a a = (0 : Int) then M.bHi a a else (0 : Int)) else false) = true) ∧ ((bif decide (M.cosE a a = (0 : Int)) then decide ((-65536 : Int) ≤ if M.cosE a a = (0 : Int) then M.bLo a a else (0 : Int)) && decide ((if M.cosE a a = (0 : Int) then M.bHi a a else (0 : Int)) ≤ (65536 : Int)) && decide ((if M.cosE a a = (0 : Int) then M.bLo a a else (0 : Int)) ≤ if M.cosE a a = (0 : Int) then M.bHi a a else (0 : Int)) else false) = true → (bif decide (M.cosE a a = (0 : Int)) then decide ((-65536 : Int) ≤ if M.cosE a a = (0 : Int) then M.bLo a a else (0 : Int)) && decide ((if M.cosE a a = (0 : Int) then M.bHi a a else (0 : Int)) ≤ (65536 : Int)) && decide ((if M.cosE a a = (0 : Int) then M.bLo a a else (0 : Int)) ≤ if M.cosE a a = (0 : Int) then M.bHi a a else (0 : Int)) else false) = true) ∧ ((bif decide (M.cosE a a = (0 : Int)) then decide ((-65536 : Int) ≤ if M.cosE a a = (0 : Int) then M.bLo a a else (0 : Int)) && decide ((if M.cosE a a = (0 : Int) then M.bHi a a else (0 : Int)) ≤ (65536 : Int)) && decide ((if M.cosE a a = (0 : Int) then M.bLo a a else (0 : Int)) ≤ if M.cosE a a = (0 : Int) then M.bHi a a else (0 : Int)) else false) = true → (bif decide (M.cosE a a = (0 : Int)) then decide ((-65536 : Int) ≤ if M.cosE a a = (0 : Int) then M.bLo a a else (0 : Int)) && decide ((if M.cosE a a = (0 : Int) then M.bHi a a else (0 : Int)) ≤ (65536 : Int)) && decide ((if M.cosE a a = (0 : Int) then M.bLo a a else (0 : Int)) ≤ if M.cosE a a = (0 : Int) then M.bHi a a else (0 : Int)) else false) = true) ∧ ((bif decide (M.cosE a a = (0 : Int)) then decide ((-65536 : Int) ≤ if M.cosE a a = (0 : Int) then M.bLo a a else (0 : Int)) && decide ((if M.cosE a a = (0 : Int) then M.bHi a a else (0 : Int)) ≤ (65536 : Int)) && decide ((if M.cosE a a = (0 : Int) then M.bLo a a else (0 : Int)) ≤ if M.cosE a a = (0 : Int) then M.bHi a a else (0 : Int)) else false) = true → (bif decide (M.cosE a a = (0 : Int)) then decide ((-65536 : Int) ≤ if M.cosE a a = (0 : Int) then M.bLo a a else (0 : Int)) && decide ((if M.cosE a a = (0 : Int) then M.bHi a a else (0 : Int)) ≤ (65536 : Int)) && decide ((if M.cosE a a = (0 : Int) then M.bLo a a else (0 : Int)) ≤ if M.cosE a a = (0 : Int) then M.bHi a a else (0 : Int)) else false) = true) ∧ ((bif decide (M.cosE a a = (0 : Int)) then decide ((-65536 : Int) ≤ if M.cosE a a = (0 : Int) then M.bLo a a else (0 : Int)) && decide ((if M.cosE a a = (0 : Int) then M.bHi a a else (0 : Int)) ≤ (65536 : Int)) && decide ((if M.cosE a a = (0 : Int) then M.bLo a a else (0 : Int)) ≤ if M.cosE a a = (0 : Int) then M.bHi a a else (0 : Int)) else false) = true → (bif decide (M.cosE a a = (0 : Int)) then decide ((-65536 : Int) ≤ if M.cosE a a = (0 : Int) then M.bLo a a else (0 : Int)) && decide ((if M.cosE a a = (0 : Int) then M.bHi a a else (0 : Int)) ≤ (65536 : Int)) && decide ((if M.cosE a a = (0 : Int) then M.bLo a a else (0 : Int)) ≤ if M.cosE a a = (0 : Int) then M.bHi a a else (0 : Int)) else false) = true) ∧ ((bif bif decide (M.cosE a a = (0 : Int)) then decide ((-65536 : Int) ≤ if M.cosE a a = (0 : Int) then M.bLo a a else (0 : Int)) && decide ((if M.cosE a a = (0 : Int) then M.bHi a a else (0 : Int)) ≤ (65536 : Int)) && decide ((if M.cosE a a = (0 : Int) then M.bLo a a else (0 : Int)) ≤ if M.cosE a a = (0 : Int) then M.bHi a a else (0 : Int)) else false then decide ((if M.cosE a a = (0 : Int) then M.bLo a a else (0 : Int)) = if M.cosE a a = (0 : Int) then M.bHi a a else (0 : Int)) == bif decide (Int.tmod (Int.tmod (Int.tmod a (3600 : Int) + (3600 : Int)) (3600 : Int)) (600 : Int) = (0 : Int)) then true else decide (Int.tmod (Int.tmod (Int.tmod a (3600 : Int) + (3600 : Int)) (3600 : Int)) (900 : Int) = (0 : Int)) else false) = true → (bif bif decide (M.cosE a a = (0 : Int)) then decide ((-65536 : Int) ≤ if M.cosE a a = (0 : Int) then M.bLo a a else (0 : Int)) && decide ((if M.cosE a a = (0 : Int) then M.bHi a a else (0 : Int)) ≤ (65536 : Int)) && decide ((if M.cosE a a = (0 : Int) then M.bLo a a else (0 : Int)) ≤ if M.cosE a a = (0 : Int) then M.bHi a a else (0 : Int)) else false then decide ((if M.cosE a a = (0 : Int) then M.bLo a a else (0 : Int)) = if M.cosE a a = (0 : Int) then M.bHi a a else (0 : Int)) == bif decide (Int.tmod (Int.tmod (Int.tmod a (3600 : Int) + (3600 : Int)) (3600 : Int)) (600 : Int) = (0 : Int)) then true else decide (Int.tmod (Int.tmod (Int.tmod a (3600 : Int) + (3600 : Int)) (3600 : Int)) (900 : Int) = (0 : Int)) else false) = true) ∧ ((bif bif decide (M.cosE a a = (0 : Int)) then decide ((-65536 : Int) ≤ if M.cosE a a = (0 : Int) then M.bLo a a else (0 : Int)) && decide ((if M.cosE a a = (0 : Int) then M.bHi a a else (0 : Int)) ≤ (65536 : Int)) && decide ((if M.cosE a a = (0 : Int) then M.bLo a a else (0 : Int)) ≤ if M.cosE a a = (0 : Int) then M.bHi a a else (0 : Int)) else false then decide ((if M.cosE a a = (0 : Int) then M.bLo a a else (0 : Int)) = if M.cosE a a = (0 : Int) then M.bHi a a else (0 : Int)) == bif decide (Int.tmod (Int.tmod (Int.tmod a (3600 : Int) + (3600 : Int)) (3600 : Int)) (600 : Int) = (0 : Int)) then true else decide (Int.tmod (Int.tmod (Int.tmod a (3600 : Int) + (3600 : Int)) (3600 : Int)) (900 : Int) = (0 : Int)) else false) = true → (bif bif decide (M.cosE a a = (0 : Int)) then decide ((-65536 : Int) ≤ if M.cosE a a = (0 : Int) then M.bLo a a else (0 : Int)) && decide ((if M.cosE a a = (0 : Int) then M.bHi a a else (0 : Int)) ≤ (65536 : Int)) && decide ((if M.cosE a a = (0 : Int) then M.bLo a a else (0 : Int)) ≤ if M.cosE a a = (0 : Int) then M.bHi a a else (0 : Int)) else false then decide ((if M.cosE a a = (0 : Int) then M.bLo a a else (0 : Int)) = if M.cosE a a = (0 : Int) then M.bHi a a else (0 : Int)) == bif decide (Int.tmod (Int.tmod (Int.tmod a (3600 : Int) + (3600 : Int)) (3600 : Int)) (600 : Int) = (0 : Int)) then true else decide (Int.tmod (Int.tmod (Int.tmod a (3600 : Int) + (3600 : Int)) (3600 : Int)) (900 : Int) = (0 : Int)) else false) = true) ∧ ((bif bif decide (M.cosE a a = (0 : Int)) then decide ((-65536 : Int) ≤ if M.cosE a a = (0 : Int) then M.bLo a a else (0 : Int)) && decide ((if M.cosE a a = (0 : Int) then M.bHi a a else (0 : Int)) ≤ (65536 : Int)) && decide ((if M.cosE a a = (0 : Int) then M.bLo a a else (0 : Int)) ≤ if M.cosE a a = (0 : Int) then M.bHi a a else (0 : Int)) else false then decide ((if M.cosE a a = (0 : Int) then M.bLo a a else (0 : Int)) = if M.cosE a a = (0 : Int) then M.bHi a a else (0 : Int)) == bif decide (Int.tmod (Int.tmod (Int.tmod a (3600 : Int) + (3600 : Int)) (3600 : Int)) (600 : Int) = (0 : Int)) then true else decide (Int.tmod (Int.tmod (Int.tmod a (3600 : Int) + (3600 : Int)) (3600 : Int)) (900 : Int) = (0 : Int)) else false) = true → (bif bif decide (M.cosE a a = (0 : Int)) then decide ((-65536 : Int) ≤ if M.cosE a a = (0 : Int) then M.bLo a a else (0 : Int)) && decide ((if M.cosE a a = (0 : Int) then M.bHi a a else (0 : Int)) ≤ (65536 : Int)) && decide ((if M.cosE a a = (0 : Int) then M.bLo a a else (0 : Int)) ≤ if M.cosE a a = (0 : Int) then M.bHi a a else (0 : Int)) else false then decide ((if M.cosE a a = (0 : Int) then M.bLo a a else (0 : Int)) = if M.cosE a a = (0 : Int) then M.bHi a a else (0 : Int)) == bif decide (Int.tmod (Int.tmod (Int.tmod a (3600 : Int) + (3600 : Int)) (3600 : Int)) (600 : Int) = (0 : Int)) then true else decide (Int.tmod (Int.tmod (Int.tmod a (3600 : Int) + (3600 : Int)) (3600 : Int)) (900 : Int) = (0 : Int)) else false) = true) ∧ ((bif bif decide (M.cosE a a = (0 : Int)) then decide ((-65536 : Int) ≤ if M.cosE a a = (0 : Int) then M.bLo a a else (0 : Int)) && decide ((if M.cosE a a = (0 : Int) then M.bHi a a else (0 : Int)) ≤ (65536 : Int)) && decide ((if M.cosE a a = (0 : Int) then M.bLo a a else (0 : Int)) ≤ if M.cosE a a = (0 : Int) then M.bHi a a else (0 : Int)) else false then decide ((if M.cosE a a = (0 : Int) then M.bLo a a else (0 : Int)) = if M.cosE a a = (0 : Int) then M.bHi a a else (0 : Int)) == bif decide (Int.tmod (Int.tmod (Int.tmod a (3600 : Int) + (3600 : Int)) (3600 : Int)) (600 : Int) = (0 : Int)) then true else decide (Int.tmod (Int.tmod (Int.tmod a (3600 : Int) + (3600 : Int)) (3600 : Int)) (900 : Int) = (0 : Int)) else false) = true → (bif bif decide (M.cosE a a = (0 : Int)) then decide ((-65536 : Int) ≤ if M.cosE a a = (0 : Int) then M.bLo a a else (0 : Int)) && decide ((if M.cosE a a = (0 : Int) then M.bHi a a else (0 : Int)) ≤ (65536 : Int)) && decide ((if M.cosE a a = (0 : Int) then M.bLo a a else (0 : Int)) ≤ if M.cosE a a = (0 : Int) then M.bHi a a else (0 : Int)) else false then decide ((if M.cosE a a = (0 : Int) then M.bLo a a else (0 : Int)) = if M.cosE a a = (0 : Int) then M.bHi a a else (0 : Int)) == bif decide (Int.tmod (Int.tmod (Int.tmod a (3600 : Int) + (3600 : Int)) (3600 : Int)) (600 : Int) = (0 : Int)) then true else decide (Int.tmod (Int.tmod (Int.tmod a (3600 : Int) + (3600 : Int)) (3600 : Int)) (900 : Int) = (0 : Int)) else false) = true) ∧ ((bif bif decide (M.cosE a a = (0 : Int)) then decide ((-65536 : Int) ≤ if M.cosE a a = (0 : Int) then M.bLo a a else (0 : Int)) && decide ((if M.cosE a a = (0 : Int) then M.bHi a a else (0 : Int)) ≤ (65536 : Int)) && decide ((if M.cosE a a = (0 : Int) then M.bLo a a else (0 : Int)) ≤ if M.cosE a a = (0 : Int) then M.bHi a a else (0 : Int)) else false then decide ((if M.cosE a a = (0 : Int) then M.bLo a a else (0 : Int)) = if M.cosE a a = (0 : Int) then M.bHi a a else (0 : Int)) == bif decide (Int.tmod (Int.tmod (Int.tmod a (3600 : Int) + (3600 : Int)) (3600 : Int)) (600 : Int) = (0 : Int)) then true else decide (Int.tmod (Int.tmod (Int.tmod a (3600 : Int) + (3600 : Int)) (3600 : Int)) (900 : Int) = (0 : Int)) else false) = true → R64 ((if M.cosE a a = (0 : Int) then M.bHi a a else (0 : Int)) - if M.cosE a a = (0 : Int) then M.bLo a a else (0 : Int))) ∧ ((bif bif decide (M.cosE a a = (0 : Int)) then decide ((-65536 : Int) ≤ if M.cosE a a = (0 : Int) then M.bLo a a else (0 : Int)) && decide ((if M.cosE a a = (0 : Int) then M.bHi a a else (0 : Int)) ≤ (65536 : Int)) && decide ((if M.cosE a a = (0 : Int) then M.bLo a a else (0 : Int)) ≤ if M.cosE a a = (0 : Int) then M.bHi a a else (0 : Int)) else false then decide ((if M.cosE a a = (0 : Int) then M.bLo a a else (0 : Int)) = if M.cosE a a = (0 : Int) then M.bHi a a else (0 : Int)) == bif decide (Int.tmod (Int.tmod (Int.tmod a (3600 : Int) + (3600 : Int)) (3600 : Int)) (600 : Int) = (0 : Int)) then true else decide (Int.tmod (Int.tmod (Int.tmod a (3600 : Int) + (3600 : Int)) (3600 : Int)) (900 : Int) = (0 : Int)) else false) = true → (bif bif decide (M.cosE a a = (0 : Int)) then decide ((-65536 : Int) ≤ if M.cosE a a = (0 : Int) then M.bLo a a else (0 : Int)) && decide ((if M.cosE a a = (0 : Int) then M.bHi a a else (0 : Int)) ≤ (65536 : Int)) && decide ((if M.cosE a a = (0 : Int) then M.bLo a a else (0 : Int)) ≤ if M.cosE a a = (0 : Int) then M.bHi a a else (0 : Int)) else false then decide ((if M.cosE a a = (0 : Int) then M.bLo a a else (0 : Int)) = if M.cosE a a = (0 : Int) then M.bHi a a else (0 : Int)) == bif decide (Int.tmod (Int.tmod (Int.tmod a (3600 : Int) + (3600 : Int)) (3600 : Int)) (600 : Int) = (0 : Int)) then true else decide (Int.tmod (Int.tmod (Int.tmod a (3600 : Int) + (3600 : Int)) (3600 : Int)) (900 : Int) = (0 : Int)) else false) = true) ∧ ((bif bif decide (M.cosE a a = (0 : Int)) then decide ((-65536 : Int) ≤ if M.cosE a a = (0 : Int) then M.bLo a a else (0 : Int)) && decide ((if M.cosE a a = (0 : Int) then M.bHi a a else (0 : Int)) ≤ (65536 : Int)) && decide ((if M.cosE a a = (0 : Int) then M.bLo a a else (0 : Int)) ≤ if M.cosE a a = (0 : Int) then M.bHi a a else (0 : Int)) else false then decide ((if M.cosE a a = (0 : Int) then M.bLo a a else (0 : Int)) = if M.cosE a a = (0 : Int) then M.bHi a a else (0 : Int)) == bif decide (Int.tmod (Int.tmod (Int.tmod a (3600 : Int) + (3600 : Int)) (3600 : Int)) (600 : Int) = (0 : Int)) then true else decide (Int.tmod (Int.tmod (Int.tmod a (3600 : Int) + (3600 : Int)) (3600 : Int)) (900 : Int) = (0 : Int)) else false) = true → (bif bif decide (M.cosE a a = (0 : Int)) then decide ((-65536 : Int) ≤ if M.cosE a a = (0 : Int) then M.bLo a a else (0 : Int)) && decide ((if M.cosE a a = (0 : Int) then M.bHi a a else (0 : Int)) ≤ (65536 : Int)) && decide ((if M.cosE a a = (0 : Int) then M.bLo a a else (0 : Int)) ≤ if M.cosE a a = (0 : Int) then M.bHi a a else (0 : Int)) else false then decide ((if M.cosE a a = (0 : Int) then M.bLo a a else (0 : Int)) = if M.cosE a a = (0 : Int) then M.bHi a a else (0 : Int)) == bif decide (Int.tmod (Int.tmod (Int.tmod a (3600 : Int) + (3600 : Int)) (3600 : Int)) (600 : Int) = (0 : Int)) then true else decide (Int.tmod (Int.tmod (Int.tmod a (3600 : Int) + (3600 : Int)) (3600 : Int)) (900 : Int) = (0 : Int)) else false) = true) ∧ ((if M.cosE a a = (0 : Int) then M.bLo a a else (0 : Int)) = M.cLo a ∧ (if M.cosE a a = (0 : Int) then M.bHi a a else (0 : Int)) = M.cHi a) ∧ (bif bif bif decide (M.cosE a a = (0 : Int)) then decide ((-65536 : Int) ≤ if M.cosE a a = (0 : Int) then M.bLo a a else (0 : Int)) && decide ((if M.cosE a a = (0 : Int) then M.bHi a a else (0 : Int)) ≤ (65536 : Int)) && decide ((if M.cosE a a = (0 : Int) then M.bLo a a else (0 : Int)) ≤ if M.cosE a a = (0 : Int) then M.bHi a a else (0 : Int)) else false then decide ((if M.cosE a a = (0 : Int) then M.bLo a a else (0 : Int)) = if M.cosE a a = (0 : Int) then M.bHi a a else (0 : Int)) == bif decide (Int.tmod (Int.tmod (Int.tmod a (3600 : Int) + (3600 : Int)) (3600 : Int)) (600 : Int) = (0 : Int)) then true else decide (Int.tmod (Int.tmod (Int.tmod a (3600 : Int) + (3600 : Int)) (3600 : Int)) (900 : Int) = (0 : Int)) else false then decide (((if M.cosE a a = (0 : Int) then M.bHi a a else (0 : Int)) - if M.cosE a a = (0 : Int) then M.bLo a a else (0 : Int)) ≤ (1 : Int)) else false) = true
theorem r29 (a : Int) : V true [] [(30, pureE e30), (11, pureE e11), (34, pureE e34)] Try.f29 [0,2,3,4,5,6,7] [] [SI a] (.tup [.agg [SI (M.cLo a), SI (M.cHi a)], .bool true]) = Rr29 a := by kernel_rfl
theorem br29 (a : Int) (hp : (-9000000000 ≤ a) ∧ (a ≤ 9000000000) ∧ AllP []) : Rr29 a := by
  unfold Rr29
  obtain ⟨a1, a2, -⟩ := hp
  have hc : M.cosE a a = 0 := by
    simp only [M.cosE, M.within, Bool.and_eq_true, decide_eq_true_eq]
    rw [if_pos (by omega)]
  obtain ⟨b1, b2⟩ := M.b_one a
  obtain ⟨o1, o2, o3⟩ := M.c_ord a
  rw [M.ex_iff] at o3
  obtain ⟨u1, u2⟩ := M.c_one a
  have hr : R64 (a.tmod 3600 + 3600) := by
    have h2 : a.tmod 3600 < 3600 := Int.tmod_lt_of_pos a (by omega)
    have h3 : -3600 < a.tmod 3600 := Int.lt_tmod_of_pos a (by omega)
    unfold R64; omega
  have t6 : Int.tmod (a % 3600) 600 = a % 3600 % 600 := Int.tmod_eq_emod_of_nonneg (by omega)
  have t9 : Int.tmod (a % 3600) 900 = a % 3600 % 900 := Int.tmod_eq_emod_of_nonneg (by omega)
  simp only [M.ang, hc, b1, b2, if_true, t6, t9]
  generalize M.cLo a = c at *
  generalize M.cHi a = d at *
  generalize a % 3600 % 600 = r at *
  generalize a % 3600 % 900 = s at *
  have r3 : R64 (d - c) := by unfold R64; omega
  have k1 : -65536 ≤ c := u2
  have k2 : d ≤ 65536 := u1
  simp [hr, r3, k1, k2, o1, o2]
  by_cases g1 : r = 0 <;> by_cases g2 : s = 0 <;> simp [g1, g2] at o3 ⊢ <;> omega
theorem s29 : PureOK PP 29 e29 := by
  intro xs ps res h hp
  unfold e29 at h
  split at h
  · rename_i a
    simp only [Option.some.injEq, Prod.mk.injEq] at h
    obtain ⟨rfl, rfl⟩ := h
    simp only [AllP.cons] at hp
    refine enter (L := [0,2,3,4,5,6,7]) (LO := []) (E := []) (O := [(30, pureE e30), (11, pureE e11), (34, pureE e34)]) (ck := true) (.nil) (.cons (pureE_ok s30) (.cons (pureE_ok s11) (.cons (pureE_ok s34) (.nil)))) (k := 29) (f := Try.f29) (xs := [SI a]) (r := (.tup [.agg [SI (M.cLo a), SI (M.cHi a)], .bool true])) (by kernel_rfl) (by kernel_rfl) (fun _ => .nil) ?_
    exact Hold.of (r29 a) (br29 a hp)
  · cases h
end Go.Proofs.Ytpbgkohljjmbhaa.Sep
