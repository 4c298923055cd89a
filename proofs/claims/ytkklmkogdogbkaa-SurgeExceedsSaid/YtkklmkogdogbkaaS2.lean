/-
  Contracts of functions with loops of the stage 'surge'. No condition. (This text proves no statement by itself.)
-/
import Derived.Test.YtkklmkogdogbkaaS1
namespace Go.Proofs.Ytkklmkogdogbkaa.Sep
open Go
set_option linter.unusedVariables false
set_option linter.unusedSimpArgs false
def lp25 (n : Int) : LoopS where
  ι := Nat
  β := Unit
  pre d := d ≤ 8
  μ d := 8 - d
  next d _ _ _ := d + 1
  out _ := ()
  early _ := false
  SA d := [(0, SI n), (3, SI (M.bits n d)), (4, SI d)]
  SH _ := []
  n0 := 0
  NA _ := [(3, SI (M.bits n 8))]
  NH _ := []
  n1 := 0
  RA _ := []
  RH _ := []
theorem q25 (n : Int) (d : Nat) : VL true [] [] YS.none Try.f25 0 [0,2,3,4,6] [] 0 (lp25 n) (d) = ((decide ((↑d : Int) < (8 : Int)) = true → (0 : Int) ≤ (↑d : Int) ∧ (2 : Int) ≠ (0 : Int) ∧ R64 (M.bits n d + Int.tmod (Int.fdiv n ((2 : Int) ^ min (Int.toNat (↑d : Int)) (IntKind.bits IntKind.i64))) (2 : Int)) ∧ R64 ((↑d : Int) + (1 : Int)) ∧ d + (1 : Nat) ≤ (8 : Nat) ∧ (8 : Nat) - (d + (1 : Nat)) < (8 : Nat) - d ∧ () = () ∧ n = n ∧ M.bits n d + Int.tmod (Int.fdiv n ((2 : Int) ^ min (Int.toNat (↑d : Int)) (IntKind.bits IntKind.i64))) (2 : Int) = M.bits n (d + (1 : Nat)) ∧ (↑d : Int) + (1 : Int) = (↑(d + (1 : Nat)) : Int) ∧ True) ∧ (decide ((↑d : Int) < (8 : Int)) = false → false = false ∧ M.bits n d = M.bits n (8 : Nat) ∧ True)) := by kernel_rfl
theorem peq25 (n : Int) (d : Nat) : (lp25 n).pre (d) = (d ≤ (8 : Nat)) := by kernel_rfl
theorem bq25 (n : Int) (d : Nat) (hp : d ≤ (8 : Nat)) : (decide ((↑d : Int) < (8 : Int)) = true → (0 : Int) ≤ (↑d : Int) ∧ (2 : Int) ≠ (0 : Int) ∧ R64 (M.bits n d + Int.tmod (Int.fdiv n ((2 : Int) ^ min (Int.toNat (↑d : Int)) (IntKind.bits IntKind.i64))) (2 : Int)) ∧ R64 ((↑d : Int) + (1 : Int)) ∧ d + (1 : Nat) ≤ (8 : Nat) ∧ (8 : Nat) - (d + (1 : Nat)) < (8 : Nat) - d ∧ () = () ∧ n = n ∧ M.bits n d + Int.tmod (Int.fdiv n ((2 : Int) ^ min (Int.toNat (↑d : Int)) (IntKind.bits IntKind.i64))) (2 : Int) = M.bits n (d + (1 : Nat)) ∧ (↑d : Int) + (1 : Int) = (↑(d + (1 : Nat)) : Int) ∧ True) ∧ (decide ((↑d : Int) < (8 : Int)) = false → false = false ∧ M.bits n d = M.bits n (8 : Nat) ∧ True) := by
  have h1 := M.bits_le n d
  have h2 := M.bit_le n d
  have h3 : M.bits n (d + 1) = M.bits n d + M.bit n d := rfl
  simp only [decide_eq_true_eq, decide_eq_false_iff_not, Int.toNat_natCast, Int.natCast_nonneg, true_and, and_true, and_self, implies_true, forall_const, Int.ofNat_lt, Int.natCast_inj, R64]
  refine ⟨fun hd => ?_, fun hd => ?_⟩
  · have e : min d (IntKind.bits .i64) = d := by simp only [IntKind.bits]; omega
    rw [e]
    unfold M.bit at h2 h3
    exact ⟨by omega, by omega, by omega, by omega, by omega, h3.symm, by omega⟩
  · have e : d = 8 := by omega
    subst e; trivial
theorem t25 (n : Int) {F : Fence} (hF : FOK F) (Y : YEnv PP YS.none) : ∀ Q A H nx, loopT false Try.f25.ntmps 0 (lp25 n) (fun _ _ _ => (0 : Nat)) Q A H nx → WPS Y F Try.f25.ntmps 0 (.block 0 (blkAt 0 Try.f25)) Q A H nx :=
  loopW (E := []) (.nil) (O := []) (.nil) (ck := true) (L := [0,2,3,4,6]) (f := Try.f25) (m := 0) (id := 0) (l := (lp25 n)) (LI := fun i => []) Y hF (by kernel_rfl) (fun _ => .nil) (by
    rintro d hp
    exact Hold.of (q25 n d) (bq25 n d ((peq25 n d).mp hp)))
def e25 : List SV → Option (List Prop × SV)
  | [.int .i64 n] => some ([], SI (M.bits n 8))
  | _ => none
theorem r25 (n : Int) : V true [] [] Try.f25 [0,2,3,4,6] [(0, loopT false Try.f25.ntmps 0 (lp25 n) (fun _ _ _ => (0 : Nat)))] [SI n] (SI (M.bits n 8)) = ((0 : Nat) ≤ (8 : Nat) ∧ (n = n ∧ (0 : Int) = M.bits n (0 : Nat) ∧ (0 : Int) = (↑(0 : Nat) : Int) ∧ True) ∧ (false = false → M.bits n (8 : Nat) = M.bits n (8 : Nat)) ∧ (false = true → False)) := by kernel_rfl
theorem br25 (n : Int)  : (0 : Nat) ≤ (8 : Nat) ∧ (n = n ∧ (0 : Int) = M.bits n (0 : Nat) ∧ (0 : Int) = (↑(0 : Nat) : Int) ∧ True) ∧ (false = false → M.bits n (8 : Nat) = M.bits n (8 : Nat)) ∧ (false = true → False) := by
  simp [M.bits]
theorem s25 : PureOK PP 25 e25 := by
  intro xs ps res h hp
  unfold e25 at h
  split at h
  · rename_i n
    simp only [Option.some.injEq, Prod.mk.injEq] at h
    obtain ⟨rfl, rfl⟩ := h
    clear hp
    refine enter (L := [0,2,3,4,6]) (LO := [(0, loopT false Try.f25.ntmps 0 (lp25 n) (fun _ _ _ => (0 : Nat)))]) (E := []) (O := []) (ck := true) (.nil) (.nil) (k := 25) (f := Try.f25) (xs := [SI n]) (r := (SI (M.bits n 8))) (by kernel_rfl) (by kernel_rfl) (fun Y => .cons (by kernel_rfl) (t25 n FOK.wide Y) (.nil)) ?_
    exact Hold.of (r25 n) (br25 n )
  · cases h
def lp66 (a b : Int) (m : Nat) (x y : Nat → Int) : LoopS where
  ι := Nat
  β := Unit
  pre k := k ≤ m ∧ R64 m
  μ k := m - k
  next k _ _ _ := k + 1
  out _ := ()
  early _ := false
  SA k := [(2, .ptr 0 0), (4, .ptr 1 0), (7, .sl 2 m (fun k => [SI (x k), SI (y k)])), (8, SI m), (9, SI k)]
  SH k := [(0, .cells [SI (M.low x a k), SI (M.high y b k)]), (1, .cells [SI 0, SI 0])]
  n0 := 2
  NA _ := [(2, .ptr 0 0), (4, .ptr 1 0)]
  NH _ := [(0, .cells [SI (M.low x a m), SI (M.high y b m)]), (1, .cells [SI 0, SI 0])]
  n1 := 2
  RA _ := []
  RH _ := []
theorem q66 (a b : Int) (m : Nat) (x y : Nat → Int) (k : Nat) : VL true [] [(58, pureE e58)] YS.none Try.f66 0 [0,1,2,4,6,7,8,9,10] [] 0 (lp66 a b m x y) (k) = ((decide ((↑k : Int) < (↑m : Int)) = true → (0 : Int) ≤ (↑k : Int) ∧ (↑k : Int) < (↑m : Int) ∧ Int.toNat (↑k : Int) < m ∧ R64 ((↑k : Int) + (1 : Int)) ∧ (k + (1 : Nat) ≤ m ∧ R64 (↑m : Int)) ∧ m - (k + (1 : Nat)) < m - k ∧ () = () ∧ (m = m ∧ ∀ (k : Nat), k < m → x k = x k ∧ y k = y k) ∧ (↑m : Int) = (↑m : Int) ∧ (↑k : Int) + (1 : Int) = (↑(k + (1 : Nat)) : Int) ∧ min (M.low x a k) (x (Int.toNat (↑k : Int))) = M.low x a (k + (1 : Nat)) ∧ max (M.high y b k) (y (Int.toNat (↑k : Int))) = M.high y b (k + (1 : Nat)) ∧ (0 : Int) = (0 : Int) ∧ (0 : Int) = (0 : Int) ∧ True) ∧ (decide ((↑k : Int) < (↑m : Int)) = false → false = false ∧ M.low x a k = M.low x a m ∧ M.high y b k = M.high y b m ∧ (0 : Int) = (0 : Int) ∧ (0 : Int) = (0 : Int) ∧ True)) := by kernel_rfl
theorem peq66 (a b : Int) (m : Nat) (x y : Nat → Int) (k : Nat) : (lp66 a b m x y).pre (k) = (k ≤ m ∧ R64 (↑m : Int)) := by kernel_rfl
theorem bq66 (a b : Int) (m : Nat) (x y : Nat → Int) (k : Nat) (hp : k ≤ m ∧ R64 (↑m : Int)) : (decide ((↑k : Int) < (↑m : Int)) = true → (0 : Int) ≤ (↑k : Int) ∧ (↑k : Int) < (↑m : Int) ∧ Int.toNat (↑k : Int) < m ∧ R64 ((↑k : Int) + (1 : Int)) ∧ (k + (1 : Nat) ≤ m ∧ R64 (↑m : Int)) ∧ m - (k + (1 : Nat)) < m - k ∧ () = () ∧ (m = m ∧ ∀ (k : Nat), k < m → x k = x k ∧ y k = y k) ∧ (↑m : Int) = (↑m : Int) ∧ (↑k : Int) + (1 : Int) = (↑(k + (1 : Nat)) : Int) ∧ min (M.low x a k) (x (Int.toNat (↑k : Int))) = M.low x a (k + (1 : Nat)) ∧ max (M.high y b k) (y (Int.toNat (↑k : Int))) = M.high y b (k + (1 : Nat)) ∧ (0 : Int) = (0 : Int) ∧ (0 : Int) = (0 : Int) ∧ True) ∧ (decide ((↑k : Int) < (↑m : Int)) = false → false = false ∧ M.low x a k = M.low x a m ∧ M.high y b k = M.high y b m ∧ (0 : Int) = (0 : Int) ∧ (0 : Int) = (0 : Int) ∧ True) := by
  simp only [decide_eq_true_eq, decide_eq_false_iff_not, Int.toNat_natCast, Int.natCast_nonneg, true_and, and_true, and_self, implies_true, forall_const, Int.ofNat_lt, Int.natCast_inj, R64]
  obtain ⟨hp, hm⟩ := hp
  unfold R64 at hm
  refine ⟨fun hk => ⟨hk, by omega, by omega, ⟨by omega, hm⟩, by omega, by omega, rfl, rfl⟩, fun hk => ?_⟩
  have e : k = m := by omega
  subst e; exact ⟨rfl, rfl⟩
theorem t66 (a b : Int) (m : Nat) (x y : Nat → Int) {F : Fence} (hF : FOK F) (Y : YEnv PP YS.none) : ∀ Q A H nx, loopT false Try.f66.ntmps 0 (lp66 a b m x y) (fun _ _ _ => (0 : Nat)) Q A H nx → WPS Y F Try.f66.ntmps 0 (.block 0 (blkAt 0 Try.f66)) Q A H nx :=
  loopW (E := []) (.nil) (O := [(58, pureE e58)]) (.cons (pureE_ok s58) (.nil)) (ck := true) (L := [0,1,2,4,6,7,8,9,10]) (f := Try.f66) (m := 0) (id := 0) (l := (lp66 a b m x y)) (LI := fun i => []) Y hF (by kernel_rfl) (fun _ => .nil) (by
    rintro k hp
    exact Hold.of (q66 a b m x y k) (bq66 a b m x y k ((peq66 a b m x y k).mp hp)))
def e66 : List SV → Option (List Prop × SV)
  | [.agg [.int .i64 a, .int .i64 b], .sl 2 m g_1] => some ([Row 2 m g_1, R64 m], .agg [SI (M.low (cI g_1 0) a m), SI (M.high (cI g_1 1) b m)])
  | _ => none
theorem r66 (a b : Int) (m : Nat) (x y : Nat → Int) : V true [] [] Try.f66 [0,1,2,4,6,7,8,9,10] [(0, loopT false Try.f66.ntmps 0 (lp66 a b m x y) (fun _ _ _ => (0 : Nat)))] [.agg [SI a, SI b], .sl 2 m (fun k => [SI (x k), SI (y k)])] (.agg [SI (M.low x a m), SI (M.high y b m)]) = (((0 : Nat) ≤ m ∧ R64 (↑m : Int)) ∧ ((m = m ∧ ∀ (k : Nat), k < m → x k = x k ∧ y k = y k) ∧ (↑m : Int) = (↑m : Int) ∧ (0 : Int) = (↑(0 : Nat) : Int) ∧ a = M.low x a (0 : Nat) ∧ b = M.high y b (0 : Nat) ∧ (0 : Int) = (0 : Int) ∧ (0 : Int) = (0 : Int) ∧ True) ∧ (false = false → M.low x a m = M.low x a m ∧ M.high y b m = M.high y b m) ∧ (false = true → False)) := by kernel_rfl
theorem br66 (a b : Int) (m : Nat) (x y : Nat → Int) (hp : (R64 m) ∧ AllP []) : ((0 : Nat) ≤ m ∧ R64 (↑m : Int)) ∧ ((m = m ∧ ∀ (k : Nat), k < m → x k = x k ∧ y k = y k) ∧ (↑m : Int) = (↑m : Int) ∧ (0 : Int) = (↑(0 : Nat) : Int) ∧ a = M.low x a (0 : Nat) ∧ b = M.high y b (0 : Nat) ∧ (0 : Int) = (0 : Int) ∧ (0 : Int) = (0 : Int) ∧ True) ∧ (false = false → M.low x a m = M.low x a m ∧ M.high y b m = M.high y b m) ∧ (false = true → False) := by
  simp [M.low, M.high, hp]
theorem s66 : PureOK PP 66 e66 := by
  intro xs ps res h hp
  unfold e66 at h
  split at h
  · rename_i a b m g_1
    simp only [Option.some.injEq, Prod.mk.injEq] at h
    obtain ⟨rfl, rfl⟩ := h
    simp only [AllP.cons] at hp
    obtain ⟨Hg_1, hp⟩ := hp
    refine Spec.args (ys := [.agg [SI a, SI b], .sl 2 m (fun k => [SI ((cI g_1 0) k), SI ((cI g_1 1) k)])]) ?_ (.cons (.refl _) (.cons (.row Hg_1 fun _ => rfl) .nil))
    refine enter (L := [0,1,2,4,6,7,8,9,10]) (LO := [(0, loopT false Try.f66.ntmps 0 (lp66 a b m (cI g_1 0) (cI g_1 1)) (fun _ _ _ => (0 : Nat)))]) (E := []) (O := []) (ck := true) (.nil) (.nil) (k := 66) (f := Try.f66) (xs := [.agg [SI a, SI b], .sl 2 m (fun k => [SI ((cI g_1 0) k), SI ((cI g_1 1) k)])]) (r := (.agg [SI (M.low (cI g_1 0) a m), SI (M.high (cI g_1 1) b m)])) (by kernel_rfl) (by kernel_rfl) (fun Y => .cons (by kernel_rfl) (t66 a b m (cI g_1 0) (cI g_1 1) FOK.wide Y) (.nil)) ?_
    exact Hold.of (r66 a b m (cI g_1 0) (cI g_1 1)) (br66 a b m (cI g_1 0) (cI g_1 1) hp)
  · cases h
abbrev p113 (x y : Nat → Int) : Nat → Bool := fun k => !M.okS x y k
def lp113 (n : Nat) (x y : Nat → Int) : LoopS where
  ι := Nat
  β := Unit
  pre k := (k ≤ n ∧ R64 n) ∧ ∀ j, j < k → M.okS x y j = true
  μ k := n - k
  next k _ _ _ := k + 1
  out _ := ()
  early _ := decide (M.first (p113 x y) n < n)
  SA k := [(0, .sl 2 n (fun k => [SI (x k), SI (y k)])), (1, .fn 95 [] []), (7, SI n), (8, SI k)]
  SH _ := []
  n0 := 0
  NA _ := []
  NH _ := []
  n1 := 0
  RA _ := [(4, SI (M.first (p113 x y) n))]
  RH _ := []
theorem q113 (n : Nat) (x y : Nat → Int) (k : Nat) : VL true [] [(95, pureE e95)] YS.none Try.f113 0 [0,1,4,5,7,8,9,16] [] 0 (lp113 n x y) (k) = ((decide ((↑k : Int) < (↑n : Int)) = true → (0 : Int) ≤ (↑k : Int) ∧ (↑k : Int) < (↑n : Int) ∧ Int.toNat (↑k : Int) < n ∧ ((!M.within (x (Int.toNat (↑k : Int))) (y (Int.toNat (↑k : Int))) (-1200000 : Int) (1200000 : Int)) = true → decide (M.first (fun k => !M.okS x y k) n < n) = true ∧ (↑k : Int) = (↑(M.first (fun k => !M.okS x y k) n) : Int) ∧ True) ∧ ((!M.within (x (Int.toNat (↑k : Int))) (y (Int.toNat (↑k : Int))) (-1200000 : Int) (1200000 : Int)) = false → R64 ((↑k : Int) + (1 : Int)) ∧ ((k + (1 : Nat) ≤ n ∧ R64 (↑n : Int)) ∧ ∀ (j : Nat), j < k + (1 : Nat) → M.okS x y j = true) ∧ n - (k + (1 : Nat)) < n - k ∧ () = () ∧ (n = n ∧ ∀ (k : Nat), k < n → x k = x k ∧ y k = y k) ∧ (↑n : Int) = (↑n : Int) ∧ (↑k : Int) + (1 : Int) = (↑(k + (1 : Nat)) : Int) ∧ True)) ∧ (decide ((↑k : Int) < (↑n : Int)) = false → decide (M.first (fun k => !M.okS x y k) n < n) = false ∧ True)) := by kernel_rfl
theorem peq113 (n : Nat) (x y : Nat → Int) (k : Nat) : (lp113 n x y).pre (k) = ((k ≤ n ∧ R64 (↑n : Int)) ∧ ∀ (j : Nat), j < k → M.okS x y j = true) := by kernel_rfl
theorem bq113 (n : Nat) (x y : Nat → Int) (k : Nat) (hp : (k ≤ n ∧ R64 (↑n : Int)) ∧ ∀ (j : Nat), j < k → M.okS x y j = true) : (decide ((↑k : Int) < (↑n : Int)) = true → (0 : Int) ≤ (↑k : Int) ∧ (↑k : Int) < (↑n : Int) ∧ Int.toNat (↑k : Int) < n ∧ ((!M.within (x (Int.toNat (↑k : Int))) (y (Int.toNat (↑k : Int))) (-1200000 : Int) (1200000 : Int)) = true → decide (M.first (fun k => !M.okS x y k) n < n) = true ∧ (↑k : Int) = (↑(M.first (fun k => !M.okS x y k) n) : Int) ∧ True) ∧ ((!M.within (x (Int.toNat (↑k : Int))) (y (Int.toNat (↑k : Int))) (-1200000 : Int) (1200000 : Int)) = false → R64 ((↑k : Int) + (1 : Int)) ∧ ((k + (1 : Nat) ≤ n ∧ R64 (↑n : Int)) ∧ ∀ (j : Nat), j < k + (1 : Nat) → M.okS x y j = true) ∧ n - (k + (1 : Nat)) < n - k ∧ () = () ∧ (n = n ∧ ∀ (k : Nat), k < n → x k = x k ∧ y k = y k) ∧ (↑n : Int) = (↑n : Int) ∧ (↑k : Int) + (1 : Int) = (↑(k + (1 : Nat)) : Int) ∧ True)) ∧ (decide ((↑k : Int) < (↑n : Int)) = false → decide (M.first (fun k => !M.okS x y k) n < n) = false ∧ True) := by
  obtain ⟨⟨hp, hm⟩, ho⟩ := hp
  unfold R64 at hm
  simp only [decide_eq_true_eq, decide_eq_false_iff_not, Int.toNat_natCast, Int.natCast_nonneg, true_and, and_true, and_self, implies_true, forall_const, Int.ofNat_lt, Int.natCast_inj, R64]
  refine ⟨fun hk => ⟨by omega, by omega, fun hb => ?_, fun hb => ⟨by omega, ⟨⟨by omega, hm⟩, fun j hj => ?_⟩, by omega, by omega⟩⟩, fun hk => ?_⟩
  · have e : M.first (fun k => !M.okS x y k) n = k := M.first_at (by omega) (fun j hj => by rw [ho j hj]; rfl) (by unfold M.okS; exact hb)
    rw [e]
    exact ⟨by omega, rfl⟩
  · by_cases e : j = k
    · subst e; unfold M.okS; simpa using hb
    · exact ho j (by omega)
  · have e : M.first (fun k => !M.okS x y k) n = n := M.first_end (fun j hj => by rw [ho j (by omega)]; rfl)
    omega
theorem t113 (n : Nat) (x y : Nat → Int) {F : Fence} (hF : FOK F) (Y : YEnv PP YS.none) : ∀ Q A H nx, loopT false Try.f113.ntmps 0 (lp113 n x y) (fun _ _ _ => (0 : Nat)) Q A H nx → WPS Y F Try.f113.ntmps 0 (.block 0 (blkAt 0 Try.f113)) Q A H nx :=
  loopW (E := []) (.nil) (O := [(95, pureE e95)]) (.cons (pureE_ok s95) (.nil)) (ck := true) (L := [0,1,4,5,7,8,9,16]) (f := Try.f113) (m := 0) (id := 0) (l := (lp113 n x y)) (LI := fun i => []) Y hF (by kernel_rfl) (fun _ => .nil) (by
    rintro k hp
    exact Hold.of (q113 n x y k) (bq113 n x y k ((peq113 n x y k).mp hp)))
def e113 : List SV → Option (List Prop × SV)
  | [.sl 2 n g_1, .fn 95 [] []] => some ([Row 2 n g_1, R64 n], SI (M.idx (p113 (cI g_1 0) (cI g_1 1)) n))
  | _ => none
theorem r113 (n : Nat) (x y : Nat → Int) : V true [] [] Try.f113 [0,1,4,5,7,8,9,16] [(0, loopT false Try.f113.ntmps 0 (lp113 n x y) (fun _ _ _ => (0 : Nat)))] [.sl 2 n (fun k => [SI (x k), SI (y k)]), .fn 95 [] []] (SI (M.idx (p113 x y) n)) = ((((0 : Nat) ≤ n ∧ R64 (↑n : Int)) ∧ ∀ (j : Nat), j < (0 : Nat) → M.okS x y j = true) ∧ ((n = n ∧ ∀ (k : Nat), k < n → x k = x k ∧ y k = y k) ∧ (↑n : Int) = (↑n : Int) ∧ (0 : Int) = (↑(0 : Nat) : Int) ∧ True) ∧ (decide (M.first (fun k => !M.okS x y k) n < n) = false → (-1 : Int) = M.idx (fun k => !M.okS x y k) n) ∧ (decide (M.first (fun k => !M.okS x y k) n < n) = true → (↑(M.first (fun k => !M.okS x y k) n) : Int) = M.idx (fun k => !M.okS x y k) n)) := by kernel_rfl
theorem br113 (n : Nat) (x y : Nat → Int) (hp : (R64 n) ∧ AllP []) : (((0 : Nat) ≤ n ∧ R64 (↑n : Int)) ∧ ∀ (j : Nat), j < (0 : Nat) → M.okS x y j = true) ∧ ((n = n ∧ ∀ (k : Nat), k < n → x k = x k ∧ y k = y k) ∧ (↑n : Int) = (↑n : Int) ∧ (0 : Int) = (↑(0 : Nat) : Int) ∧ True) ∧ (decide (M.first (fun k => !M.okS x y k) n < n) = false → (-1 : Int) = M.idx (fun k => !M.okS x y k) n) ∧ (decide (M.first (fun k => !M.okS x y k) n < n) = true → (↑(M.first (fun k => !M.okS x y k) n) : Int) = M.idx (fun k => !M.okS x y k) n) := by
  refine ⟨⟨⟨by omega, hp.1⟩, fun j hj => by omega⟩, ⟨⟨rfl, fun _ _ => ⟨rfl, rfl⟩⟩, rfl, rfl, trivial⟩, fun h => ?_, fun h => ?_⟩
  all_goals simp only [decide_eq_true_eq, decide_eq_false_iff_not] at h
  · unfold M.idx; rw [if_neg h]
  · unfold M.idx; rw [if_pos h]
theorem s113 : PureOK PP 113 e113 := by
  intro xs ps res h hp
  unfold e113 at h
  split at h
  · rename_i n g_1
    simp only [Option.some.injEq, Prod.mk.injEq] at h
    obtain ⟨rfl, rfl⟩ := h
    simp only [AllP.cons] at hp
    obtain ⟨Hg_1, hp⟩ := hp
    refine Spec.args (ys := [.sl 2 n (fun k => [SI ((cI g_1 0) k), SI ((cI g_1 1) k)]), .fn 95 [] []]) ?_ (.cons (.row Hg_1 fun _ => rfl) (.cons (.refl _) .nil))
    refine enter (L := [0,1,4,5,7,8,9,16]) (LO := [(0, loopT false Try.f113.ntmps 0 (lp113 n (cI g_1 0) (cI g_1 1)) (fun _ _ _ => (0 : Nat)))]) (E := []) (O := []) (ck := true) (.nil) (.nil) (k := 113) (f := Try.f113) (xs := [.sl 2 n (fun k => [SI ((cI g_1 0) k), SI ((cI g_1 1) k)]), .fn 95 [] []]) (r := (SI (M.idx (p113 (cI g_1 0) (cI g_1 1)) n))) (by kernel_rfl) (by kernel_rfl) (fun Y => .cons (by kernel_rfl) (t113 n (cI g_1 0) (cI g_1 1) FOK.wide Y) (.nil)) ?_
    exact Hold.of (r113 n (cI g_1 0) (cI g_1 1)) (br113 n (cI g_1 0) (cI g_1 1) hp)
  · cases h
def e94 : List SV → Option (List Prop × SV)
  | [.sl 2 n g_1, .fn 95 [] []] => some ([Row 2 n g_1, R64 n], .bool (!M.allB (M.okS (cI g_1 0) (cI g_1 1)) n))
  | _ => none
theorem r94 (n : Nat) (x y : Nat → Int) : V true [] [(113, pureE e113)] Try.f94 [0,1,4] [] [.sl 2 n (fun k => [SI (x k), SI (y k)]), .fn 95 [] []] (.bool (!M.allB (M.okS x y) n)) = ((∀ (k : Nat), k < n → x k = x k ∧ y k = y k) ∧ R64 (↑n : Int) ∧ decide ((0 : Int) ≤ M.idx (fun k => !M.okS x y k) n) = !M.allB (M.okS x y) n) := by kernel_rfl
theorem br94 (n : Nat) (x y : Nat → Int) (hp : (R64 n) ∧ AllP []) : (∀ (k : Nat), k < n → x k = x k ∧ y k = y k) ∧ R64 (↑n : Int) ∧ decide ((0 : Int) ≤ M.idx (fun k => !M.okS x y k) n) = !M.allB (M.okS x y) n := by
  refine ⟨fun _ _ => ⟨rfl, rfl⟩, hp.1, ?_⟩
  have h := @M.first_lt (fun k => !M.okS x y k) n
  simp only [Bool.not_not] at h
  unfold M.idx
  rw [Bool.eq_iff_iff]
  simp only [decide_eq_true_eq, Bool.not_eq_true']
  rw [← Bool.not_eq_true, ← h]
  split <;> omega
theorem s94 : PureOK PP 94 e94 := by
  intro xs ps res h hp
  unfold e94 at h
  split at h
  · rename_i n g_1
    simp only [Option.some.injEq, Prod.mk.injEq] at h
    obtain ⟨rfl, rfl⟩ := h
    simp only [AllP.cons] at hp
    obtain ⟨Hg_1, hp⟩ := hp
    refine Spec.args (ys := [.sl 2 n (fun k => [SI ((cI g_1 0) k), SI ((cI g_1 1) k)]), .fn 95 [] []]) ?_ (.cons (.row Hg_1 fun _ => rfl) (.cons (.refl _) .nil))
    refine enter (L := [0,1,4]) (LO := []) (E := []) (O := [(113, pureE e113)]) (ck := true) (.nil) (.cons (pureE_ok s113) (.nil)) (k := 94) (f := Try.f94) (xs := [.sl 2 n (fun k => [SI ((cI g_1 0) k), SI ((cI g_1 1) k)]), .fn 95 [] []]) (r := (.bool (!M.allB (M.okS (cI g_1 0) (cI g_1 1)) n))) (by kernel_rfl) (by kernel_rfl) (fun _ => .nil) ?_
    exact Hold.of (r94 n (cI g_1 0) (cI g_1 1)) (br94 n (cI g_1 0) (cI g_1 1) hp)
  · cases h
def e55 : List SV → Option (List Prop × SV)
  | [.agg [.int .i64 w, .int .i64 h, .int .i64 s, .sl 2 n g_1]] => some ([Row 2 n g_1, R64 n], SI (M.gridE w h s n (cI g_1 0) (cI g_1 1)))
  | _ => none
theorem r55 (w h s : Int) (n : Nat) (x y : Nat → Int) : V true [] [(93, pureE e93), (94, pureE e94)] Try.f55 [0,1,2,3,20,30] [] [.agg [SI w, SI h, SI s, .sl 2 n (fun k => [SI (x k), SI (y k)])]] (SI (M.gridE w h s n x y)) = (((!!(decide ((1 : Int) ≤ w) && decide (w ≤ (24 : Int)))) = true → (!!(decide ((1 : Int) ≤ w) && decide (w ≤ (24 : Int)))) = true) ∧ ((!!(decide ((1 : Int) ≤ w) && decide (w ≤ (24 : Int)))) = true → (!!(decide ((1 : Int) ≤ w) && decide (w ≤ (24 : Int)))) = true) ∧ ((!!(decide ((1 : Int) ≤ w) && decide (w ≤ (24 : Int)))) = true → (!!(decide ((1 : Int) ≤ w) && decide (w ≤ (24 : Int)))) = true) ∧ ((!(decide ((1 : Int) ≤ w) && decide (w ≤ (24 : Int)))) = false → (!!(decide ((1 : Int) ≤ w) && decide (w ≤ (24 : Int)))) = true) ∧ ((!bif !(decide ((1 : Int) ≤ w) && decide (w ≤ (24 : Int))) then true else !(decide ((1 : Int) ≤ h) && decide (h ≤ (24 : Int)))) = true → (!bif !(decide ((1 : Int) ≤ w) && decide (w ≤ (24 : Int))) then true else !(decide ((1 : Int) ≤ h) && decide (h ≤ (24 : Int)))) = true) ∧ ((!bif !(decide ((1 : Int) ≤ w) && decide (w ≤ (24 : Int))) then true else !(decide ((1 : Int) ≤ h) && decide (h ≤ (24 : Int)))) = true → (!bif !(decide ((1 : Int) ≤ w) && decide (w ≤ (24 : Int))) then true else !(decide ((1 : Int) ≤ h) && decide (h ≤ (24 : Int)))) = true) ∧ ((!bif !(decide ((1 : Int) ≤ w) && decide (w ≤ (24 : Int))) then true else !(decide ((1 : Int) ≤ h) && decide (h ≤ (24 : Int)))) = true → (!bif !(decide ((1 : Int) ≤ w) && decide (w ≤ (24 : Int))) then true else !(decide ((1 : Int) ≤ h) && decide (h ≤ (24 : Int)))) = true) ∧ ((bif !(decide ((1 : Int) ≤ w) && decide (w ≤ (24 : Int))) then true else !(decide ((1 : Int) ≤ h) && decide (h ≤ (24 : Int)))) = false → (!bif !(decide ((1 : Int) ≤ w) && decide (w ≤ (24 : Int))) then true else !(decide ((1 : Int) ≤ h) && decide (h ≤ (24 : Int)))) = true) ∧ ((bif bif !(decide ((1 : Int) ≤ w) && decide (w ≤ (24 : Int))) then true else !(decide ((1 : Int) ≤ h) && decide (h ≤ (24 : Int))) then true else !(decide ((1 : Int) ≤ s) && decide (s ≤ (10000 : Int)))) = true → (3 : Int) = M.gridE w h s n x y) ∧ ((bif bif !(decide ((1 : Int) ≤ w) && decide (w ≤ (24 : Int))) then true else !(decide ((1 : Int) ≤ h) && decide (h ≤ (24 : Int))) then true else !(decide ((1 : Int) ≤ s) && decide (s ≤ (10000 : Int)))) = false → R64 (w * h) ∧ ((!decide ((↑n : Int) = w * h)) = true → (11 : Int) = M.gridE w h s n x y) ∧ ((!decide ((↑n : Int) = w * h)) = false → (∀ (k : Nat), k < n → x k = x k ∧ y k = y k) ∧ R64 (↑n : Int) ∧ ((!M.allB (M.okS x y) n) = true → (3 : Int) = M.gridE w h s n x y) ∧ ((!M.allB (M.okS x y) n) = false → (0 : Int) = M.gridE w h s n x y)))) := by kernel_rfl
theorem br55 (w h s : Int) (n : Nat) (x y : Nat → Int) (hp : (R64 n) ∧ AllP []) : ((!!(decide ((1 : Int) ≤ w) && decide (w ≤ (24 : Int)))) = true → (!!(decide ((1 : Int) ≤ w) && decide (w ≤ (24 : Int)))) = true) ∧ ((!!(decide ((1 : Int) ≤ w) && decide (w ≤ (24 : Int)))) = true → (!!(decide ((1 : Int) ≤ w) && decide (w ≤ (24 : Int)))) = true) ∧ ((!!(decide ((1 : Int) ≤ w) && decide (w ≤ (24 : Int)))) = true → (!!(decide ((1 : Int) ≤ w) && decide (w ≤ (24 : Int)))) = true) ∧ ((!(decide ((1 : Int) ≤ w) && decide (w ≤ (24 : Int)))) = false → (!!(decide ((1 : Int) ≤ w) && decide (w ≤ (24 : Int)))) = true) ∧ ((!bif !(decide ((1 : Int) ≤ w) && decide (w ≤ (24 : Int))) then true else !(decide ((1 : Int) ≤ h) && decide (h ≤ (24 : Int)))) = true → (!bif !(decide ((1 : Int) ≤ w) && decide (w ≤ (24 : Int))) then true else !(decide ((1 : Int) ≤ h) && decide (h ≤ (24 : Int)))) = true) ∧ ((!bif !(decide ((1 : Int) ≤ w) && decide (w ≤ (24 : Int))) then true else !(decide ((1 : Int) ≤ h) && decide (h ≤ (24 : Int)))) = true → (!bif !(decide ((1 : Int) ≤ w) && decide (w ≤ (24 : Int))) then true else !(decide ((1 : Int) ≤ h) && decide (h ≤ (24 : Int)))) = true) ∧ ((!bif !(decide ((1 : Int) ≤ w) && decide (w ≤ (24 : Int))) then true else !(decide ((1 : Int) ≤ h) && decide (h ≤ (24 : Int)))) = true → (!bif !(decide ((1 : Int) ≤ w) && decide (w ≤ (24 : Int))) then true else !(decide ((1 : Int) ≤ h) && decide (h ≤ (24 : Int)))) = true) ∧ ((bif !(decide ((1 : Int) ≤ w) && decide (w ≤ (24 : Int))) then true else !(decide ((1 : Int) ≤ h) && decide (h ≤ (24 : Int)))) = false → (!bif !(decide ((1 : Int) ≤ w) && decide (w ≤ (24 : Int))) then true else !(decide ((1 : Int) ≤ h) && decide (h ≤ (24 : Int)))) = true) ∧ ((bif bif !(decide ((1 : Int) ≤ w) && decide (w ≤ (24 : Int))) then true else !(decide ((1 : Int) ≤ h) && decide (h ≤ (24 : Int))) then true else !(decide ((1 : Int) ≤ s) && decide (s ≤ (10000 : Int)))) = true → (3 : Int) = M.gridE w h s n x y) ∧ ((bif bif !(decide ((1 : Int) ≤ w) && decide (w ≤ (24 : Int))) then true else !(decide ((1 : Int) ≤ h) && decide (h ≤ (24 : Int))) then true else !(decide ((1 : Int) ≤ s) && decide (s ≤ (10000 : Int)))) = false → R64 (w * h) ∧ ((!decide ((↑n : Int) = w * h)) = true → (11 : Int) = M.gridE w h s n x y) ∧ ((!decide ((↑n : Int) = w * h)) = false → (∀ (k : Nat), k < n → x k = x k ∧ y k = y k) ∧ R64 (↑n : Int) ∧ ((!M.allB (M.okS x y) n) = true → (3 : Int) = M.gridE w h s n x y) ∧ ((!M.allB (M.okS x y) n) = false → (0 : Int) = M.gridE w h s n x y))) := by
  unfold M.gridE
  have hn := hp.1
  simp only [R64] at hn ⊢
  have hm : (decide (1 ≤ w) && decide (w ≤ 24)) = true → (decide (1 ≤ h) && decide (h ≤ 24)) = true → 1 ≤ w * h ∧ w * h ≤ 576 := fun h1 h2 => by
    simp only [Bool.and_eq_true, decide_eq_true_eq] at h1 h2
    exact M.area h1.1 h1.2 h2.1 h2.2
  grind
theorem s55 : PureOK PP 55 e55 := by
  intro xs ps res h hp
  unfold e55 at h
  split at h
  · rename_i w h s n g_1
    simp only [Option.some.injEq, Prod.mk.injEq] at h
    obtain ⟨rfl, rfl⟩ := h
    simp only [AllP.cons] at hp
    obtain ⟨Hg_1, hp⟩ := hp
    refine Spec.args (ys := [.agg [SI w, SI h, SI s, .sl 2 n (fun k => [SI ((cI g_1 0) k), SI ((cI g_1 1) k)])]]) ?_ (.cons (.agg (.cons (.refl _) (.cons (.refl _) (.cons (.refl _) (.cons (.row Hg_1 fun _ => rfl) .nil))))) .nil)
    refine enter (L := [0,1,2,3,20,30]) (LO := []) (E := []) (O := [(93, pureE e93), (94, pureE e94)]) (ck := true) (.nil) (.cons (pureE_ok s93) (.cons (pureE_ok s94) (.nil))) (k := 55) (f := Try.f55) (xs := [.agg [SI w, SI h, SI s, .sl 2 n (fun k => [SI ((cI g_1 0) k), SI ((cI g_1 1) k)])]]) (r := (SI (M.gridE w h s n (cI g_1 0) (cI g_1 1)))) (by kernel_rfl) (by kernel_rfl) (fun _ => .nil) ?_
    exact Hold.of (r55 w h s n (cI g_1 0) (cI g_1 1)) (br55 w h s n (cI g_1 0) (cI g_1 1) hp)
  · cases h
end Go.Proofs.Ytkklmkogdogbkaa.Sep
