/-
  Contracts of both Exceeds of the stage 'surge', and of their law. No condition. (This text proves no statement by itself.)
-/
import Derived.Test.YtkklmkogdogbkaaKS6

namespace Go.Proofs.Ytkklmkogdogbkaa.Sep
open Go
set_option linter.unusedVariables false
set_option linter.unusedSimpArgs false
def lp40 (n : Nat) (x y : Nat → Int) (z : Int) : LoopS where
  ι := Nat
  β := Unit
  pre k := (k ≤ n ∧ R64 n) ∧ ∀ j, j < k → M.ordR x y j = true
  μ k := n - k
  next k _ _ _ := k + 1
  out _ := ()
  early _ := !M.allB (M.ordR x y) n
  SA k := [(1, SI z), (4, SI (M.idx (M.above y z) k)), (5, SI (M.idx (M.above x z) k)), (9, .sl 2 n (fun k => [SI (x k), SI (y k)])), (10, SI n), (11, SI k)]
  SH _ := []
  n0 := 0
  NA _ := [(4, SI (M.idx (M.above y z) n)), (5, SI (M.idx (M.above x z) n))]
  NH _ := []
  n1 := 0
  RA _ := [(4, SI 0), (5, SI 0), (6, SI 3)]
  RH _ := []
def Rq40 (n : Nat) (x y : Nat → Int) (z : Int) (k : Nat) : Prop := (decide ((↑k : Int) < (↑n : Int)) = true → (0 : Int) ≤ (↑k : Int) ∧ (↑k : Int) < (↑n : Int) ∧ Int.toNat (↑k : Int) < n ∧ (decide (y (Int.toNat (↑k : Int)) < x (Int.toNat (↑k : Int))) = true → (!M.allB (M.ordR x y) n) = true ∧ (0 : Int) = (0 : Int) ∧ (0 : Int) = (0 : Int) ∧ (3 : Int) = (3 : Int) ∧ True) ∧ (decide (y (Int.toNat (↑k : Int)) < x (Int.toNat (↑k : Int))) = false → (decide (z < y (Int.toNat (↑k : Int))) = true → decide (z < y (Int.toNat (↑k : Int))) = true) ∧ (decide (z < y (Int.toNat (↑k : Int))) = true → decide (z < y (Int.toNat (↑k : Int))) = true) ∧ ((bif decide (z < y (Int.toNat (↑k : Int))) then decide (M.idx (M.above y z) k < (0 : Int)) else false) = true → (decide (z < x (Int.toNat (↑k : Int))) = true → decide (z < x (Int.toNat (↑k : Int))) = true) ∧ (decide (z < x (Int.toNat (↑k : Int))) = true → decide (z < x (Int.toNat (↑k : Int))) = true) ∧ ((bif decide (z < x (Int.toNat (↑k : Int))) then decide (M.idx (M.above x z) k < (0 : Int)) else false) = true → R64 ((↑k : Int) + (1 : Int)) ∧ ((k + (1 : Nat) ≤ n ∧ R64 (↑n : Int)) ∧ ∀ (j : Nat), j < k + (1 : Nat) → M.ordR x y j = true) ∧ n - (k + (1 : Nat)) < n - k ∧ () = () ∧ z = z ∧ (↑k : Int) = M.idx (M.above y z) (k + (1 : Nat)) ∧ (↑k : Int) = M.idx (M.above x z) (k + (1 : Nat)) ∧ (n = n ∧ ∀ (k : Nat), k < n → x k = x k ∧ y k = y k) ∧ (↑n : Int) = (↑n : Int) ∧ (↑k : Int) + (1 : Int) = (↑(k + (1 : Nat)) : Int) ∧ True) ∧ ((bif decide (z < x (Int.toNat (↑k : Int))) then decide (M.idx (M.above x z) k < (0 : Int)) else false) = false → R64 ((↑k : Int) + (1 : Int)) ∧ ((k + (1 : Nat) ≤ n ∧ R64 (↑n : Int)) ∧ ∀ (j : Nat), j < k + (1 : Nat) → M.ordR x y j = true) ∧ n - (k + (1 : Nat)) < n - k ∧ () = () ∧ z = z ∧ (↑k : Int) = M.idx (M.above y z) (k + (1 : Nat)) ∧ M.idx (M.above x z) k = M.idx (M.above x z) (k + (1 : Nat)) ∧ (n = n ∧ ∀ (k : Nat), k < n → x k = x k ∧ y k = y k) ∧ (↑n : Int) = (↑n : Int) ∧ (↑k : Int) + (1 : Int) = (↑(k + (1 : Nat)) : Int) ∧ True)) ∧ ((bif decide (z < y (Int.toNat (↑k : Int))) then decide (M.idx (M.above y z) k < (0 : Int)) else false) = false → (decide (z < x (Int.toNat (↑k : Int))) = true → decide (z < x (Int.toNat (↑k : Int))) = true) ∧ (decide (z < x (Int.toNat (↑k : Int))) = true → decide (z < x (Int.toNat (↑k : Int))) = true) ∧ ((bif decide (z < x (Int.toNat (↑k : Int))) then decide (M.idx (M.above x z) k < (0 : Int)) else false) = true → R64 ((↑k : Int) + (1 : Int)) ∧ ((k + (1 : Nat) ≤ n ∧ R64 (↑n : Int)) ∧ ∀ (j : Nat), j < k + (1 : Nat) → M.ordR x y j = true) ∧ n - (k + (1 : Nat)) < n - k ∧ () = () ∧ z = z ∧ M.idx (M.above y z) k = M.idx (M.above y z) (k + (1 : Nat)) ∧ (↑k : Int) = M.idx (M.above x z) (k + (1 : Nat)) ∧ (n = n ∧ ∀ (k : Nat), k < n → x k = x k ∧ y k = y k) ∧ (↑n : Int) = (↑n : Int) ∧ (↑k : Int) + (1 : Int) = (↑(k + (1 : Nat)) : Int) ∧ True) ∧ ((bif decide (z < x (Int.toNat (↑k : Int))) then decide (M.idx (M.above x z) k < (0 : Int)) else false) = false → R64 ((↑k : Int) + (1 : Int)) ∧ ((k + (1 : Nat) ≤ n ∧ R64 (↑n : Int)) ∧ ∀ (j : Nat), j < k + (1 : Nat) → M.ordR x y j = true) ∧ n - (k + (1 : Nat)) < n - k ∧ () = () ∧ z = z ∧ M.idx (M.above y z) k = M.idx (M.above y z) (k + (1 : Nat)) ∧ M.idx (M.above x z) k = M.idx (M.above x z) (k + (1 : Nat)) ∧ (n = n ∧ ∀ (k : Nat), k < n → x k = x k ∧ y k = y k) ∧ (↑n : Int) = (↑n : Int) ∧ (↑k : Int) + (1 : Int) = (↑(k + (1 : Nat)) : Int) ∧ True)))) ∧ (decide ((↑k : Int) < (↑n : Int)) = false → (!M.allB (M.ordR x y) n) = false ∧ M.idx (M.above y z) k = M.idx (M.above y z) n ∧ M.idx (M.above x z) k = M.idx (M.above x z) n ∧ True)
theorem q40 (n : Nat) (x y : Nat → Int) (z : Int) (k : Nat) : VL true [] [] YS.none Try.f40 0 [0,1,4,5,6,7,8,9,10,11,12,16,22,39] [] 0 (lp40 n x y z) (k) = Rq40 n x y z k := by kernel_rfl
theorem peq40 (n : Nat) (x y : Nat → Int) (z : Int) (k : Nat) : (lp40 n x y z).pre (k) = ((k ≤ n ∧ R64 (↑n : Int)) ∧ ∀ (j : Nat), j < k → M.ordR x y j = true) := by kernel_rfl
theorem bq40 (n : Nat) (x y : Nat → Int) (z : Int) (k : Nat) (hp : (k ≤ n ∧ R64 (↑n : Int)) ∧ ∀ (j : Nat), j < k → M.ordR x y j = true) : Rq40 n x y z k := by
  unfold Rq40
  obtain ⟨⟨hk, hR⟩, ho⟩ := hp
  have eo : M.ordR x y k = decide (x k ≤ y k) := rfl
  have ey : M.above y z k = decide (z < y k) := rfl
  have ex : M.above x z k = decide (z < x k) := rfl
  have iy := M.idx_succ (M.above y z) k
  have ix := M.idx_succ (M.above x z) k
  rw [ey] at iy
  rw [ex] at ix
  have ha := @M.allB_iff (M.ordR x y) n
  simp only [Int.toNat_natCast, iy, ix]
  clear iy ix
  generalize ea : M.idx (M.above y z) k = a at *
  generalize eb : M.idx (M.above x z) k = b at *
  refine ⟨fun hlt => ?_, fun hlt => ?_⟩
  · simp only [decide_eq_true_eq] at hlt
    unfold R64 at *
    by_cases h : x k ≤ y k
    · have hn : ∀ j, j < k + 1 → M.ordR x y j = true := fun j hj => by
        by_cases e' : j = k
        · subst e'; rw [eo]; exact decide_eq_true h
        · exact ho j (by omega)
      have h' : ¬ y k < x k := by omega
      by_cases c1 : z < y k <;> by_cases c2 : z < x k <;> by_cases c3 : a < 0 <;> by_cases c4 : b < 0 <;> simp [h', c1, c2, c3, c4, hn] <;> (repeat' apply And.intro) <;> omega
    · have h' : y k < x k := by omega
      have : M.allB (M.ordR x y) n = false := by
        rw [Bool.eq_false_iff]
        intro h2
        have := ha.1 h2 k (by omega)
        rw [eo] at this
        exact h (of_decide_eq_true this)
      simp [h', this]
      omega
  · simp only [decide_eq_false_iff_not] at hlt
    have e : k = n := by omega
    subst e
    have := ha.2 ho
    simp [this, ea, eb]
theorem t40 (n : Nat) (x y : Nat → Int) (z : Int) {F : Fence} (hF : FOK F) (Y : YEnv PP YS.none) : ∀ Q A H nx, loopT false Try.f40.ntmps 0 (lp40 n x y z) (fun _ _ _ => (0 : Nat)) Q A H nx → WPS Y F Try.f40.ntmps 0 (.block 0 (blkAt 0 Try.f40)) Q A H nx :=
  loopW (E := []) (.nil) (O := []) (.nil) (ck := true) (L := [0,1,4,5,6,7,8,9,10,11,12,16,22,39]) (f := Try.f40) (m := 0) (id := 0) (l := (lp40 n x y z)) (LI := fun i => []) Y hF (by kernel_rfl) (fun _ => .nil) (by
    rintro k hp
    exact Hold.of (q40 n x y z k) (bq40 n x y z k ((peq40 n x y z k).mp hp)))
def e40 : List SV → Option (List Prop × SV)
  | [.sl 2 n g_1, .int .i64 z] => some ([Row 2 n g_1, R64 n], .tup [SI (M.ex0 (cI g_1 0) (cI g_1 1) n (M.idx (M.above (cI g_1 1) z) n)), SI (M.ex0 (cI g_1 0) (cI g_1 1) n (M.idx (M.above (cI g_1 0) z) n)), SI (M.exE (cI g_1 0) (cI g_1 1) n)])
  | _ => none
def Rr40 (n : Nat) (x y : Nat → Int) (z : Int) : Prop := (((0 : Nat) ≤ n ∧ R64 (↑n : Int)) ∧ ∀ (j : Nat), j < (0 : Nat) → M.ordR x y j = true) ∧ (z = z ∧ (-1 : Int) = M.idx (M.above y z) (0 : Nat) ∧ (-1 : Int) = M.idx (M.above x z) (0 : Nat) ∧ (n = n ∧ ∀ (k : Nat), k < n → x k = x k ∧ y k = y k) ∧ (↑n : Int) = (↑n : Int) ∧ (0 : Int) = (↑(0 : Nat) : Int) ∧ True) ∧ ((!M.allB (M.ordR x y) n) = false → M.idx (M.above y z) n = M.ex0 x y n (M.idx (M.above y z) n) ∧ M.idx (M.above x z) n = M.ex0 x y n (M.idx (M.above x z) n) ∧ (0 : Int) = M.exE x y n) ∧ ((!M.allB (M.ordR x y) n) = true → (0 : Int) = M.ex0 x y n (M.idx (M.above y z) n) ∧ (0 : Int) = M.ex0 x y n (M.idx (M.above x z) n) ∧ (3 : Int) = M.exE x y n)
theorem r40 (n : Nat) (x y : Nat → Int) (z : Int) : V true [] [] Try.f40 [0,1,4,5,6,7,8,9,10,11,12,16,22,39] [(0, loopT false Try.f40.ntmps 0 (lp40 n x y z) (fun _ _ _ => (0 : Nat)))] [.sl 2 n (fun k => [SI (x k), SI (y k)]), SI z] (.tup [SI (M.ex0 x y n (M.idx (M.above y z) n)), SI (M.ex0 x y n (M.idx (M.above x z) n)), SI (M.exE x y n)]) = Rr40 n x y z := by kernel_rfl
theorem br40 (n : Nat) (x y : Nat → Int) (z : Int) (hp : (R64 n) ∧ AllP []) : Rr40 n x y z := by
  unfold Rr40
  have hn := hp.1
  have z1 : ∀ p, M.idx p 0 = -1 := fun p => rfl
  unfold M.ex0 M.exE
  cases M.allB (M.ordR x y) n <;> simp [hn, z1]
theorem s40 : PureOK PP 40 e40 := by
  intro xs ps res h hp
  unfold e40 at h
  split at h
  · rename_i n g_1 z
    simp only [Option.some.injEq, Prod.mk.injEq] at h
    obtain ⟨rfl, rfl⟩ := h
    simp only [AllP.cons] at hp
    obtain ⟨Hg_1, hp⟩ := hp
    refine Spec.args (ys := [.sl 2 n (fun k => [SI ((cI g_1 0) k), SI ((cI g_1 1) k)]), SI z]) ?_ (.cons (.row Hg_1 fun _ => rfl) (.cons (.refl _) .nil))
    refine enter (L := [0,1,4,5,6,7,8,9,10,11,12,16,22,39]) (LO := [(0, loopT false Try.f40.ntmps 0 (lp40 n (cI g_1 0) (cI g_1 1) z) (fun _ _ _ => (0 : Nat)))]) (E := []) (O := []) (ck := true) (.nil) (.nil) (k := 40) (f := Try.f40) (xs := [.sl 2 n (fun k => [SI ((cI g_1 0) k), SI ((cI g_1 1) k)]), SI z]) (r := (.tup [SI (M.ex0 (cI g_1 0) (cI g_1 1) n (M.idx (M.above (cI g_1 1) z) n)), SI (M.ex0 (cI g_1 0) (cI g_1 1) n (M.idx (M.above (cI g_1 0) z) n)), SI (M.exE (cI g_1 0) (cI g_1 1) n)])) (by kernel_rfl) (by kernel_rfl) (fun Y => .cons (by kernel_rfl) (t40 n (cI g_1 0) (cI g_1 1) z FOK.wide Y) (.nil)) ?_
    exact Hold.of (r40 n (cI g_1 0) (cI g_1 1) z) (br40 n (cI g_1 0) (cI g_1 1) z hp)
  · cases h
def lp41 (n : Nat) (x y : Nat → Int) (z : Int) : LoopS where
  ι := Nat × Int × Int
  β := Unit
  pre p := (p.1 ≤ n ∧ R64 n) ∧ M.backOK (M.above y z) n p.1 p.2.1 ∧ M.backOK (M.above x z) n p.1 p.2.2 ∧ ∀ j, p.1 ≤ j → j < n → M.ordR x y j = true
  μ p := p.1
  next p A _ _ := (p.1 - 1, asI (getS A 7), asI (getS A 8))
  out _ := ()
  early _ := !M.allB (M.ordR x y) n
  SA p := [(0, .sl 2 n (fun k => [SI (x k), SI (y k)])), (1, SI z), (7, SI p.2.1), (8, SI p.2.2), (9, SI ((p.1 : Int) - 1))]
  SH _ := []
  n0 := 0
  NA _ := [(7, SI (M.idx (M.above y z) n)), (8, SI (M.idx (M.above x z) n))]
  NH _ := []
  n1 := 0
  RA _ := [(4, SI 0), (5, SI 0), (6, SI 3)]
  RH _ := []
def Rq41 (n : Nat) (x y : Nat → Int) (z : Int) (j : Nat) (a b : Int) : Prop := (decide ((0 : Int) ≤ (↑j : Int) - (1 : Int)) = true → (0 : Int) ≤ (↑j : Int) - (1 : Int) ∧ (↑j : Int) - (1 : Int) < (↑n : Int) ∧ Int.toNat ((↑j : Int) - (1 : Int)) < n ∧ (0 : Int) ≤ (↑j : Int) - (1 : Int) ∧ (↑j : Int) - (1 : Int) < (↑n : Int) ∧ Int.toNat ((↑j : Int) - (1 : Int)) < n ∧ (decide (y (Int.toNat ((↑j : Int) - (1 : Int))) < x (Int.toNat ((↑j : Int) - (1 : Int)))) = true → (!M.allB (M.ordR x y) n) = true ∧ (0 : Int) = (0 : Int) ∧ (0 : Int) = (0 : Int) ∧ (3 : Int) = (3 : Int) ∧ True) ∧ (decide (y (Int.toNat ((↑j : Int) - (1 : Int))) < x (Int.toNat ((↑j : Int) - (1 : Int)))) = false → (0 : Int) ≤ (↑j : Int) - (1 : Int) ∧ (↑j : Int) - (1 : Int) < (↑n : Int) ∧ Int.toNat ((↑j : Int) - (1 : Int)) < n ∧ (decide (z < y (Int.toNat ((↑j : Int) - (1 : Int)))) = true → (0 : Int) ≤ (↑j : Int) - (1 : Int) ∧ (↑j : Int) - (1 : Int) < (↑n : Int) ∧ Int.toNat ((↑j : Int) - (1 : Int)) < n ∧ (decide (z < x (Int.toNat ((↑j : Int) - (1 : Int)))) = true → R64 ((↑j : Int) - (1 : Int) - (1 : Int)) ∧ ((j - (1 : Nat) ≤ n ∧ R64 (↑n : Int)) ∧ M.backOK (M.above y z) n (j - (1 : Nat)) ((↑j : Int) - (1 : Int)) ∧ M.backOK (M.above x z) n (j - (1 : Nat)) ((↑j : Int) - (1 : Int)) ∧ ∀ (j_1 : Nat), j - (1 : Nat) ≤ j_1 → j_1 < n → M.ordR x y j_1 = true) ∧ j - (1 : Nat) < j ∧ () = () ∧ (n = n ∧ ∀ (k : Nat), k < n → x k = x k ∧ y k = y k) ∧ z = z ∧ (↑j : Int) - (1 : Int) = (↑j : Int) - (1 : Int) ∧ (↑j : Int) - (1 : Int) = (↑j : Int) - (1 : Int) ∧ (↑j : Int) - (1 : Int) - (1 : Int) = (↑(j - (1 : Nat)) : Int) - (1 : Int) ∧ True) ∧ (decide (z < x (Int.toNat ((↑j : Int) - (1 : Int)))) = false → R64 ((↑j : Int) - (1 : Int) - (1 : Int)) ∧ ((j - (1 : Nat) ≤ n ∧ R64 (↑n : Int)) ∧ M.backOK (M.above y z) n (j - (1 : Nat)) ((↑j : Int) - (1 : Int)) ∧ M.backOK (M.above x z) n (j - (1 : Nat)) b ∧ ∀ (j_1 : Nat), j - (1 : Nat) ≤ j_1 → j_1 < n → M.ordR x y j_1 = true) ∧ j - (1 : Nat) < j ∧ () = () ∧ (n = n ∧ ∀ (k : Nat), k < n → x k = x k ∧ y k = y k) ∧ z = z ∧ (↑j : Int) - (1 : Int) = (↑j : Int) - (1 : Int) ∧ b = b ∧ (↑j : Int) - (1 : Int) - (1 : Int) = (↑(j - (1 : Nat)) : Int) - (1 : Int) ∧ True)) ∧ (decide (z < y (Int.toNat ((↑j : Int) - (1 : Int)))) = false → (0 : Int) ≤ (↑j : Int) - (1 : Int) ∧ (↑j : Int) - (1 : Int) < (↑n : Int) ∧ Int.toNat ((↑j : Int) - (1 : Int)) < n ∧ (decide (z < x (Int.toNat ((↑j : Int) - (1 : Int)))) = true → R64 ((↑j : Int) - (1 : Int) - (1 : Int)) ∧ ((j - (1 : Nat) ≤ n ∧ R64 (↑n : Int)) ∧ M.backOK (M.above y z) n (j - (1 : Nat)) a ∧ M.backOK (M.above x z) n (j - (1 : Nat)) ((↑j : Int) - (1 : Int)) ∧ ∀ (j_1 : Nat), j - (1 : Nat) ≤ j_1 → j_1 < n → M.ordR x y j_1 = true) ∧ j - (1 : Nat) < j ∧ () = () ∧ (n = n ∧ ∀ (k : Nat), k < n → x k = x k ∧ y k = y k) ∧ z = z ∧ a = a ∧ (↑j : Int) - (1 : Int) = (↑j : Int) - (1 : Int) ∧ (↑j : Int) - (1 : Int) - (1 : Int) = (↑(j - (1 : Nat)) : Int) - (1 : Int) ∧ True) ∧ (decide (z < x (Int.toNat ((↑j : Int) - (1 : Int)))) = false → R64 ((↑j : Int) - (1 : Int) - (1 : Int)) ∧ ((j - (1 : Nat) ≤ n ∧ R64 (↑n : Int)) ∧ M.backOK (M.above y z) n (j - (1 : Nat)) a ∧ M.backOK (M.above x z) n (j - (1 : Nat)) b ∧ ∀ (j_1 : Nat), j - (1 : Nat) ≤ j_1 → j_1 < n → M.ordR x y j_1 = true) ∧ j - (1 : Nat) < j ∧ () = () ∧ (n = n ∧ ∀ (k : Nat), k < n → x k = x k ∧ y k = y k) ∧ z = z ∧ a = a ∧ b = b ∧ (↑j : Int) - (1 : Int) - (1 : Int) = (↑(j - (1 : Nat)) : Int) - (1 : Int) ∧ True)))) ∧ (decide ((0 : Int) ≤ (↑j : Int) - (1 : Int)) = false → (!M.allB (M.ordR x y) n) = false ∧ a = M.idx (M.above y z) n ∧ b = M.idx (M.above x z) n ∧ True)
theorem q41 (n : Nat) (x y : Nat → Int) (z : Int) (j : Nat) (a b : Int) : VL true [] [] YS.none Try.f41 0 [0,1,4,5,6,7,8,9,14,27,34,42] [] 0 (lp41 n x y z) ((j, a, b)) = Rq41 n x y z j a b := by kernel_rfl
theorem peq41 (n : Nat) (x y : Nat → Int) (z : Int) (j : Nat) (a b : Int) : (lp41 n x y z).pre ((j, a, b)) = ((j ≤ n ∧ R64 (↑n : Int)) ∧ M.backOK (M.above y z) n j a ∧ M.backOK (M.above x z) n j b ∧ ∀ (j_1 : Nat), j ≤ j_1 → j_1 < n → M.ordR x y j_1 = true) := by kernel_rfl
theorem bq41 (n : Nat) (x y : Nat → Int) (z : Int) (j : Nat) (a b : Int) (hp : (j ≤ n ∧ R64 (↑n : Int)) ∧ M.backOK (M.above y z) n j a ∧ M.backOK (M.above x z) n j b ∧ ∀ (j_1 : Nat), j ≤ j_1 → j_1 < n → M.ordR x y j_1 = true) : Rq41 n x y z j a b := by
  unfold Rq41
  obtain ⟨⟨hk, hR⟩, hy, hx, ho⟩ := hp
  have ha := @M.allB_iff (M.ordR x y) n
  cases j with
  | zero =>
    have h1 := M.backOK_0 hy
    have h2 := M.backOK_0 hx
    have h3 := ha.2 fun k hk => ho k (by omega) hk
    simp [h3, h1, h2]
  | succ i =>
    have e1 : ((i + 1 : Nat) : Int) - 1 = i := by omega
    have e2 : i + 1 - 1 = i := by omega
    have sy := M.backOK_step hy (by omega)
    have sx := M.backOK_step hx (by omega)
    have eo : M.ordR x y i = decide (x i ≤ y i) := rfl
    have ey : M.above y z i = decide (z < y i) := rfl
    have ex : M.above x z i = decide (z < x i) := rfl
    rw [ey] at sy
    rw [ex] at sx
    simp only [e1, e2, Int.toNat_natCast]
    unfold R64 at *
    by_cases h : x i ≤ y i
    · have hn : ∀ j, i ≤ j → j < n → M.ordR x y j = true := fun j h1 h2 => by
        by_cases e' : j = i
        · subst e'; rw [eo]; exact decide_eq_true h
        · exact ho j (by omega) h2
      have h' : ¬ y i < x i := by omega
      by_cases c1 : z < y i <;> by_cases c2 : z < x i <;> simp only [c1, c2, decide_true, decide_false, if_true, if_false, Bool.false_eq_true] at sx sy <;> simp [h', c1, c2, sx, sy] <;> (repeat' apply And.intro) <;> first | omega | exact hn
    · have h' : y i < x i := by omega
      have : M.allB (M.ordR x y) n = false := by
        rw [Bool.eq_false_iff]
        intro h2
        have := ha.1 h2 i (by omega)
        rw [eo] at this
        exact h (of_decide_eq_true this)
      simp [h', this]
      omega
theorem t41 (n : Nat) (x y : Nat → Int) (z : Int) {F : Fence} (hF : FOK F) (Y : YEnv PP YS.none) : ∀ Q A H nx, loopT false Try.f41.ntmps 0 (lp41 n x y z) (fun _ _ _ => (n, (-1 : Int), (-1 : Int))) Q A H nx → WPS Y F Try.f41.ntmps 0 (.block 0 (blkAt 0 Try.f41)) Q A H nx :=
  loopW (E := []) (.nil) (O := []) (.nil) (ck := true) (L := [0,1,4,5,6,7,8,9,14,27,34,42]) (f := Try.f41) (m := 0) (id := 0) (l := (lp41 n x y z)) (LI := fun i => []) Y hF (by kernel_rfl) (fun _ => .nil) (by
    rintro ⟨j, a, b⟩ hp
    exact Hold.of (q41 n x y z j a b) (bq41 n x y z j a b ((peq41 n x y z j a b).mp hp)))
def e41 : List SV → Option (List Prop × SV)
  | [.sl 2 n g_1, .int .i64 z] => some ([Row 2 n g_1, R64 n], .tup [SI (M.ex0 (cI g_1 0) (cI g_1 1) n (M.idx (M.above (cI g_1 1) z) n)), SI (M.ex0 (cI g_1 0) (cI g_1 1) n (M.idx (M.above (cI g_1 0) z) n)), SI (M.exE (cI g_1 0) (cI g_1 1) n)])
  | _ => none
def Rr41 (n : Nat) (x y : Nat → Int) (z : Int) : Prop := R64 ((↑n : Int) - (1 : Int)) ∧ ((n ≤ n ∧ R64 (↑n : Int)) ∧ M.backOK (M.above y z) n n (-1 : Int) ∧ M.backOK (M.above x z) n n (-1 : Int) ∧ ∀ (j : Nat), n ≤ j → j < n → M.ordR x y j = true) ∧ ((n = n ∧ ∀ (k : Nat), k < n → x k = x k ∧ y k = y k) ∧ z = z ∧ (-1 : Int) = (-1 : Int) ∧ (-1 : Int) = (-1 : Int) ∧ (↑n : Int) - (1 : Int) = (↑n : Int) - (1 : Int) ∧ True) ∧ ((!M.allB (M.ordR x y) n) = false → M.idx (M.above y z) n = M.ex0 x y n (M.idx (M.above y z) n) ∧ M.idx (M.above x z) n = M.ex0 x y n (M.idx (M.above x z) n) ∧ (0 : Int) = M.exE x y n) ∧ ((!M.allB (M.ordR x y) n) = true → (0 : Int) = M.ex0 x y n (M.idx (M.above y z) n) ∧ (0 : Int) = M.ex0 x y n (M.idx (M.above x z) n) ∧ (3 : Int) = M.exE x y n)
theorem r41 (n : Nat) (x y : Nat → Int) (z : Int) : V true [] [] Try.f41 [0,1,4,5,6,7,8,9,14,27,34,42] [(0, loopT false Try.f41.ntmps 0 (lp41 n x y z) (fun _ _ _ => (n, (-1 : Int), (-1 : Int))))] [.sl 2 n (fun k => [SI (x k), SI (y k)]), SI z] (.tup [SI (M.ex0 x y n (M.idx (M.above y z) n)), SI (M.ex0 x y n (M.idx (M.above x z) n)), SI (M.exE x y n)]) = Rr41 n x y z := by kernel_rfl
theorem br41 (n : Nat) (x y : Nat → Int) (z : Int) (hp : (R64 n) ∧ AllP []) : Rr41 n x y z := by
  unfold Rr41
  have hn := hp.1
  have h1 : R64 ((n : Int) - 1) := by unfold R64 at *; omega
  unfold M.ex0 M.exE
  cases M.allB (M.ordR x y) n <;> simp [hn, h1, M.backOK_end] <;> intro j h2 h3 <;> omega
theorem s41 : PureOK PP 41 e41 := by
  intro xs ps res h hp
  unfold e41 at h
  split at h
  · rename_i n g_1 z
    simp only [Option.some.injEq, Prod.mk.injEq] at h
    obtain ⟨rfl, rfl⟩ := h
    simp only [AllP.cons] at hp
    obtain ⟨Hg_1, hp⟩ := hp
    refine Spec.args (ys := [.sl 2 n (fun k => [SI ((cI g_1 0) k), SI ((cI g_1 1) k)]), SI z]) ?_ (.cons (.row Hg_1 fun _ => rfl) (.cons (.refl _) .nil))
    refine enter (L := [0,1,4,5,6,7,8,9,14,27,34,42]) (LO := [(0, loopT false Try.f41.ntmps 0 (lp41 n (cI g_1 0) (cI g_1 1) z) (fun _ _ _ => (n, (-1 : Int), (-1 : Int))))]) (E := []) (O := []) (ck := true) (.nil) (.nil) (k := 41) (f := Try.f41) (xs := [.sl 2 n (fun k => [SI ((cI g_1 0) k), SI ((cI g_1 1) k)]), SI z]) (r := (.tup [SI (M.ex0 (cI g_1 0) (cI g_1 1) n (M.idx (M.above (cI g_1 1) z) n)), SI (M.ex0 (cI g_1 0) (cI g_1 1) n (M.idx (M.above (cI g_1 0) z) n)), SI (M.exE (cI g_1 0) (cI g_1 1) n)])) (by kernel_rfl) (by kernel_rfl) (fun Y => .cons (by kernel_rfl) (t41 n (cI g_1 0) (cI g_1 1) z FOK.wide Y) (.nil)) ?_
    exact Hold.of (r41 n (cI g_1 0) (cI g_1 1) z) (br41 n (cI g_1 0) (cI g_1 1) z hp)
  · cases h
def e9 : List SV → Option (List Prop × SV)
  | [.sl 2 n g_1, .int .i64 z] => some ([Row 2 n g_1, R64 n], .bool true)
  | _ => none
def Rr9 (n : Nat) (x y : Nat → Int) (z : Int) : Prop := (decide ((500 : Int) < (↑n : Int)) = true → true = true) ∧ (decide ((500 : Int) < (↑n : Int)) = false → (∀ (k : Nat), k < n → x k = x k ∧ y k = y k) ∧ R64 (↑n : Int) ∧ (∀ (k : Nat), k < n → x k = x k ∧ y k = y k) ∧ R64 (↑n : Int) ∧ (decide (M.ex0 x y n (M.idx (M.above y z) n) = M.ex0 x y n (M.idx (M.above y z) n)) = true → decide (M.ex0 x y n (M.idx (M.above y z) n) = M.ex0 x y n (M.idx (M.above y z) n)) = true) ∧ (decide (M.ex0 x y n (M.idx (M.above y z) n) = M.ex0 x y n (M.idx (M.above y z) n)) = true → decide (M.ex0 x y n (M.idx (M.above y z) n) = M.ex0 x y n (M.idx (M.above y z) n)) = true) ∧ (decide (M.ex0 x y n (M.idx (M.above y z) n) = M.ex0 x y n (M.idx (M.above y z) n)) = true → decide (M.ex0 x y n (M.idx (M.above y z) n) = M.ex0 x y n (M.idx (M.above y z) n)) = true) ∧ ((bif decide (M.ex0 x y n (M.idx (M.above y z) n) = M.ex0 x y n (M.idx (M.above y z) n)) then decide (M.ex0 x y n (M.idx (M.above x z) n) = M.ex0 x y n (M.idx (M.above x z) n)) else false) = true → (bif decide (M.ex0 x y n (M.idx (M.above y z) n) = M.ex0 x y n (M.idx (M.above y z) n)) then decide (M.ex0 x y n (M.idx (M.above x z) n) = M.ex0 x y n (M.idx (M.above x z) n)) else false) = true) ∧ ((bif decide (M.ex0 x y n (M.idx (M.above y z) n) = M.ex0 x y n (M.idx (M.above y z) n)) then decide (M.ex0 x y n (M.idx (M.above x z) n) = M.ex0 x y n (M.idx (M.above x z) n)) else false) = true → (bif decide (M.ex0 x y n (M.idx (M.above y z) n) = M.ex0 x y n (M.idx (M.above y z) n)) then decide (M.ex0 x y n (M.idx (M.above x z) n) = M.ex0 x y n (M.idx (M.above x z) n)) else false) = true) ∧ ((bif decide (M.ex0 x y n (M.idx (M.above y z) n) = M.ex0 x y n (M.idx (M.above y z) n)) then decide (M.ex0 x y n (M.idx (M.above x z) n) = M.ex0 x y n (M.idx (M.above x z) n)) else false) = true → (bif decide (M.ex0 x y n (M.idx (M.above y z) n) = M.ex0 x y n (M.idx (M.above y z) n)) then decide (M.ex0 x y n (M.idx (M.above x z) n) = M.ex0 x y n (M.idx (M.above x z) n)) else false) = true) ∧ ((bif bif decide (M.ex0 x y n (M.idx (M.above y z) n) = M.ex0 x y n (M.idx (M.above y z) n)) then decide (M.ex0 x y n (M.idx (M.above x z) n) = M.ex0 x y n (M.idx (M.above x z) n)) else false then decide (M.exE x y n = M.exE x y n) else false) = true → (bif bif decide (M.ex0 x y n (M.idx (M.above y z) n) = M.ex0 x y n (M.idx (M.above y z) n)) then decide (M.ex0 x y n (M.idx (M.above x z) n) = M.ex0 x y n (M.idx (M.above x z) n)) else false then decide (M.exE x y n = M.exE x y n) else false) = true) ∧ (bif bif bif decide (M.ex0 x y n (M.idx (M.above y z) n) = M.ex0 x y n (M.idx (M.above y z) n)) then decide (M.ex0 x y n (M.idx (M.above x z) n) = M.ex0 x y n (M.idx (M.above x z) n)) else false then decide (M.exE x y n = M.exE x y n) else false then true else false) = true)
theorem r9 (n : Nat) (x y : Nat → Int) (z : Int) : V true [] [(15, pureE e15), (40, pureE e40), (41, pureE e41)] Try.f9 [0,1,4,5,6,7,8,9,10,13] [] [.sl 2 n (fun k => [SI (x k), SI (y k)]), SI z] (.bool true) = Rr9 n x y z := by kernel_rfl
theorem br9 (n : Nat) (x y : Nat → Int) (z : Int) (hp : (R64 n) ∧ AllP []) : Rr9 n x y z := by
  unfold Rr9
  have hn := hp.1
  simp [hn]
theorem s9 : PureOK PP 9 e9 := by
  intro xs ps res h hp
  unfold e9 at h
  split at h
  · rename_i n g_1 z
    simp only [Option.some.injEq, Prod.mk.injEq] at h
    obtain ⟨rfl, rfl⟩ := h
    simp only [AllP.cons] at hp
    obtain ⟨Hg_1, hp⟩ := hp
    refine Spec.args (ys := [.sl 2 n (fun k => [SI ((cI g_1 0) k), SI ((cI g_1 1) k)]), SI z]) ?_ (.cons (.row Hg_1 fun _ => rfl) (.cons (.refl _) .nil))
    refine enter (L := [0,1,4,5,6,7,8,9,10,13]) (LO := []) (E := []) (O := [(15, pureE e15), (40, pureE e40), (41, pureE e41)]) (ck := true) (.nil) (.cons (pureE_ok s15) (.cons (pureE_ok s40) (.cons (pureE_ok s41) (.nil)))) (k := 9) (f := Try.f9) (xs := [.sl 2 n (fun k => [SI ((cI g_1 0) k), SI ((cI g_1 1) k)]), SI z]) (r := (.bool true)) (by kernel_rfl) (by kernel_rfl) (fun _ => .nil) ?_
    exact Hold.of (r9 n (cI g_1 0) (cI g_1 1) z) (br9 n (cI g_1 0) (cI g_1 1) z hp)
  · cases h
end Go.Proofs.Ytkklmkogdogbkaa.Sep
