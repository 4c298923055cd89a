/-
  The bounds of a span of angles are the least and the greatest ones of its angles. Plain arithmetic. No condition. (This text proves no statement by itself.)
-/
import Derived.Test.YtpbgkohljjmbhaaKT11
import Derived.Test.YtpbgkohljjmbhaaKT16a
import Derived.Test.YtpbgkohljjmbhaaKC17

namespace Go.Proofs.Ytpbgkohljjmbhaa.M
open Go
def spLo (x : Int) : Nat → Int
  | 0 => 131072
  | k + 1 => min (spLo x k) (cLo (x + k))
def spHi (x : Int) : Nat → Int
  | 0 => -131072
  | k + 1 => max (spHi x k) (cHi (x + k))
theorem sp_ge {x lo hi : Int} : ∀ {k : Nat}, (∀ j : Nat, j < k → lo ≤ cLo (x + j) ∧ cHi (x + j) ≤ hi) → lo ≤ 131072 → -131072 ≤ hi → lo ≤ spLo x k ∧ spHi x k ≤ hi
  | 0, _, h1, h2 => ⟨h1, h2⟩
  | k + 1, h, h1, h2 => by
    have ih := sp_ge (k := k) (fun j hj => h j (by omega)) h1 h2
    have := h k (by omega)
    simp only [spLo, spHi]
    omega
theorem sp_le {x : Int} {j : Nat} : ∀ {k : Nat}, j < k → spLo x k ≤ cLo (x + j) ∧ cHi (x + j) ≤ spHi x k
  | 0, h => by omega
  | k + 1, h => by
    simp only [spLo, spHi]
    by_cases e : j = k
    · subst e; omega
    · have := sp_le (x := x) (j := j) (k := k) (by omega)
      omega
theorem bnds (lo hi : Int) : -65536 ≤ bLo lo hi ∧ bLo lo hi ≤ 65536 ∧ -65536 ≤ bHi lo hi ∧ bHi lo hi ≤ 65536 := by
  have h1 := c_bds lo; have h2 := c_bds hi
  unfold bLo bHi
  cases meets lo hi 1800 <;> cases meets lo hi 0 <;> simp <;> omega
theorem sp_eq {x n : Int} (h0 : 0 ≤ n) {N : Nat} (hN : (N : Int) = min n 3600 + 1) : spLo x N = bLo x (x + n) ∧ spHi x N = bHi x (x + n) := by
  have hb := bnds x (x + n)
  have g := sp_ge (x := x) (lo := bLo x (x + n)) (hi := bHi x (x + n)) (k := N) (fun j hj => c_in (by omega) (by omega)) (by omega) (by omega)
  have s : ∀ a : Int, ck a = 1800 → cLo a = -65536 := fun a h => by rw [cLo_eq, h]; exact CH_0.2
  have t : ∀ a : Int, ck a = 0 → cHi a = 65536 := fun a h => by rw [cHi_eq, h]; exact CH_0.1
  -- an angle of the span, but for turns
  have at' : ∀ y : Int, x ≤ y → y ≤ x + n → spLo x N ≤ cLo y ∧ cHi y ≤ spHi x N := fun y h1 h2 => by
    have e : y % 3600 = (x + ((y - x) % 3600)) % 3600 := by omega
    by_cases h : y - x ≤ 3600
    · obtain ⟨j, hj⟩ := Int.eq_ofNat_of_zero_le (show 0 ≤ y - x by omega)
      have := sp_le (x := x) (j := j) (k := N) (by omega)
      rw [show x + (j : Int) = y by omega] at this
      exact this
    · obtain ⟨j, hj⟩ := Int.eq_ofNat_of_zero_le (show 0 ≤ (y - x) % 3600 by omega)
      have := sp_le (x := x) (j := j) (k := N) (by omega)
      have e2 : ck (x + (j : Int)) = ck y := by unfold ck; omega
      rw [cLo_eq, cHi_eq, e2] at this
      exact this
  have e1 := at' x (by omega) (by omega)
  have e2 := at' (x + n) (by omega) (by omega)
  constructor
  · cases hm : meets x (x + n) 1800
    · have : bLo x (x + n) = min (cLo x) (cLo (x + n)) := by simp [bLo, hm]
      omega
    · have e : bLo x (x + n) = -65536 := by simp [bLo, hm]
      simp only [meets, decide_eq_true_eq] at hm
      have := (at' ((x + n - 1800) / 3600 * 3600 + 1800) (by omega) (by omega)).1
      rw [s _ (by unfold ck; omega)] at this
      omega
  · cases hm : meets x (x + n) 0
    · have : bHi x (x + n) = max (cHi x) (cHi (x + n)) := by simp [bHi, hm]
      omega
    · have e : bHi x (x + n) = 65536 := by simp [bHi, hm]
      simp only [meets, decide_eq_true_eq] at hm
      have := (at' ((x + n) / 3600 * 3600) (by omega) (by omega)).2
      rw [t _ (by unfold ck; omega)] at this
      omega
theorem b_ord {lo hi : Int} (h : lo ≤ hi) : bLo lo hi ≤ bHi lo hi := by
  have h1 := c_in (Int.le_refl lo) h
  have h2 := (c_ord lo).1
  omega
theorem cosE_ok {lo hi : Int} (h : lo ≤ hi) (h1 : -1099511627776 ≤ lo) (h2 : hi ≤ 1099511627776) : cosE lo hi = 0 := by
  simp only [cosE, within, Bool.and_eq_true, decide_eq_true_eq]
  rw [if_pos (by omega)]
end Go.Proofs.Ytpbgkohljjmbhaa.M
/-
  The law of spans. No condition. (This text proves no statement by itself.)
-/
namespace Go.Proofs.Ytpbgkohljjmbhaa.Sep
open Go
set_option linter.unusedVariables false
set_option linter.unusedSimpArgs false
def lp7 (x n lo hi : Int) : LoopS where
  ι := Nat
  β := Unit
  pre k := (k : Int) ≤ min n 3600 + 1 ∧ (0 ≤ n ∧ n ≤ 4000 ∧ -1073741824 ≤ x ∧ x ≤ 1073741824)
  μ k := (min n 3600 + 1).toNat - k
  next k _ _ _ := k + 1
  out _ := ()
  early _ := false
  SA k := [(2, .int .u16 lo), (3, .int .u16 hi), (9, SI x), (10, SI n), (11, .ptr 0 0), (13, .ptr 1 0), (40, SI (min n 3600 + 1)), (41, SI k)]
  SH k := [(0, .cells [SI (M.bLo x (x + n)), SI (M.bHi x (x + n))]), (1, .cells [SI (M.spLo x k), SI (M.spHi x k)])]
  n0 := 2
  NA _ := [(2, .int .u16 lo), (3, .int .u16 hi), (9, SI x), (10, SI n), (11, .ptr 0 0), (13, .ptr 1 0)]
  NH _ := [(0, .cells [SI (M.bLo x (x + n)), SI (M.bHi x (x + n))]), (1, .cells [SI (M.bLo x (x + n)), SI (M.bHi x (x + n))])]
  n1 := 2
  RA _ := []
  RH _ := []
def Rq7 (x n lo hi : Int) (k : Nat) : Prop := (decide ((↑k : Int) < min n (3600 : Int) + (1 : Int)) = true → R64 (x + (↑k : Int)) ∧ (-9000000000 : Int) ≤ x + (↑k : Int) ∧ x + (↑k : Int) ≤ (9000000000 : Int) ∧ ((!!true) = true → (!!true) = true) ∧ ((!!true) = true → (!!true) = true) ∧ ((!!true) = true → (!!true) = true) ∧ ((!true) = false → (!!true) = true) ∧ ((bif !true then true else !(decide (M.bLo x (x + n) ≤ M.cLo (x + (↑k : Int))) && decide (M.cHi (x + (↑k : Int)) ≤ M.bHi x (x + n)) && decide (M.cLo (x + (↑k : Int)) ≤ M.cHi (x + (↑k : Int))))) = true → false = true ∧ True) ∧ ((bif !true then true else !(decide (M.bLo x (x + n) ≤ M.cLo (x + (↑k : Int))) && decide (M.cHi (x + (↑k : Int)) ≤ M.bHi x (x + n)) && decide (M.cLo (x + (↑k : Int)) ≤ M.cHi (x + (↑k : Int))))) = false → R64 ((↑k : Int) + (1 : Int)) ∧ ((↑(k + (1 : Nat)) : Int) ≤ min n (3600 : Int) + (1 : Int) ∧ (0 : Int) ≤ n ∧ n ≤ (4000 : Int) ∧ (-1073741824 : Int) ≤ x ∧ x ≤ (1073741824 : Int)) ∧ Int.toNat (min n (3600 : Int) + (1 : Int)) - (k + (1 : Nat)) < Int.toNat (min n (3600 : Int) + (1 : Int)) - k ∧ () = () ∧ lo = lo ∧ hi = hi ∧ x = x ∧ n = n ∧ min n (3600 : Int) + (1 : Int) = min n (3600 : Int) + (1 : Int) ∧ (↑k : Int) + (1 : Int) = (↑(k + (1 : Nat)) : Int) ∧ M.bLo x (x + n) = M.bLo x (x + n) ∧ M.bHi x (x + n) = M.bHi x (x + n) ∧ min (M.spLo x k) (M.cLo (x + (↑k : Int))) = M.spLo x (k + (1 : Nat)) ∧ max (M.spHi x k) (M.cHi (x + (↑k : Int))) = M.spHi x (k + (1 : Nat)) ∧ True)) ∧ (decide ((↑k : Int) < min n (3600 : Int) + (1 : Int)) = false → false = false ∧ lo = lo ∧ hi = hi ∧ x = x ∧ n = n ∧ M.bLo x (x + n) = M.bLo x (x + n) ∧ M.bHi x (x + n) = M.bHi x (x + n) ∧ M.spLo x k = M.bLo x (x + n) ∧ M.spHi x k = M.bHi x (x + n) ∧ True)
theorem q7 (x n lo hi : Int) (k : Nat) : VL true [] [(29, pureE e29), (30, pureE e30), (34, pureE e34)] YS.none Try.f7 0 [0,1,2,3,8,9,10,11,12,13,14,15,16,17,18,19,36,40,41,42,58] [] 0 (lp7 x n lo hi) (k) = Rq7 x n lo hi k := by kernel_rfl
theorem peq7 (x n lo hi : Int) (k : Nat) : (lp7 x n lo hi).pre (k) = ((↑k : Int) ≤ min n (3600 : Int) + (1 : Int) ∧ (0 : Int) ≤ n ∧ n ≤ (4000 : Int) ∧ (-1073741824 : Int) ≤ x ∧ x ≤ (1073741824 : Int)) := by kernel_rfl
theorem bq7 (x n lo hi : Int) (k : Nat) (hp : (↑k : Int) ≤ min n (3600 : Int) + (1 : Int) ∧ (0 : Int) ≤ n ∧ n ≤ (4000 : Int) ∧ (-1073741824 : Int) ≤ x ∧ x ≤ (1073741824 : Int)) : Rq7 x n lo hi k := by
  unfold Rq7
  obtain ⟨hk, n1, n2, x1, x2⟩ := hp
  refine ⟨fun hlt => ?_, fun hlt => ?_⟩
  · simp only [decide_eq_true_eq] at hlt
    obtain ⟨c1, c2⟩ := M.c_in (lo := x) (hi := x + n) (a := x + k) (by omega) (by omega)
    obtain ⟨c3, -⟩ := M.c_ord (x + k)
    have hr : R64 (x + k) ∧ R64 ((k : Int) + 1) := by unfold R64; omega
    simp [c1, c2, c3, hr, M.spLo, M.spHi]
    omega
  · simp only [decide_eq_false_iff_not] at hlt
    obtain ⟨e1, e2⟩ := M.sp_eq (x := x) (n := n) (N := k) n1 (by omega)
    simp [e1, e2]
theorem t7 (x n lo hi : Int) {F : Fence} (hF : FOK F) (Y : YEnv PP YS.none) : ∀ Q A H nx, loopT false Try.f7.ntmps 0 (lp7 x n lo hi) (fun _ _ _ => (0 : Nat)) Q A H nx → WPS Y F Try.f7.ntmps 0 (.block 0 (blkAt 0 Try.f7)) Q A H nx :=
  loopW (E := []) (.nil) (O := [(29, pureE e29), (30, pureE e30), (34, pureE e34)]) (.cons (pureE_ok s29) (.cons (pureE_ok s30) (.cons (pureE_ok s34) (.nil)))) (ck := true) (L := [0,1,2,3,8,9,10,11,12,13,14,15,16,17,18,19,36,40,41,42,58]) (f := Try.f7) (m := 0) (id := 0) (l := (lp7 x n lo hi)) (LI := fun i => []) Y hF (by kernel_rfl) (fun _ => .nil) (by
    rintro k hp
    exact Hold.of (q7 x n lo hi k) (bq7 x n lo hi k ((peq7 x n lo hi k).mp hp)))
def e7 : List SV → Option (List Prop × SV)
  | [.int .i32 a, .int .u16 b, .int .u16 c, .int .u16 d] => some ([-2147483648 ≤ a, a ≤ 2147483647, 0 ≤ b, b ≤ 65535, 0 ≤ c, c ≤ 65535, 0 ≤ d, d ≤ 65535], .bool true)
  | _ => none
def Rr7 (a b c d : Int) : Prop := R64 a ∧ (1073741824 : Int) ≠ (0 : Int) ∧ R64 b ∧ (4001 : Int) ≠ (0 : Int) ∧ R64 (Int.tmod a (1073741824 : Int) + Int.tmod b (4001 : Int)) ∧ ((!decide (M.cosE (Int.tmod a (1073741824 : Int)) (Int.tmod a (1073741824 : Int) + Int.tmod b (4001 : Int)) = (0 : Int))) = true → false = true) ∧ ((!decide (M.cosE (Int.tmod a (1073741824 : Int)) (Int.tmod a (1073741824 : Int) + Int.tmod b (4001 : Int)) = (0 : Int))) = false → R64 (min (Int.tmod b (4001 : Int)) (3600 : Int) + (1 : Int)) ∧ ((↑(0 : Nat) : Int) ≤ min (Int.tmod b (4001 : Int)) (3600 : Int) + (1 : Int) ∧ (0 : Int) ≤ Int.tmod b (4001 : Int) ∧ Int.tmod b (4001 : Int) ≤ (4000 : Int) ∧ (-1073741824 : Int) ≤ Int.tmod a (1073741824 : Int) ∧ Int.tmod a (1073741824 : Int) ≤ (1073741824 : Int)) ∧ (c = c ∧ d = d ∧ Int.tmod a (1073741824 : Int) = Int.tmod a (1073741824 : Int) ∧ Int.tmod b (4001 : Int) = Int.tmod b (4001 : Int) ∧ min (Int.tmod b (4001 : Int)) (3600 : Int) + (1 : Int) = min (Int.tmod b (4001 : Int)) (3600 : Int) + (1 : Int) ∧ (0 : Int) = (↑(0 : Nat) : Int) ∧ (if M.cosE (Int.tmod a (1073741824 : Int)) (Int.tmod a (1073741824 : Int) + Int.tmod b (4001 : Int)) = (0 : Int) then M.bLo (Int.tmod a (1073741824 : Int)) (Int.tmod a (1073741824 : Int) + Int.tmod b (4001 : Int)) else (0 : Int)) = M.bLo (Int.tmod a (1073741824 : Int)) (Int.tmod a (1073741824 : Int) + Int.tmod b (4001 : Int)) ∧ (if M.cosE (Int.tmod a (1073741824 : Int)) (Int.tmod a (1073741824 : Int) + Int.tmod b (4001 : Int)) = (0 : Int) then M.bHi (Int.tmod a (1073741824 : Int)) (Int.tmod a (1073741824 : Int) + Int.tmod b (4001 : Int)) else (0 : Int)) = M.bHi (Int.tmod a (1073741824 : Int)) (Int.tmod a (1073741824 : Int) + Int.tmod b (4001 : Int)) ∧ (131072 : Int) = M.spLo (Int.tmod a (1073741824 : Int)) (0 : Nat) ∧ (-131072 : Int) = M.spHi (Int.tmod a (1073741824 : Int)) (0 : Nat) ∧ True) ∧ (false = false → R64 c ∧ R64 (Int.tmod b (4001 : Int) + (1 : Int)) ∧ Int.tmod b (4001 : Int) + (1 : Int) ≠ (0 : Int) ∧ R64 d ∧ R64 (Int.tmod b (4001 : Int) - Int.tmod c (Int.tmod b (4001 : Int) + (1 : Int))) ∧ R64 (Int.tmod b (4001 : Int) - Int.tmod c (Int.tmod b (4001 : Int) + (1 : Int)) + (1 : Int)) ∧ Int.tmod b (4001 : Int) - Int.tmod c (Int.tmod b (4001 : Int) + (1 : Int)) + (1 : Int) ≠ (0 : Int) ∧ R64 (Int.tmod c (Int.tmod b (4001 : Int) + (1 : Int)) + Int.tmod d (Int.tmod b (4001 : Int) - Int.tmod c (Int.tmod b (4001 : Int) + (1 : Int)) + (1 : Int))) ∧ R64 (Int.tmod a (1073741824 : Int) + Int.tmod c (Int.tmod b (4001 : Int) + (1 : Int))) ∧ R64 (Int.tmod a (1073741824 : Int) + (Int.tmod c (Int.tmod b (4001 : Int) + (1 : Int)) + Int.tmod d (Int.tmod b (4001 : Int) - Int.tmod c (Int.tmod b (4001 : Int) + (1 : Int)) + (1 : Int)))) ∧ (decide (M.cosE (Int.tmod a (1073741824 : Int) + Int.tmod c (Int.tmod b (4001 : Int) + (1 : Int))) (Int.tmod a (1073741824 : Int) + (Int.tmod c (Int.tmod b (4001 : Int) + (1 : Int)) + Int.tmod d (Int.tmod b (4001 : Int) - Int.tmod c (Int.tmod b (4001 : Int) + (1 : Int)) + (1 : Int)))) = (0 : Int)) = true → decide (M.cosE (Int.tmod a (1073741824 : Int) + Int.tmod c (Int.tmod b (4001 : Int) + (1 : Int))) (Int.tmod a (1073741824 : Int) + (Int.tmod c (Int.tmod b (4001 : Int) + (1 : Int)) + Int.tmod d (Int.tmod b (4001 : Int) - Int.tmod c (Int.tmod b (4001 : Int) + (1 : Int)) + (1 : Int)))) = (0 : Int)) = true) ∧ (decide (M.cosE (Int.tmod a (1073741824 : Int) + Int.tmod c (Int.tmod b (4001 : Int) + (1 : Int))) (Int.tmod a (1073741824 : Int) + (Int.tmod c (Int.tmod b (4001 : Int) + (1 : Int)) + Int.tmod d (Int.tmod b (4001 : Int) - Int.tmod c (Int.tmod b (4001 : Int) + (1 : Int)) + (1 : Int)))) = (0 : Int)) = true → decide (M.cosE (Int.tmod a (1073741824 : Int) + Int.tmod c (Int.tmod b (4001 : Int) + (1 : Int))) (Int.tmod a (1073741824 : Int) + (Int.tmod c (Int.tmod b (4001 : Int) + (1 : Int)) + Int.tmod d (Int.tmod b (4001 : Int) - Int.tmod c (Int.tmod b (4001 : Int) + (1 : Int)) + (1 : Int)))) = (0 : Int)) = true) ∧ (decide (M.cosE (Int.tmod a (1073741824 : Int) + Int.tmod c (Int.tmod b (4001 : Int) + (1 : Int))) (Int.tmod a (1073741824 : Int) + (Int.tmod c (Int.tmod b (4001 : Int) + (1 : Int)) + Int.tmod d (Int.tmod b (4001 : Int) - Int.tmod c (Int.tmod b (4001 : Int) + (1 : Int)) + (1 : Int)))) = (0 : Int)) = true → decide (M.cosE (Int.tmod a (1073741824 : Int) + Int.tmod c (Int.tmod b (4001 : Int) + (1 : Int))) (Int.tmod a (1073741824 : Int) + (Int.tmod c (Int.tmod b (4001 : Int) + (1 : Int)) + Int.tmod d (Int.tmod b (4001 : Int) - Int.tmod c (Int.tmod b (4001 : Int) + (1 : Int)) + (1 : Int)))) = (0 : Int)) = true) ∧ ((bif decide (M.cosE (Int.tmod a (1073741824 : Int) + Int.tmod c (Int.tmod b (4001 : Int) + (1 : Int))) (Int.tmod a (1073741824 : Int) + (Int.tmod c (Int.tmod b (4001 : Int) + (1 : Int)) + Int.tmod d (Int.tmod b (4001 : Int) - Int.tmod c (Int.tmod b (4001 : Int) + (1 : Int)) + (1 : Int)))) = (0 : Int)) then decide (M.bLo (Int.tmod a (1073741824 : Int)) (Int.tmod a (1073741824 : Int) + Int.tmod b (4001 : Int)) = M.bLo (Int.tmod a (1073741824 : Int)) (Int.tmod a (1073741824 : Int) + Int.tmod b (4001 : Int))) && (decide (M.bHi (Int.tmod a (1073741824 : Int)) (Int.tmod a (1073741824 : Int) + Int.tmod b (4001 : Int)) = M.bHi (Int.tmod a (1073741824 : Int)) (Int.tmod a (1073741824 : Int) + Int.tmod b (4001 : Int))) && true) else false) = true → (bif decide (M.cosE (Int.tmod a (1073741824 : Int) + Int.tmod c (Int.tmod b (4001 : Int) + (1 : Int))) (Int.tmod a (1073741824 : Int) + (Int.tmod c (Int.tmod b (4001 : Int) + (1 : Int)) + Int.tmod d (Int.tmod b (4001 : Int) - Int.tmod c (Int.tmod b (4001 : Int) + (1 : Int)) + (1 : Int)))) = (0 : Int)) then decide (M.bLo (Int.tmod a (1073741824 : Int)) (Int.tmod a (1073741824 : Int) + Int.tmod b (4001 : Int)) = M.bLo (Int.tmod a (1073741824 : Int)) (Int.tmod a (1073741824 : Int) + Int.tmod b (4001 : Int))) && (decide (M.bHi (Int.tmod a (1073741824 : Int)) (Int.tmod a (1073741824 : Int) + Int.tmod b (4001 : Int)) = M.bHi (Int.tmod a (1073741824 : Int)) (Int.tmod a (1073741824 : Int) + Int.tmod b (4001 : Int))) && true) else false) = true) ∧ ((bif decide (M.cosE (Int.tmod a (1073741824 : Int) + Int.tmod c (Int.tmod b (4001 : Int) + (1 : Int))) (Int.tmod a (1073741824 : Int) + (Int.tmod c (Int.tmod b (4001 : Int) + (1 : Int)) + Int.tmod d (Int.tmod b (4001 : Int) - Int.tmod c (Int.tmod b (4001 : Int) + (1 : Int)) + (1 : Int)))) = (0 : Int)) then decide (M.bLo (Int.tmod a (1073741824 : Int)) (Int.tmod a (1073741824 : Int) + Int.tmod b (4001 : Int)) = M.bLo (Int.tmod a (1073741824 : Int)) (Int.tmod a (1073741824 : Int) + Int.tmod b (4001 : Int))) && (decide (M.bHi (Int.tmod a (1073741824 : Int)) (Int.tmod a (1073741824 : Int) + Int.tmod b (4001 : Int)) = M.bHi (Int.tmod a (1073741824 : Int)) (Int.tmod a (1073741824 : Int) + Int.tmod b (4001 : Int))) && true) else false) = true → (bif decide (M.cosE (Int.tmod a (1073741824 : Int) + Int.tmod c (Int.tmod b (4001 : Int) + (1 : Int))) (Int.tmod a (1073741824 : Int) + (Int.tmod c (Int.tmod b (4001 : Int) + (1 : Int)) + Int.tmod d (Int.tmod b (4001 : Int) - Int.tmod c (Int.tmod b (4001 : Int) + (1 : Int)) + (1 : Int)))) = (0 : Int)) then decide (M.bLo (Int.tmod a (1073741824 : Int)) (Int.tmod a (1073741824 : Int) + Int.tmod b (4001 : Int)) = M.bLo (Int.tmod a (1073741824 : Int)) (Int.tmod a (1073741824 : Int) + Int.tmod b (4001 : Int))) && (decide (M.bHi (Int.tmod a (1073741824 : Int)) (Int.tmod a (1073741824 : Int) + Int.tmod b (4001 : Int)) = M.bHi (Int.tmod a (1073741824 : Int)) (Int.tmod a (1073741824 : Int) + Int.tmod b (4001 : Int))) && true) else false) = true) ∧ ((bif decide (M.cosE (Int.tmod a (1073741824 : Int) + Int.tmod c (Int.tmod b (4001 : Int) + (1 : Int))) (Int.tmod a (1073741824 : Int) + (Int.tmod c (Int.tmod b (4001 : Int) + (1 : Int)) + Int.tmod d (Int.tmod b (4001 : Int) - Int.tmod c (Int.tmod b (4001 : Int) + (1 : Int)) + (1 : Int)))) = (0 : Int)) then decide (M.bLo (Int.tmod a (1073741824 : Int)) (Int.tmod a (1073741824 : Int) + Int.tmod b (4001 : Int)) = M.bLo (Int.tmod a (1073741824 : Int)) (Int.tmod a (1073741824 : Int) + Int.tmod b (4001 : Int))) && (decide (M.bHi (Int.tmod a (1073741824 : Int)) (Int.tmod a (1073741824 : Int) + Int.tmod b (4001 : Int)) = M.bHi (Int.tmod a (1073741824 : Int)) (Int.tmod a (1073741824 : Int) + Int.tmod b (4001 : Int))) && true) else false) = true → (bif decide (M.cosE (Int.tmod a (1073741824 : Int) + Int.tmod c (Int.tmod b (4001 : Int) + (1 : Int))) (Int.tmod a (1073741824 : Int) + (Int.tmod c (Int.tmod b (4001 : Int) + (1 : Int)) + Int.tmod d (Int.tmod b (4001 : Int) - Int.tmod c (Int.tmod b (4001 : Int) + (1 : Int)) + (1 : Int)))) = (0 : Int)) then decide (M.bLo (Int.tmod a (1073741824 : Int)) (Int.tmod a (1073741824 : Int) + Int.tmod b (4001 : Int)) = M.bLo (Int.tmod a (1073741824 : Int)) (Int.tmod a (1073741824 : Int) + Int.tmod b (4001 : Int))) && (decide (M.bHi (Int.tmod a (1073741824 : Int)) (Int.tmod a (1073741824 : Int) + Int.tmod b (4001 : Int)) = M.bHi (Int.tmod a (1073741824 : Int)) (Int.tmod a (1073741824 : Int) + Int.tmod b (4001 : Int))) && true) else false) = true) ∧ ((bif bif decide (M.cosE (Int.tmod a (1073741824 : Int) + Int.tmod c (Int.tmod b (4001 : Int) + (1 : Int))) (Int.tmod a (1073741824 : Int) + (Int.tmod c (Int.tmod b (4001 : Int) + (1 : Int)) + Int.tmod d (Int.tmod b (4001 : Int) - Int.tmod c (Int.tmod b (4001 : Int) + (1 : Int)) + (1 : Int)))) = (0 : Int)) then decide (M.bLo (Int.tmod a (1073741824 : Int)) (Int.tmod a (1073741824 : Int) + Int.tmod b (4001 : Int)) = M.bLo (Int.tmod a (1073741824 : Int)) (Int.tmod a (1073741824 : Int) + Int.tmod b (4001 : Int))) && (decide (M.bHi (Int.tmod a (1073741824 : Int)) (Int.tmod a (1073741824 : Int) + Int.tmod b (4001 : Int)) = M.bHi (Int.tmod a (1073741824 : Int)) (Int.tmod a (1073741824 : Int) + Int.tmod b (4001 : Int))) && true) else false then decide (M.bLo (Int.tmod a (1073741824 : Int)) (Int.tmod a (1073741824 : Int) + Int.tmod b (4001 : Int)) ≤ if M.cosE (Int.tmod a (1073741824 : Int) + Int.tmod c (Int.tmod b (4001 : Int) + (1 : Int))) (Int.tmod a (1073741824 : Int) + (Int.tmod c (Int.tmod b (4001 : Int) + (1 : Int)) + Int.tmod d (Int.tmod b (4001 : Int) - Int.tmod c (Int.tmod b (4001 : Int) + (1 : Int)) + (1 : Int)))) = (0 : Int) then M.bLo (Int.tmod a (1073741824 : Int) + Int.tmod c (Int.tmod b (4001 : Int) + (1 : Int))) (Int.tmod a (1073741824 : Int) + (Int.tmod c (Int.tmod b (4001 : Int) + (1 : Int)) + Int.tmod d (Int.tmod b (4001 : Int) - Int.tmod c (Int.tmod b (4001 : Int) + (1 : Int)) + (1 : Int)))) else (0 : Int)) && decide ((if M.cosE (Int.tmod a (1073741824 : Int) + Int.tmod c (Int.tmod b (4001 : Int) + (1 : Int))) (Int.tmod a (1073741824 : Int) + (Int.tmod c (Int.tmod b (4001 : Int) + (1 : Int)) + Int.tmod d (Int.tmod b (4001 : Int) - Int.tmod c (Int.tmod b (4001 : Int) + (1 : Int)) + (1 : Int)))) = (0 : Int) then M.bHi (Int.tmod a (1073741824 : Int) + Int.tmod c (Int.tmod b (4001 : Int) + (1 : Int))) (Int.tmod a (1073741824 : Int) + (Int.tmod c (Int.tmod b (4001 : Int) + (1 : Int)) + Int.tmod d (Int.tmod b (4001 : Int) - Int.tmod c (Int.tmod b (4001 : Int) + (1 : Int)) + (1 : Int)))) else (0 : Int)) ≤ M.bHi (Int.tmod a (1073741824 : Int)) (Int.tmod a (1073741824 : Int) + Int.tmod b (4001 : Int))) && decide ((if M.cosE (Int.tmod a (1073741824 : Int) + Int.tmod c (Int.tmod b (4001 : Int) + (1 : Int))) (Int.tmod a (1073741824 : Int) + (Int.tmod c (Int.tmod b (4001 : Int) + (1 : Int)) + Int.tmod d (Int.tmod b (4001 : Int) - Int.tmod c (Int.tmod b (4001 : Int) + (1 : Int)) + (1 : Int)))) = (0 : Int) then M.bLo (Int.tmod a (1073741824 : Int) + Int.tmod c (Int.tmod b (4001 : Int) + (1 : Int))) (Int.tmod a (1073741824 : Int) + (Int.tmod c (Int.tmod b (4001 : Int) + (1 : Int)) + Int.tmod d (Int.tmod b (4001 : Int) - Int.tmod c (Int.tmod b (4001 : Int) + (1 : Int)) + (1 : Int)))) else (0 : Int)) ≤ if M.cosE (Int.tmod a (1073741824 : Int) + Int.tmod c (Int.tmod b (4001 : Int) + (1 : Int))) (Int.tmod a (1073741824 : Int) + (Int.tmod c (Int.tmod b (4001 : Int) + (1 : Int)) + Int.tmod d (Int.tmod b (4001 : Int) - Int.tmod c (Int.tmod b (4001 : Int) + (1 : Int)) + (1 : Int)))) = (0 : Int) then M.bHi (Int.tmod a (1073741824 : Int) + Int.tmod c (Int.tmod b (4001 : Int) + (1 : Int))) (Int.tmod a (1073741824 : Int) + (Int.tmod c (Int.tmod b (4001 : Int) + (1 : Int)) + Int.tmod d (Int.tmod b (4001 : Int) - Int.tmod c (Int.tmod b (4001 : Int) + (1 : Int)) + (1 : Int)))) else (0 : Int)) else false) = true → (bif bif decide (M.cosE (Int.tmod a (1073741824 : Int) + Int.tmod c (Int.tmod b (4001 : Int) + (1 : Int))) (Int.tmod a (1073741824 : Int) + (Int.tmod c (Int.tmod b (4001 : Int) + (1 : Int)) + Int.tmod d (Int.tmod b (4001 : Int) - Int.tmod c (Int.tmod b (4001 : Int) + (1 : Int)) + (1 : Int)))) = (0 : Int)) then decide (M.bLo (Int.tmod a (1073741824 : Int)) (Int.tmod a (1073741824 : Int) + Int.tmod b (4001 : Int)) = M.bLo (Int.tmod a (1073741824 : Int)) (Int.tmod a (1073741824 : Int) + Int.tmod b (4001 : Int))) && (decide (M.bHi (Int.tmod a (1073741824 : Int)) (Int.tmod a (1073741824 : Int) + Int.tmod b (4001 : Int)) = M.bHi (Int.tmod a (1073741824 : Int)) (Int.tmod a (1073741824 : Int) + Int.tmod b (4001 : Int))) && true) else false then decide (M.bLo (Int.tmod a (1073741824 : Int)) (Int.tmod a (1073741824 : Int) + Int.tmod b (4001 : Int)) ≤ if M.cosE (Int.tmod a (1073741824 : Int) + Int.tmod c (Int.tmod b (4001 : Int) + (1 : Int))) (Int.tmod a (1073741824 : Int) + (Int.tmod c (Int.tmod b (4001 : Int) + (1 : Int)) + Int.tmod d (Int.tmod b (4001 : Int) - Int.tmod c (Int.tmod b (4001 : Int) + (1 : Int)) + (1 : Int)))) = (0 : Int) then M.bLo (Int.tmod a (1073741824 : Int) + Int.tmod c (Int.tmod b (4001 : Int) + (1 : Int))) (Int.tmod a (1073741824 : Int) + (Int.tmod c (Int.tmod b (4001 : Int) + (1 : Int)) + Int.tmod d (Int.tmod b (4001 : Int) - Int.tmod c (Int.tmod b (4001 : Int) + (1 : Int)) + (1 : Int)))) else (0 : Int)) && decide ((if M.cosE (Int.tmod a (1073741824 : Int) + Int.tmod c (Int.tmod b (4001 : Int) + (1 : Int))) (Int.tmod a (1073741824 : Int) + (Int.tmod c (Int.tmod b (4001 : Int) + (1 : Int)) + Int.tmod d (Int.tmod b (4001 : Int) - Int.tmod c (Int.tmod b (4001 : Int) + (1 : Int)) + (1 : Int)))) = (0 : Int) then M.bHi (Int.tmod a (1073741824 : Int) + Int.tmod c (Int.tmod b (4001 : Int) + (1 : Int))) (Int.tmod a (1073741824 : Int) + (Int.tmod c (Int.tmod b (4001 : Int) + (1 : Int)) + Int.tmod d (Int.tmod b (4001 : Int) - Int.tmod c (Int.tmod b (4001 : Int) + (1 : Int)) + (1 : Int)))) else (0 : Int)) ≤ M.bHi (Int.tmod a (1073741824 : Int)) (Int.tmod a (1073741824 : Int) + Int.tmod b (4001 : Int))) && decide ((if M.cosE (Int.tmod a (1073741824 : Int) + Int.tmod c (Int.tmod b (4001 : Int) + (1 : Int))) (Int.tmod a (1073741824 : Int) + (Int.tmod c (Int.tmod b (4001 : Int) + (1 : Int)) + Int.tmod d (Int.tmod b (4001 : Int) - Int.tmod c (Int.tmod b (4001 : Int) + (1 : Int)) + (1 : Int)))) = (0 : Int) then M.bLo (Int.tmod a (1073741824 : Int) + Int.tmod c (Int.tmod b (4001 : Int) + (1 : Int))) (Int.tmod a (1073741824 : Int) + (Int.tmod c (Int.tmod b (4001 : Int) + (1 : Int)) + Int.tmod d (Int.tmod b (4001 : Int) - Int.tmod c (Int.tmod b (4001 : Int) + (1 : Int)) + (1 : Int)))) else (0 : Int)) ≤ if M.cosE (Int.tmod a (1073741824 : Int) + Int.tmod c (Int.tmod b (4001 : Int) + (1 : Int))) (Int.tmod a (1073741824 : Int) + (Int.tmod c (Int.tmod b (4001 : Int) + (1 : Int)) + Int.tmod d (Int.tmod b (4001 : Int) - Int.tmod c (Int.tmod b (4001 : Int) + (1 : Int)) + (1 : Int)))) = (0 : Int) then M.bHi (Int.tmod a (1073741824 : Int) + Int.tmod c (Int.tmod b (4001 : Int) + (1 : Int))) (Int.tmod a (1073741824 : Int) + (Int.tmod c (Int.tmod b (4001 : Int) + (1 : Int)) + Int.tmod d (Int.tmod b (4001 : Int) - Int.tmod c (Int.tmod b (4001 : Int) + (1 : Int)) + (1 : Int)))) else (0 : Int)) else false) = true) ∧ (bif bif bif decide (M.cosE (Int.tmod a (1073741824 : Int) + Int.tmod c (Int.tmod b (4001 : Int) + (1 : Int))) (Int.tmod a (1073741824 : Int) + (Int.tmod c (Int.tmod b (4001 : Int) + (1 : Int)) + Int.tmod d (Int.tmod b (4001 : Int) - Int.tmod c (Int.tmod b (4001 : Int) + (1 : Int)) + (1 : Int)))) = (0 : Int)) then decide (M.bLo (Int.tmod a (1073741824 : Int)) (Int.tmod a (1073741824 : Int) + Int.tmod b (4001 : Int)) = M.bLo (Int.tmod a (1073741824 : Int)) (Int.tmod a (1073741824 : Int) + Int.tmod b (4001 : Int))) && (decide (M.bHi (Int.tmod a (1073741824 : Int)) (Int.tmod a (1073741824 : Int) + Int.tmod b (4001 : Int)) = M.bHi (Int.tmod a (1073741824 : Int)) (Int.tmod a (1073741824 : Int) + Int.tmod b (4001 : Int))) && true) else false then decide (M.bLo (Int.tmod a (1073741824 : Int)) (Int.tmod a (1073741824 : Int) + Int.tmod b (4001 : Int)) ≤ if M.cosE (Int.tmod a (1073741824 : Int) + Int.tmod c (Int.tmod b (4001 : Int) + (1 : Int))) (Int.tmod a (1073741824 : Int) + (Int.tmod c (Int.tmod b (4001 : Int) + (1 : Int)) + Int.tmod d (Int.tmod b (4001 : Int) - Int.tmod c (Int.tmod b (4001 : Int) + (1 : Int)) + (1 : Int)))) = (0 : Int) then M.bLo (Int.tmod a (1073741824 : Int) + Int.tmod c (Int.tmod b (4001 : Int) + (1 : Int))) (Int.tmod a (1073741824 : Int) + (Int.tmod c (Int.tmod b (4001 : Int) + (1 : Int)) + Int.tmod d (Int.tmod b (4001 : Int) - Int.tmod c (Int.tmod b (4001 : Int) + (1 : Int)) + (1 : Int)))) else (0 : Int)) && decide ((if M.cosE (Int.tmod a (1073741824 : Int) + Int.tmod c (Int.tmod b (4001 : Int) + (1 : Int))) (Int.tmod a (1073741824 : Int) + (Int.tmod c (Int.tmod b (4001 : Int) + (1 : Int)) + Int.tmod d (Int.tmod b (4001 : Int) - Int.tmod c (Int.tmod b (4001 : Int) + (1 : Int)) + (1 : Int)))) = (0 : Int) then M.bHi (Int.tmod a (1073741824 : Int) + Int.tmod c (Int.tmod b (4001 : Int) + (1 : Int))) (Int.tmod a (1073741824 : Int) + (Int.tmod c (Int.tmod b (4001 : Int) + (1 : Int)) + Int.tmod d (Int.tmod b (4001 : Int) - Int.tmod c (Int.tmod b (4001 : Int) + (1 : Int)) + (1 : Int)))) else (0 : Int)) ≤ M.bHi (Int.tmod a (1073741824 : Int)) (Int.tmod a (1073741824 : Int) + Int.tmod b (4001 : Int))) && decide ((if M.cosE (Int.tmod a (1073741824 : Int) + Int.tmod c (Int.tmod b (4001 : Int) + (1 : Int))) (Int.tmod a (1073741824 : Int) + (Int.tmod c (Int.tmod b (4001 : Int) + (1 : Int)) + Int.tmod d (Int.tmod b (4001 : Int) - Int.tmod c (Int.tmod b (4001 : Int) + (1 : Int)) + (1 : Int)))) = (0 : Int) then M.bLo (Int.tmod a (1073741824 : Int) + Int.tmod c (Int.tmod b (4001 : Int) + (1 : Int))) (Int.tmod a (1073741824 : Int) + (Int.tmod c (Int.tmod b (4001 : Int) + (1 : Int)) + Int.tmod d (Int.tmod b (4001 : Int) - Int.tmod c (Int.tmod b (4001 : Int) + (1 : Int)) + (1 : Int)))) else (0 : Int)) ≤ if M.cosE (Int.tmod a (1073741824 : Int) + Int.tmod c (Int.tmod b (4001 : Int) + (1 : Int))) (Int.tmod a (1073741824 : Int) + (Int.tmod c (Int.tmod b (4001 : Int) + (1 : Int)) + Int.tmod d (Int.tmod b (4001 : Int) - Int.tmod c (Int.tmod b (4001 : Int) + (1 : Int)) + (1 : Int)))) = (0 : Int) then M.bHi (Int.tmod a (1073741824 : Int) + Int.tmod c (Int.tmod b (4001 : Int) + (1 : Int))) (Int.tmod a (1073741824 : Int) + (Int.tmod c (Int.tmod b (4001 : Int) + (1 : Int)) + Int.tmod d (Int.tmod b (4001 : Int) - Int.tmod c (Int.tmod b (4001 : Int) + (1 : Int)) + (1 : Int)))) else (0 : Int)) else false then true else false) = true) ∧ (false = true → False))
theorem r7 (a b c d : Int) : V true eqs [(30, pureE e30), (11, pureE e11), (29, pureE e29), (34, pureE e34), (13, pureE e13)] Try.f7 [0,1,2,3,8,9,10,11,12,13,14,15,16,17,18,19,36,40,41,42,58] [(0, loopT false Try.f7.ntmps 0 (lp7 (Int.tmod a 1073741824) (Int.tmod b 4001) c d) (fun _ _ _ => (0 : Nat)))] [.int .i32 a, .int .u16 b, .int .u16 c, .int .u16 d] (.bool true) = Rr7 a b c d := by kernel_rfl
theorem br7 (a b c d : Int) (hp : (-2147483648 ≤ a) ∧ (a ≤ 2147483647) ∧ (0 ≤ b) ∧ (b ≤ 65535) ∧ (0 ≤ c) ∧ (c ≤ 65535) ∧ (0 ≤ d) ∧ (d ≤ 65535) ∧ AllP []) : Rr7 a b c d := by
  unfold Rr7
  obtain ⟨a1, a2, b1, b2, c1, c2, d1, d2, -⟩ := hp
  have hR : ∀ z : Int, -4000000000000 ≤ z → z ≤ 4000000000000 → R64 z := fun z h1 h2 => by unfold R64; omega
  have ra := hR a (by omega) (by omega)
  have rb := hR b (by omega) (by omega)
  have rc := hR c (by omega) (by omega)
  have rd := hR d (by omega) (by omega)
  have x1 : a.tmod 1073741824 < 1073741824 := Int.tmod_lt_of_pos a (by omega)
  have x2 : -1073741824 < a.tmod 1073741824 := Int.lt_tmod_of_pos a (by omega)
  obtain ⟨n1, n2⟩ := M.tmod_in b1 (show (0 : Int) < 4001 by omega)
  obtain ⟨i1, i2⟩ := M.tmod_in (b := Int.tmod b 4001 + 1) c1 (by omega)
  obtain ⟨j1, j2⟩ := M.tmod_in (b := Int.tmod b 4001 - Int.tmod c (Int.tmod b 4001 + 1) + 1) d1 (by omega)
  generalize Int.tmod a 1073741824 = x at *
  generalize Int.tmod b 4001 = n at *
  generalize Int.tmod c (n + 1) = i at *
  generalize Int.tmod d (n - i + 1) = j at *
  obtain ⟨m1, m2⟩ := M.b_mono (lo := x) (hi := x + n) (a := x + i) (b := x + (i + j)) (by omega) (by omega) (by omega)
  have m3 := M.b_ord (lo := x + i) (hi := x + (i + j)) (by omega)
  have e1 := M.cosE_ok (lo := x) (hi := x + n) (by omega) (by omega) (by omega)
  have e2 := M.cosE_ok (lo := x + i) (hi := x + (i + j)) (by omega) (by omega) (by omega)
  have hd : n - i + 1 ≠ 0 := by omega
  have hd2 : n + 1 ≠ 0 := by omega
  simp only [ra, rb, rc, rd, e1, e2, if_true]
  simp [m1, m2, m3, hd, hd2, M.spLo, M.spHi]
  unfold R64
  omega
theorem s7 : PureOK PP 7 e7 := by
  intro xs ps res h hp
  unfold e7 at h
  split at h
  · rename_i a b c d
    simp only [Option.some.injEq, Prod.mk.injEq] at h
    obtain ⟨rfl, rfl⟩ := h
    simp only [AllP.cons] at hp
    refine enter (L := [0,1,2,3,8,9,10,11,12,13,14,15,16,17,18,19,36,40,41,42,58]) (LO := [(0, loopT false Try.f7.ntmps 0 (lp7 (Int.tmod a 1073741824) (Int.tmod b 4001) c d) (fun _ _ _ => (0 : Nat)))]) (E := eqs) (O := [(30, pureE e30), (11, pureE e11), (29, pureE e29), (34, pureE e34), (13, pureE e13)]) (ck := true) (eqsok) (.cons (pureE_ok s30) (.cons (pureE_ok s11) (.cons (pureE_ok s29) (.cons (pureE_ok s34) (.cons (pureE_ok s13) (.nil)))))) (k := 7) (f := Try.f7) (xs := [.int .i32 a, .int .u16 b, .int .u16 c, .int .u16 d]) (r := (.bool true)) (by kernel_rfl) (by kernel_rfl) (fun Y => .cons (by kernel_rfl) (t7 (Int.tmod a 1073741824) (Int.tmod b 4001) c d FOK.wide Y) (.nil)) ?_
    exact Hold.of (r7 a b c d) (br7 a b c d hp)
  · cases h
end Go.Proofs.Ytpbgkohljjmbhaa.Sep
