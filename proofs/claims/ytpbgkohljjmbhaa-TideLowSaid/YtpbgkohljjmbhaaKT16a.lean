/-
  The laws' models: their numbers. Plain arithmetic. No condition. (This text proves no statement by itself.)
-/
import Derived.Test.YtpbgkohljjmbhaaKT5
import Derived.Test.YtpbgkohljjmbhaaKC13

namespace Go.Proofs.Ytpbgkohljjmbhaa.M
open Go
theorem tmod_in {a b : Int} (ha : 0 ≤ a) (hb : 0 < b) : 0 ≤ Int.tmod a b ∧ Int.tmod a b < b := by
  rw [Int.tmod_eq_emod_of_nonneg ha]
  exact ⟨Int.emod_nonneg _ (by omega), Int.emod_lt_of_pos _ hb⟩
def mkA (u : Nat → Int) (k : Nat) : Int := Int.tmod (u k) 1001
def mkP (u : Nat → Int) (k : Nat) : Int := 1 + Int.tmod (u k) 1000000000
def mkH (u : Nat → Int) (k : Nat) : Int := Int.tmod (u k) 3600
def inU (n : Nat) (u v w : Nat → Int) : Prop := ∀ k, k < n → 0 ≤ u k ∧ u k ≤ 4294967295 ∧ 0 ≤ v k ∧ v k ≤ 4294967295 ∧ 0 ≤ w k ∧ w k ≤ 4294967295
theorem mk_ok {m : Int} {n : Nat} {u v w : Nat → Int} (hn : n ≤ 8) (h : inU n u v w) : modE (Int.tmod m 5000) n (mkA u) (mkP v) (mkH w) = 0 := by
  have h1 : m.tmod 5000 < 5000 := Int.tmod_lt_of_pos m (by omega)
  have h2 : -5000 < m.tmod 5000 := Int.lt_tmod_of_pos m (by omega)
  refine modE_iff.2 ⟨by omega, by omega, by omega, fun k hk => okP_iff.2 ?_⟩
  obtain ⟨u1, u2, v1, v2, w1, w2⟩ := h k hk
  have e1 := tmod_in u1 (show (0 : Int) < 1001 by omega)
  have e2 := tmod_in v1 (show (0 : Int) < 1000000000 by omega)
  have e3 := tmod_in w1 (show (0 : Int) < 3600 by omega)
  unfold mkA mkP mkH
  omega
def cg (c z : Int) : Int := if c = 0 then z else 0
end Go.Proofs.Ytpbgkohljjmbhaa.M
/-
  The laws' models. No condition. (This text proves no statement by itself.)
-/
namespace Go.Proofs.Ytpbgkohljjmbhaa.Sep
open Go
set_option linter.unusedVariables false
set_option linter.unusedSimpArgs false
def lp35 (mm : Int) (n : Nat) (u v w : Nat → Int) : LoopS where
  ι := Nat
  β := Unit
  pre k := k ≤ n ∧ (n ≤ 100 ∧ M.inU n u v w)
  μ k := n - k
  next k _ _ _ := k + 1
  out _ := ()
  early _ := false
  SA k := [(4, .ptr 0 0), (5, .ptr 1 0), (12, .sl 3 n (fun k => [.int .u32 (u k), .int .u32 (v k), .int .u32 (w k)])), (13, SI n), (14, SI k)]
  SH k := [(0, .cells [.top, .top]), (1, .cells [SI (Int.tmod mm 5000), .vec 2 3 0 k]), (2, .row 3 k (fun k => [SI (M.mkA u k), SI (M.mkP v k), SI (M.mkH w k)]))]
  n0 := 3
  NA _ := [(4, .ptr 0 0), (5, .ptr 1 0)]
  NH _ := [(0, .cells [.top, .top]), (1, .cells [SI (Int.tmod mm 5000), .vec 2 3 0 n]), (2, .row 3 n (fun k => [SI (M.mkA u k), SI (M.mkP v k), SI (M.mkH w k)]))]
  n1 := 3
  RA _ := []
  RH _ := []
def Rq35 (mm : Int) (n : Nat) (u v w : Nat → Int) (k : Nat) : Prop := (decide ((↑k : Int) < (↑n : Int)) = true → (0 : Int) ≤ (↑k : Int) ∧ (↑k : Int) < (↑n : Int) ∧ Int.toNat (↑k : Int) < n ∧ (0 : Int) ≤ (0 : Int) ∧ (0 : Int) < (↑(3 : Nat) : Int) ∧ (1001 : Int) ≠ (0 : Int) ∧ R64 (Int.tmod (u (Int.toNat (↑k : Int))) (1001 : Int)) ∧ (0 : Int) ≤ (1 : Int) ∧ (1 : Int) < (↑(3 : Nat) : Int) ∧ (1000000000 : Int) ≠ (0 : Int) ∧ R64 (Int.tmod (v (Int.toNat (↑k : Int))) (1000000000 : Int)) ∧ R64 ((1 : Int) + Int.tmod (v (Int.toNat (↑k : Int))) (1000000000 : Int)) ∧ (0 : Int) ≤ (2 : Int) ∧ (2 : Int) < (↑(3 : Nat) : Int) ∧ (3600 : Int) ≠ (0 : Int) ∧ R64 (Int.tmod (w (Int.toNat (↑k : Int))) (3600 : Int)) ∧ (0 : Nat) + (1 : Nat) ≤ (1 : Nat) ∧ (∀ (k : Nat), k < (1 : Nat) → true = true) ∧ k ≤ k ∧ (k + (1 : Nat)) * (24 : Nat) ≤ (140737488355328 : Nat) ∧ R64 ((↑k : Int) + (1 : Int)) ∧ (k + (1 : Nat) ≤ n ∧ n ≤ (100 : Nat) ∧ M.inU n u v w) ∧ n - (k + (1 : Nat)) < n - k ∧ () = () ∧ (n = n ∧ ∀ (k : Nat), k < n → u k = u k ∧ v k = v k ∧ w k = w k) ∧ (↑n : Int) = (↑n : Int) ∧ (↑k : Int) + (1 : Int) = (↑(k + (1 : Nat)) : Int) ∧ Int.tmod mm (5000 : Int) = Int.tmod mm (5000 : Int) ∧ (0 : Nat) = (0 : Nat) ∧ k + (1 : Nat) = k + (1 : Nat) ∧ k + (1 : Nat) ≤ k + (1 : Nat) ∧ (∀ (k_1 : Nat), k_1 < k + (1 : Nat) → (bif decide (k_1 < k) then M.mkA u k_1 else Int.tmod (u (Int.toNat (↑k : Int))) (1001 : Int)) = M.mkA u k_1 ∧ (bif decide (k_1 < k) then M.mkP v k_1 else (1 : Int) + Int.tmod (v (Int.toNat (↑k : Int))) (1000000000 : Int)) = M.mkP v k_1 ∧ (bif decide (k_1 < k) then M.mkH w k_1 else Int.tmod (w (Int.toNat (↑k : Int))) (3600 : Int)) = M.mkH w k_1) ∧ True) ∧ (decide ((↑k : Int) < (↑n : Int)) = false → false = false ∧ Int.tmod mm (5000 : Int) = Int.tmod mm (5000 : Int) ∧ (0 : Nat) = (0 : Nat) ∧ k = n ∧ n ≤ k ∧ (∀ (k : Nat), k < n → M.mkA u k = M.mkA u k ∧ M.mkP v k = M.mkP v k ∧ M.mkH w k = M.mkH w k) ∧ True)
theorem q35 (mm : Int) (n : Nat) (u v w : Nat → Int) (k : Nat) : VL true [] [] YS.none Try.f35 0 [0,1,4,5,7,12,13,14,15] [] 0 (lp35 mm n u v w) (k) = Rq35 mm n u v w k := by kernel_rfl
theorem peq35 (mm : Int) (n : Nat) (u v w : Nat → Int) (k : Nat) : (lp35 mm n u v w).pre (k) = (k ≤ n ∧ n ≤ (100 : Nat) ∧ M.inU n u v w) := by kernel_rfl
theorem bq35 (mm : Int) (n : Nat) (u v w : Nat → Int) (k : Nat) (hp : k ≤ n ∧ n ≤ (100 : Nat) ∧ M.inU n u v w) : Rq35 mm n u v w k := by
  unfold Rq35
  obtain ⟨hk, hn, hu⟩ := hp
  simp only [Int.toNat_natCast]
  by_cases hlt : k < n
  · obtain ⟨u1, u2, v1, v2, w1, w2⟩ := hu k hlt
    have e1 := M.tmod_in u1 (show (0 : Int) < 1001 by omega)
    have e2 := M.tmod_in v1 (show (0 : Int) < 1000000000 by omega)
    have e3 := M.tmod_in w1 (show (0 : Int) < 3600 by omega)
    have f1 : Int.tmod (u k) 1001 = M.mkA u k := rfl
    have f2 : 1 + Int.tmod (v k) 1000000000 = M.mkP v k := rfl
    have f3 : Int.tmod (w k) 3600 = M.mkH w k := rfl
    simp only [f1, f2, f3] at e1 e2 e3 ⊢
    have f4 : M.mkP v k = 1 + Int.tmod (v k) 1000000000 := rfl
    have hc : ∀ (f : Nat → Int) (j : Nat), j < k + 1 → (bif decide (j < k) then f j else f k) = f j := fun f j hj => by
      by_cases e : j < k
      · simp [e]
      · have : j = k := by omega
        subst this; simp
    have r1 : R64 (M.mkA u k) := by unfold R64; omega
    have r2 : R64 (M.mkP v k) := by unfold R64; omega
    have r3 : R64 (M.mkH w k) := by unfold R64; omega
    have r4 : R64 (Int.tmod (v k) 1000000000) := by unfold R64; omega
    have r5 : R64 ((k : Int) + 1) := by unfold R64; omega
    simp only [r1, r2, r3, r4, r5, hu]
    simp [hlt]
    refine ⟨by omega, by omega, by omega, fun j hj => ⟨hc _ _ hj, hc _ _ hj, hc _ _ hj⟩⟩
  · have : k = n := by omega
    subst this
    simp
theorem t35 (mm : Int) (n : Nat) (u v w : Nat → Int) {F : Fence} (hF : FOK F) (Y : YEnv PP YS.none) : ∀ Q A H nx, loopT false Try.f35.ntmps 0 (lp35 mm n u v w) (fun _ _ _ => (0 : Nat)) Q A H nx → WPS Y F Try.f35.ntmps 0 (.block 0 (blkAt 0 Try.f35)) Q A H nx :=
  loopW (E := []) (.nil) (O := []) (.nil) (ck := true) (L := [0,1,4,5,7,12,13,14,15]) (f := Try.f35) (m := 0) (id := 0) (l := (lp35 mm n u v w)) (LI := fun i => []) Y hF (by kernel_rfl) (fun _ => .nil) (by
    rintro k hp
    exact Hold.of (q35 mm n u v w k) (bq35 mm n u v w k ((peq35 mm n u v w k).mp hp)))
def e35 : List SV → Option (List Prop × SV)
  | [.int .i16 mm, .sl 3 n g_1] => some ([RowK .u32 3 n g_1, -32768 ≤ mm, mm ≤ 32767, n ≤ 100, M.inU n (cI g_1 0) (cI g_1 1) (cI g_1 2)], .agg [SI (Int.tmod mm 5000), .sl 3 n (fun k => [SI (M.mkA (cI g_1 0) k), SI (M.mkP (cI g_1 1) k), SI (M.mkH (cI g_1 2) k)])])
  | _ => none
def Rr35 (mm : Int) (n : Nat) (u v w : Nat → Int) : Prop := R64 mm ∧ (5000 : Int) ≠ (0 : Int) ∧ ((0 : Nat) ≤ n ∧ n ≤ (100 : Nat) ∧ M.inU n u v w) ∧ ((n = n ∧ ∀ (k : Nat), k < n → u k = u k ∧ v k = v k ∧ w k = w k) ∧ (↑n : Int) = (↑n : Int) ∧ (0 : Int) = (↑(0 : Nat) : Int) ∧ Int.tmod mm (5000 : Int) = Int.tmod mm (5000 : Int) ∧ (0 : Nat) = (0 : Nat) ∧ (0 : Nat) = (0 : Nat) ∧ True) ∧ (false = false → (0 : Nat) + n ≤ n ∧ Int.tmod mm (5000 : Int) = Int.tmod mm (5000 : Int) ∧ n = n ∧ ∀ (k : Nat), k < n → M.mkA u ((0 : Nat) + k) = M.mkA u k ∧ M.mkP v ((0 : Nat) + k) = M.mkP v k ∧ M.mkH w ((0 : Nat) + k) = M.mkH w k) ∧ (false = true → False)
theorem r35 (mm : Int) (n : Nat) (u v w : Nat → Int) : V true [] [] Try.f35 [0,1,4,5,7,12,13,14,15] [(0, loopT false Try.f35.ntmps 0 (lp35 mm n u v w) (fun _ _ _ => (0 : Nat)))] [.int .i16 mm, .sl 3 n (fun k => [.int .u32 (u k), .int .u32 (v k), .int .u32 (w k)])] (.agg [SI (Int.tmod mm 5000), .sl 3 n (fun k => [SI (M.mkA u k), SI (M.mkP v k), SI (M.mkH w k)])]) = Rr35 mm n u v w := by kernel_rfl
theorem br35 (mm : Int) (n : Nat) (u v w : Nat → Int) (hp : (-32768 ≤ mm) ∧ (mm ≤ 32767) ∧ (n ≤ 100) ∧ (M.inU n u v w) ∧ AllP []) : Rr35 mm n u v w := by
  unfold Rr35
  obtain ⟨m1, m2, hn, hu, -⟩ := hp
  have r1 : R64 mm := by unfold R64; omega
  simp [r1, hn, hu]
theorem s35 : PureOK PP 35 e35 := by
  intro xs ps res h hp
  unfold e35 at h
  split at h
  · rename_i mm n g_1
    simp only [Option.some.injEq, Prod.mk.injEq] at h
    obtain ⟨rfl, rfl⟩ := h
    simp only [AllP.cons] at hp
    obtain ⟨Hg_1, hp⟩ := hp
    refine Spec.args (ys := [.int .i16 mm, .sl 3 n (fun k => [.int .u32 ((cI g_1 0) k), .int .u32 ((cI g_1 1) k), .int .u32 ((cI g_1 2) k)])]) ?_ (.cons (.refl _) (.cons (.rowK Hg_1 fun _ => rfl) .nil))
    refine enter (L := [0,1,4,5,7,12,13,14,15]) (LO := [(0, loopT false Try.f35.ntmps 0 (lp35 mm n (cI g_1 0) (cI g_1 1) (cI g_1 2)) (fun _ _ _ => (0 : Nat)))]) (E := []) (O := []) (ck := true) (.nil) (.nil) (k := 35) (f := Try.f35) (xs := [.int .i16 mm, .sl 3 n (fun k => [.int .u32 ((cI g_1 0) k), .int .u32 ((cI g_1 1) k), .int .u32 ((cI g_1 2) k)])]) (r := (.agg [SI (Int.tmod mm 5000), .sl 3 n (fun k => [SI (M.mkA (cI g_1 0) k), SI (M.mkP (cI g_1 1) k), SI (M.mkH (cI g_1 2) k)])])) (by kernel_rfl) (by kernel_rfl) (fun Y => .cons (by kernel_rfl) (t35 mm n (cI g_1 0) (cI g_1 1) (cI g_1 2) FOK.wide Y) (.nil)) ?_
    exact Hold.of (r35 mm n (cI g_1 0) (cI g_1 1) (cI g_1 2)) (br35 mm n (cI g_1 0) (cI g_1 1) (cI g_1 2) hp)
  · cases h
end Go.Proofs.Ytpbgkohljjmbhaa.Sep
