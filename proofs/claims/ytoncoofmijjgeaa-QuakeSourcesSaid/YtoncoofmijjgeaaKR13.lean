/-
  Texts of one seat, joined. No condition. (This text proves no statement by itself.)
-/
import Derived.Test.YtoncoofmijjgeaaKR10
import Derived.Test.YtoncoofmijjgeaaKN1
namespace Go.Proofs.Ytoncoofmijjgeaa.Sep
open Go
set_option linter.unusedVariables false
set_option linter.unusedSimpArgs false
def e20 : List SV → Option (List Prop × SV)
 | [.sl 6 m g_1] => some ([Row 6 m g_1, m ≤ 1000], .sl 6 m (fun j => [SI ((cI g_1 0) j), SI ((cI g_1 1) j), SI ((cI g_1 2) j), SI ((cI g_1 3) j), SI ((cI g_1 4) j), SI ((cI g_1 5) j)]))
 | _ => none
theorem same_self {n : Nat} {s : Nat → M.Sc} : M.same n n s s = true := M.same_iff.2 ⟨rfl, fun _ _ => rfl⟩
def e3 : List SV → Option (List Prop × SV)
 | [.agg [.int .i64 w, .int .i64 ht, .int .i64 s, .int .i64 v0, .int .i64 v1, .int .i64 d0, .int .i64 d1, .int .i64 r], .sl 1 ns g_1, .sl 5 n g_2, .sl 6 m g_3, .int .i64 f] => some ([Row 1 ns g_1, Row 5 n g_2, Row 6 m g_3], .bool true)
 | _ => none
def Rr3 (w ht s v0 v1 d0 d1 r : Int) (ns : Nat) (x : Nat → Int) (n : Nat) (sk sc sq sa sb : Nat → Int) (m : Nat) (pk ps pa pb pc pd : Nat → Int) (f : Int) : Prop := (fun (z7 : Bool) (z2 : Int) (z8 : Nat) (z1 : Nat → M.Sc) (z4 z5 z10 : Prop) => (fun (z3 : Nat) => (fun (z0 : Bool) (z6 : Prop) => (fun (z9 : Bool) (z11 : Prop) => z10 ∧ z5 ∧ z4 ∧ (z7 = true → true = true) ∧ (z7 = false → z10 ∧ z5 ∧ z4 ∧ ns ≤ z8 ∧ n ≤ z8 ∧ m ≤ z8 ∧ z4 ∧ m ≤ (1000 : Nat) ∧ z10 ∧ z5 ∧ z4 ∧ ns ≤ z8 ∧ n ≤ z8 ∧ m ≤ z8 ∧ z6 ∧ z6 ∧ z3 ≤ z8 ∧ z3 ≤ z8 ∧ z11 ∧ z11 ∧ z11 ∧ (z9 = true → z9 = true) ∧ (bif z9 then true else false) = true)) (bif z0 then decide (z2 = z2) else false) (z0 = true → z0 = true)) (M.same z3 z3 (fun i => M.Sc.mk (z1 i).k (z1 i).c (z1 i).q (z1 i).a (z1 i).b) fun i => M.Sc.mk (z1 i).k (z1 i).c (z1 i).q (z1 i).a (z1 i).b) (∀ (k : Nat), (k < z3) → (z1 k).k = (z1 k).k ∧ (z1 k).c = (z1 k).c ∧ (z1 k).q = (z1 k).q ∧ (z1 k).a = (z1 k).a ∧ (z1 k).b = (z1 k).b)) (if z2 = (0 : Int) then M.Gd.leN (M.Gd.mk w ht s v0 v1 d0 d1 r) x (fun i => M.Sc.mk (sk i) (sc i) (sq i) (sa i) (sb i)) m (fun i => M.Pk.mk (pk i) (ps i) (pa i) (pb i) (pc i) (pd i)) f n else (0 : Nat))) (!decide (ns ≤ (70 : Nat) ∧ n ≤ (300 : Nat) ∧ m ≤ (70 : Nat) ∧ n * m ≤ (3000 : Nat))) (M.Gd.ckE (M.Gd.mk w ht s v0 v1 d0 d1 r) ns x n (fun i => M.Sc.mk (sk i) (sc i) (sq i) (sa i) (sb i)) m (fun i => M.Pk.mk (pk i) (ps i) (pa i) (pb i) (pc i) (pd i)) f) (100000 : Nat) (M.Gd.leR (M.Gd.mk w ht s v0 v1 d0 d1 r) x (fun i => M.Sc.mk (sk i) (sc i) (sq i) (sa i) (sb i)) m (fun i => M.Pk.mk (pk i) (ps i) (pa i) (pb i) (pc i) (pd i)) f n) (∀ (k : Nat), k < m → pk k = pk k ∧ ps k = ps k ∧ pa k = pa k ∧ pb k = pb k ∧ pc k = pc k ∧ pd k = pd k) (∀ (k : Nat), k < n → sk k = sk k ∧ sc k = sc k ∧ sq k = sq k ∧ sa k = sa k ∧ sb k = sb k) (∀ (k : Nat), k < ns → x k = x k)
theorem r3 (w ht s v0 v1 d0 d1 r : Int) (ns : Nat) (x : Nat → Int) (n : Nat) (sk sc sq sa sb : Nat → Int) (m : Nat) (pk ps pa pb pc pd : Nat → Int) (f : Int) : V true [] [(16, pureE e16), (17, pureE e17), (18, pureE e18), (19, pureE e19), (20, pureE e20), (21, pureE e21)] Try.f3 [0,1,2,3,4,5,10,11,12,13,14,19] [] [.agg [SI w, SI ht, SI s, SI v0, SI v1, SI d0, SI d1, SI r], .sl 1 ns (fun k => [SI (x k)]), .sl 5 n (fun k => [SI (sk k), SI (sc k), SI (sq k), SI (sa k), SI (sb k)]), .sl 6 m (fun k => [SI (pk k), SI (ps k), SI (pa k), SI (pb k), SI (pc k), SI (pd k)]), SI f] (.bool true) = Rr3 w ht s v0 v1 d0 d1 r ns x n sk sc sq sa sb m pk ps pa pb pc pd f := by kernel_rfl
end Go.Proofs.Ytoncoofmijjgeaa.Sep
namespace Go.Proofs.Ytoncoofmijjgeaa.M
open Go
set_option linter.unusedVariables false
set_option linter.unusedSimpArgs false
namespace Gd
def ceE (g : Gd) (x : Nat → Int) (i : Nat) : Int := if g.cell (x i) then (if 0 < i ∧ x i ≤ x (i - 1) then 2 else 0) else 4
def soE (g : Gd) (n : Nat) (x : Nat → Int) (q0 q1 a b : Int) : Int := if g.ok then
 (if fe (g.ceE x) n 0 = 0 then (if (1 ≤ q0 ∧ q0 ≤ q1 ∧ q1 ≤ 10) ∧ 0 ≤ a ∧ a ≤ b ∧ b ≤ 1000000000 then (if 256 < (n : Int) * (q1 - q0 + 1) then 9 else 0) else 3) else fe (g.ceE x) n 0) else 3
end Gd
def wid (q0 q1 : Int) : Nat := (q1 - q0 + 1).toNat
def soR (x : Nat → Int) (q0 q1 a b : Int) (j : Nat) : Sc := ⟨1, x (j / wid q0 q1), q0 + (j % wid q0 q1 : Nat), a, b⟩
theorem so_div {q0 q1 : Int} {i d : Nat} (h : d < wid q0 q1) : (i * wid q0 q1 + d) / wid q0 q1 = i := by
 rw [Nat.mul_comm, Nat.mul_add_div (by omega), Nat.div_eq_of_lt h]; omega
theorem so_mod {q0 q1 : Int} {i d : Nat} (h : d < wid q0 q1) : (i * wid q0 q1 + d) % wid q0 q1 = d := by
 rw [Nat.mul_comm, Nat.mul_add_mod, Nat.mod_eq_of_lt h]
end Go.Proofs.Ytoncoofmijjgeaa.M
namespace Go.Proofs.Ytoncoofmijjgeaa.Sep
open Go
set_option linter.unusedVariables false
set_option linter.unusedSimpArgs false
def lp38 (w ht s v0 v1 d0 d1 r : Int) (n : Nat) (x : Nat → Int) (q0 q1 a b : Int) : LoopS where
 ι := Nat
 β := Int
 pre i := i ≤ n ∧ n ≤ 100000 ∧ M.Gd.ok (M.Gd.mk w ht s v0 v1 d0 d1 r)
 μ i := n - i
 next i _ _ _ := i + 1
 out i := M.fe (M.Gd.ceE (M.Gd.mk w ht s v0 v1 d0 d1 r) x) (n - i) i
 early q := decide (q ≠ 0)
 SA i := [(1, .sl 1 n (fun k => [SI (x k)])), (4, .ptr 0 0), (6, .ptr 1 0), (7, .ptr 2 0), (22, .sl 1 n (fun k => [SI (x k)])), (23, SI n), (24, SI i)]
 SH _ := [(0, .cells [SI w, SI ht, SI s, SI v0, SI v1, SI d0, SI d1, SI r]), (1, .cells [SI q0, SI q1]), (2, .cells [SI a, SI b])]
 n0 := 3
 NA _ := [(1, .sl 1 n (fun k => [SI (x k)])), (4, .ptr 0 0), (6, .ptr 1 0), (7, .ptr 2 0)]
 NH _ := [(0, .cells [SI w, SI ht, SI s, SI v0, SI v1, SI d0, SI d1, SI r]), (1, .cells [SI q0, SI q1]), (2, .cells [SI a, SI b])]
 n1 := 3
 RA q := [(8, .lit (.slice none 0 0)), (9, SI q)]
 RH _ := []
def Rq38 (w ht s v0 v1 d0 d1 r : Int) (n : Nat) (x : Nat → Int) (q0 q1 a b : Int) (i : Nat) : Prop := (fun (z2 z10 : Int) (z1 : M.Gd) (z9 : Nat) (z4 z6 z7 : Prop) => (fun (z12 : Bool) (z3 z13 : Int) (z0 : Prop) => (fun (z5 z11 : Bool) (z8 : Prop) => (decide (z2 < z10) = true → (0 : Int) ≤ z2 ∧ z2 < z10 ∧ Int.toNat z2 < n ∧ M.Gd.ok z1 ∧ (z12 = true → z11 = true ∧ z7 ∧ (4 : Int) = z3 ∧ True) ∧ (z12 = false → z8 ∧ (z0 → R64 z13) ∧ z8 ∧ z8 ∧ (z0 → (0 : Int) ≤ z13) ∧ (z0 → z13 < z10) ∧ z8 ∧ (z0 → Int.toNat z13 < n) ∧ z8 ∧ z8 ∧ z8 ∧ (z5 = true → z11 = true ∧ z7 ∧ (2 : Int) = z3 ∧ True) ∧ (z5 = false → R64 (z2 + (1 : Int)) ∧ (z9 ≤ n ∧ n ≤ (100000 : Nat) ∧ M.Gd.ok z1) ∧ n - z9 < n - i ∧ M.fe (M.Gd.ceE z1 x) (n - z9) z9 = z3 ∧ z6 ∧ z6 ∧ z10 = z10 ∧ z2 + (1 : Int) = (↑z9 : Int) ∧ z4))) ∧ (decide (z2 < z10) = false → z11 = false ∧ z6 ∧ z4)) (bif decide ((0 : Int) < z2) then decide (x (Int.toNat z2) ≤ x (Int.toNat z13)) else false) (decide (z3 ≠ (0 : Int))) (z0 → z0)) (!decide (M.Gd.cell z1 (x (Int.toNat z2)))) (M.fe (M.Gd.ceE z1 x) (n - i) i) (z2 - (1 : Int)) (decide ((0 : Int) < z2) = true)) (↑i : Int) (↑n : Int) (M.Gd.mk w ht s v0 v1 d0 d1 r) (i + (1 : Nat)) (w = w ∧ ht = ht ∧ s = s ∧ v0 = v0 ∧ v1 = v1 ∧ d0 = d0 ∧ d1 = d1 ∧ r = r ∧ q0 = q0 ∧ q1 = q1 ∧ a = a ∧ b = b ∧ True) (n = n ∧ ∀ (k : Nat), k < n → x k = x k) (Value.slice none (0 : Nat) (0 : Nat) = Value.slice none (0 : Nat) (0 : Nat))
theorem q38 (w ht s v0 v1 d0 d1 r : Int) (n : Nat) (x : Nat → Int) (q0 q1 a b : Int) (i : Nat) : VL true [] [(83, pureE e83)] YS.none Try.f38 0 [0,1,2,3,4,6,7,8,9,10,11,12,13,15,16,20,22,23,24,25,29,34,47,56,67,68,69,70,78] [] 0 (lp38 w ht s v0 v1 d0 d1 r n x q0 q1 a b) (i) = Rq38 w ht s v0 v1 d0 d1 r n x q0 q1 a b i := by kernel_rfl
theorem peq38 (w ht s v0 v1 d0 d1 r : Int) (n : Nat) (x : Nat → Int) (q0 q1 a b : Int) (i : Nat) : (lp38 w ht s v0 v1 d0 d1 r n x q0 q1 a b).pre (i) = (i ≤ n ∧ n ≤ (100000 : Nat) ∧ M.Gd.ok (M.Gd.mk w ht s v0 v1 d0 d1 r)) := by kernel_rfl
theorem bq38 (w ht s v0 v1 d0 d1 r : Int) (n : Nat) (x : Nat → Int) (q0 q1 a b : Int) (i : Nat) (hp : i ≤ n ∧ n ≤ (100000 : Nat) ∧ M.Gd.ok (M.Gd.mk w ht s v0 v1 d0 d1 r)) : Rq38 w ht s v0 v1 d0 d1 r n x q0 q1 a b i := by
 unfold Rq38
 dsimp -iota -proj -eta -zeta only
 obtain ⟨h1, h2, h3⟩ := id hp
 have r1 : R64 ((i : Int) + 1) := by unfold R64; omega
 have r2 : R64 ((i : Int) - 1) := by unfold R64; omega
 have t1 : ((i : Int) - 1).toNat = i - 1 := by omega
 have f1 := @M.fe_step (M.Gd.ceE (M.Gd.mk w ht s v0 v1 d0 d1 r) x) n i
 have f2 := @M.fe_stop (M.Gd.ceE (M.Gd.mk w ht s v0 v1 d0 d1 r) x) n i
 have f3 := @M.fe_end (M.Gd.ceE (M.Gd.mk w ht s v0 v1 d0 d1 r) x) n i
 simp only [Int.toNat_natCast, r1, r2, t1]
 generalize M.fe (M.Gd.ceE (M.Gd.mk w ht s v0 v1 d0 d1 r) x) (n - i) i = F at *
 generalize M.fe (M.Gd.ceE (M.Gd.mk w ht s v0 v1 d0 d1 r) x) (n - (i + 1)) (i + 1) = F' at *
 unfold M.Gd.ceE at f1 f2
 by_cases hl : i < n
 ·have f1 := f1 hl
  have f2 := f2 hl
  clear f3
  have t2 : i - 1 < n := by omega
  by_cases c1 : M.Gd.cell (M.Gd.mk w ht s v0 v1 d0 d1 r) (x i)
  ·by_cases c2 : 0 < i
   ·have c2' : (0 : Int) < i := by omega
    by_cases c3 : x i ≤ x (i - 1)
    ·simp [c1, c2, c3] at f2
     simp [hl, h3, c1, c2, c2', c3, f2, t2]
     try omega
    ·simp [c1, c2, c3] at f1
     subst f1
     simp [hl, h3, c1, c2, c2', c3, t2]
     try omega
   ·have c2' : ¬ (0 : Int) < i := by omega
    simp [c1, c2] at f1
    subst f1
    simp [hl, h3, c1, c2, c2', t2]
    try omega
  ·simp [c1] at f2
   simp [hl, h3, c1, f2]
   try omega
 ·have f3 := f3 (by omega)
  subst f3
  simp [hl]
theorem t38 (w ht s v0 v1 d0 d1 r : Int) (n : Nat) (x : Nat → Int) (q0 q1 a b : Int) {F : Fence} (hF : FOK F) (Y : YEnv PP YS.none) : ∀ Q A H nx, loopT false Try.f38.ntmps 0 (lp38 w ht s v0 v1 d0 d1 r n x q0 q1 a b) (fun _ _ _ => (0 : Nat)) Q A H nx → WPS Y F Try.f38.ntmps 0 (.block 0 (blkAt 0 Try.f38)) Q A H nx :=
 loopW (E := []) (.nil) (O := [(83, pureE e83)]) (.cons (pureE_ok s83) (.nil)) (ck := true) (L := [0,1,2,3,4,6,7,8,9,10,11,12,13,15,16,20,22,23,24,25,29,34,47,56,67,68,69,70,78]) (f := Try.f38) (m := 0) (id := 0) (l := (lp38 w ht s v0 v1 d0 d1 r n x q0 q1 a b)) (LI := fun i => []) Y hF (by kernel_rfl) (fun _ => .nil) (by
  rintro i hp
  exact Hold.of (q38 w ht s v0 v1 d0 d1 r n x q0 q1 a b i) (bq38 w ht s v0 v1 d0 d1 r n x q0 q1 a b i ((peq38 w ht s v0 v1 d0 d1 r n x q0 q1 a b i).mp hp)))
def lp38b (w ht s v0 v1 d0 d1 r : Int) (n : Nat) (x : Nat → Int) (q0 q1 a b : Int) (i : Nat) : LoopS where
 ι := Nat
 β := Unit
 pre d := d ≤ (M.wid q0 q1) ∧ i < n ∧ n ≤ 256 ∧ (1 ≤ q0 ∧ q0 ≤ q1 ∧ q1 ≤ 10)
 μ d := (M.wid q0 q1) - d
 next d _ _ _ := d + 1
 out _ := ()
 early _ := false
 SA d := [(1, .sl 1 n (fun k => [SI (x k)])), (6, .ptr 1 0), (7, .ptr 2 0), (13, .vec 3 5 0 (i * (M.wid q0 q1) + d)), (15, SI (x i)), (16, SI (q0 + (d : Int))), (67, .sl 1 n (fun k => [SI (x k)])), (68, SI n), (69, SI i)]
 SH d := [(1, .cells [SI q0, SI q1]), (2, .cells [SI a, SI b]), (3, .row 5 (i * (M.wid q0 q1) + d) (fun k => [SI (M.soR x q0 q1 a b k).k, SI (M.soR x q0 q1 a b k).c, SI (M.soR x q0 q1 a b k).q, SI (M.soR x q0 q1 a b k).a, SI (M.soR x q0 q1 a b k).b]))]
 n0 := 4
 NA _ := [(1, .sl 1 n (fun k => [SI (x k)])), (6, .ptr 1 0), (7, .ptr 2 0), (13, .vec 3 5 0 ((i + 1) * (M.wid q0 q1))), (67, .sl 1 n (fun k => [SI (x k)])), (68, SI n), (69, SI i)]
 NH _ := [(1, .cells [SI q0, SI q1]), (2, .cells [SI a, SI b]), (3, .row 5 ((i + 1) * (M.wid q0 q1)) (fun k => [SI (M.soR x q0 q1 a b k).k, SI (M.soR x q0 q1 a b k).c, SI (M.soR x q0 q1 a b k).q, SI (M.soR x q0 q1 a b k).a, SI (M.soR x q0 q1 a b k).b]))]
 n1 := 4
 RA _ := []
 RH _ := []
def Rq38b (w ht s v0 v1 d0 d1 r : Int) (n : Nat) (x : Nat → Int) (q0 q1 a b : Int) (i : Nat) (d : Nat) : Prop := (fun (z4 z5 z7 z8 : Int) (z0 z2 : Nat) (z1 : Prop) => (fun (z3 z6 : Nat) => (decide (z4 ≤ q1) = true → (0 : Nat) + z2 ≤ z2 ∧ (∀ (k : Nat), k < z2 → true = true) ∧ z3 ≤ z3 ∧ (z3 + z2) * (40 : Nat) ≤ (140737488355328 : Nat) ∧ R64 (z4 + z5) ∧ (z6 ≤ z0 ∧ i < n ∧ n ≤ (256 : Nat) ∧ z5 ≤ q0 ∧ q0 ≤ q1 ∧ q1 ≤ (10 : Int)) ∧ z0 - z6 < z0 - d ∧ () = () ∧ z1 ∧ (0 : Nat) = (0 : Nat) ∧ z3 + z2 = i * z0 + z6 ∧ x i = x i ∧ z4 + z5 = q0 + (↑z6 : Int) ∧ z1 ∧ z7 = z7 ∧ z8 = z8 ∧ q0 = q0 ∧ q1 = q1 ∧ a = a ∧ b = b ∧ i * z0 + z6 ≤ z3 + z2 ∧ (∀ (k : Nat), k < i * z0 + z6 → (bif decide (k < z3) then z5 else z5) = z5 ∧ (bif decide (k < z3) then x (k / z0) else x i) = x (k / z0) ∧ (bif decide (k < z3) then q0 + (↑(k % z0) : Int) else z4) = q0 + (↑(k % z0) : Int) ∧ (bif decide (k < z3) then a else a) = a ∧ (bif decide (k < z3) then b else b) = b) ∧ True) ∧ (decide (z4 ≤ q1) = false → false = false ∧ z1 ∧ (0 : Nat) = (0 : Nat) ∧ z3 = (i + z2) * z0 ∧ z1 ∧ z7 = z7 ∧ z8 = z8 ∧ q0 = q0 ∧ q1 = q1 ∧ a = a ∧ b = b ∧ (i + z2) * z0 ≤ z3 ∧ (∀ (k : Nat), k < (i + z2) * z0 → z5 = z5 ∧ x (k / z0) = x (k / z0) ∧ q0 + (↑(k % z0) : Int) = q0 + (↑(k % z0) : Int) ∧ a = a ∧ b = b) ∧ True)) (i * z0 + d) (d + z2)) (q0 + (↑d : Int)) (1 : Int) (↑n : Int) (↑i : Int) (M.wid q0 q1) (1 : Nat) (n = n ∧ ∀ (k : Nat), k < n → x k = x k)
theorem q38b (w ht s v0 v1 d0 d1 r : Int) (n : Nat) (x : Nat → Int) (q0 q1 a b : Int) (i : Nat) (d : Nat) : VL true [] [] YS.none Try.f38 0 [0,1,2,3,4,6,7,8,9,10,11,12,13,15,16,20,22,23,24,25,29,34,47,56,67,68,69,70,78] [] 6 (lp38b w ht s v0 v1 d0 d1 r n x q0 q1 a b i) (d) = Rq38b w ht s v0 v1 d0 d1 r n x q0 q1 a b i d := by kernel_rfl
theorem peq38b (w ht s v0 v1 d0 d1 r : Int) (n : Nat) (x : Nat → Int) (q0 q1 a b : Int) (i : Nat) (d : Nat) : (lp38b w ht s v0 v1 d0 d1 r n x q0 q1 a b i).pre (d) = (d ≤ M.wid q0 q1 ∧ i < n ∧ n ≤ (256 : Nat) ∧ (1 : Int) ≤ q0 ∧ q0 ≤ q1 ∧ q1 ≤ (10 : Int)) := by kernel_rfl
theorem bq38b (w ht s v0 v1 d0 d1 r : Int) (n : Nat) (x : Nat → Int) (q0 q1 a b : Int) (i : Nat) (d : Nat) (hp : d ≤ M.wid q0 q1 ∧ i < n ∧ n ≤ (256 : Nat) ∧ (1 : Int) ≤ q0 ∧ q0 ≤ q1 ∧ q1 ≤ (10 : Int)) : Rq38b w ht s v0 v1 d0 d1 r n x q0 q1 a b i d := by
 unfold Rq38b
 dsimp -iota -proj -eta -zeta only
 obtain ⟨h1, h2, h3, hq⟩ := id hp
 have ew : ((M.wid q0 q1) : Int) = q1 - q0 + 1 := by unfold M.wid; omega
 have hw : (M.wid q0 q1) ≤ 10 := by omega
 have hb : i * (M.wid q0 q1) ≤ 256 * 10 := Nat.mul_le_mul (by omega) hw
 have es : (i + 1) * (M.wid q0 q1) = i * (M.wid q0 q1) + (M.wid q0 q1) := Nat.succ_mul _ _
 have e3 : ∀ k, d < (M.wid q0 q1) → k < i * (M.wid q0 q1) + d + 1 → (bif decide (k < i * (M.wid q0 q1) + d) then x (k / (M.wid q0 q1)) else x i) = x (k / (M.wid q0 q1)) ∧ (bif decide (k < i * (M.wid q0 q1) + d) then q0 + ((k % (M.wid q0 q1) : Nat) : Int) else q0 + (d : Int)) = q0 + ((k % (M.wid q0 q1) : Nat) : Int) := fun k hd hk => by
  by_cases d1 : k < i * (M.wid q0 q1) + d
  ·simp [d1]
  ·have : k = i * (M.wid q0 q1) + d := by omega
   subst this
   rw [M.so_div hd, M.so_mod hd]
   simp
 have r1 : R64 (q0 + (d : Int) + 1) := by unfold R64; omega
 simp only [es]
 by_cases hl : d < (M.wid q0 q1)
 ·have hl' : q0 + (d : Int) ≤ q1 := by omega
  generalize (M.wid q0 q1) = Z at *
  generalize i * Z = Y at *
  simp [hl', r1]
  repeat' apply And.intro
  all_goals first | omega | exact fun k hk => by simpa using e3 k hl (by omega) | skip
 ·have e : d = (M.wid q0 q1) := by omega
  have hl' : ¬ q0 + (d : Int) ≤ q1 := by omega
  simp [hl', e]
  omega
theorem t38b (w ht s v0 v1 d0 d1 r : Int) (n : Nat) (x : Nat → Int) (q0 q1 a b : Int) (i : Nat) {F : Fence} (hF : FOK F) (Y : YEnv PP YS.none) : ∀ Q A H nx, loopT false Try.f38.ntmps 0 (lp38b w ht s v0 v1 d0 d1 r n x q0 q1 a b i) (fun _ _ _ => (0 : Nat)) Q A H nx → WPS Y F Try.f38.ntmps 0 (.block 6 (blkAt 6 Try.f38)) Q A H nx :=
 loopW (E := []) (.nil) (O := []) (.nil) (ck := true) (L := [0,1,2,3,4,6,7,8,9,10,11,12,13,15,16,20,22,23,24,25,29,34,47,56,67,68,69,70,78]) (f := Try.f38) (m := 0) (id := 6) (l := (lp38b w ht s v0 v1 d0 d1 r n x q0 q1 a b i)) (LI := fun i => []) Y hF (by kernel_rfl) (fun _ => .nil) (by
  rintro d hp
  exact Hold.of (q38b w ht s v0 v1 d0 d1 r n x q0 q1 a b i d) (bq38b w ht s v0 v1 d0 d1 r n x q0 q1 a b i d ((peq38b w ht s v0 v1 d0 d1 r n x q0 q1 a b i d).mp hp)))
def lp38a (w ht s v0 v1 d0 d1 r : Int) (n : Nat) (x : Nat → Int) (q0 q1 a b : Int) : LoopS where
 ι := Nat
 β := Unit
 pre i := i ≤ n ∧ n ≤ 256 ∧ (1 ≤ q0 ∧ q0 ≤ q1 ∧ q1 ≤ 10)
 μ i := n - i
 next i _ _ _ := i + 1
 out _ := ()
 early _ := false
 SA i := [(1, .sl 1 n (fun k => [SI (x k)])), (6, .ptr 1 0), (7, .ptr 2 0), (13, .vec 3 5 0 (i * (M.wid q0 q1))), (67, .sl 1 n (fun k => [SI (x k)])), (68, SI n), (69, SI i)]
 SH i := [(1, .cells [SI q0, SI q1]), (2, .cells [SI a, SI b]), (3, .row 5 (i * (M.wid q0 q1)) (fun k => [SI (M.soR x q0 q1 a b k).k, SI (M.soR x q0 q1 a b k).c, SI (M.soR x q0 q1 a b k).q, SI (M.soR x q0 q1 a b k).a, SI (M.soR x q0 q1 a b k).b]))]
 n0 := 4
 NA _ := [(13, .vec 0 5 0 (n * (M.wid q0 q1)))]
 NH _ := [(0, .row 5 (n * (M.wid q0 q1)) (fun k => [SI (M.soR x q0 q1 a b k).k, SI (M.soR x q0 q1 a b k).c, SI (M.soR x q0 q1 a b k).q, SI (M.soR x q0 q1 a b k).a, SI (M.soR x q0 q1 a b k).b]))]
 n1 := 1
 RA _ := []
 RH _ := []
def Rq38a (w ht s v0 v1 d0 d1 r : Int) (n : Nat) (x : Nat → Int) (q0 q1 a b : Int) (i : Nat) : Prop := (fun (z3 z6 z7 : Int) (z0 z2 z5 : Nat) (z1 : Prop) => (fun (z4 : Prop) => (decide (z3 < z6) = true → (0 : Int) ≤ z3 ∧ z3 < z6 ∧ Int.toNat z3 < n ∧ (z5 ≤ z0 ∧ i < n ∧ z4) ∧ (z1 ∧ z5 = z5 ∧ i * z0 = i * z0 + z5 ∧ x (Int.toNat z3) = x i ∧ q0 = q0 + (↑z5 : Int) ∧ z1 ∧ z6 = z6 ∧ z3 = z3 ∧ q0 = q0 ∧ q1 = q1 ∧ a = a ∧ b = b ∧ i * z0 + z5 ≤ i * z0 ∧ (∀ (k : Nat), k < i * z0 + z5 → z7 = z7 ∧ x (k / z0) = x (k / z0) ∧ q0 + (↑(k % z0) : Int) = q0 + (↑(k % z0) : Int) ∧ a = a ∧ b = b) ∧ True) ∧ (false = false → R64 (z3 + z7) ∧ (z2 ≤ n ∧ z4) ∧ n - z2 < n - i ∧ () = () ∧ z1 ∧ z5 = z5 ∧ z2 * z0 = z2 * z0 ∧ z1 ∧ z6 = z6 ∧ z3 + z7 = (↑z2 : Int) ∧ q0 = q0 ∧ q1 = q1 ∧ a = a ∧ b = b ∧ z2 * z0 ≤ z2 * z0 ∧ (∀ (k : Nat), k < z2 * z0 → z7 = z7 ∧ x (k / z0) = x (k / z0) ∧ q0 + (↑(k % z0) : Int) = q0 + (↑(k % z0) : Int) ∧ a = a ∧ b = b) ∧ True) ∧ (false = true → false = true ∧ True)) ∧ (decide (z3 < z6) = false → false = false ∧ z5 = z5 ∧ i * z0 = n * z0 ∧ n * z0 ≤ i * z0 ∧ (∀ (k : Nat), k < n * z0 → z7 = z7 ∧ x (k / z0) = x (k / z0) ∧ q0 + (↑(k % z0) : Int) = q0 + (↑(k % z0) : Int) ∧ a = a ∧ b = b) ∧ True)) (n ≤ (256 : Nat) ∧ z7 ≤ q0 ∧ q0 ≤ q1 ∧ q1 ≤ (10 : Int))) (↑i : Int) (↑n : Int) (1 : Int) (M.wid q0 q1) (i + (1 : Nat)) (0 : Nat) (n = n ∧ ∀ (k : Nat), k < n → x k = x k)
theorem q38a (w ht s v0 v1 d0 d1 r : Int) (n : Nat) (x : Nat → Int) (q0 q1 a b : Int) (i : Nat) : VL true [] [] YS.none Try.f38 0 [0,1,2,3,4,6,7,8,9,10,11,12,13,15,16,20,22,23,24,25,29,34,47,56,67,68,69,70,78] [(6, loopT false Try.f38.ntmps 0 (lp38b w ht s v0 v1 d0 d1 r n x q0 q1 a b i) (fun _ _ _ => (0 : Nat)))] 4 (lp38a w ht s v0 v1 d0 d1 r n x q0 q1 a b) (i) = Rq38a w ht s v0 v1 d0 d1 r n x q0 q1 a b i := by kernel_rfl
theorem peq38a (w ht s v0 v1 d0 d1 r : Int) (n : Nat) (x : Nat → Int) (q0 q1 a b : Int) (i : Nat) : (lp38a w ht s v0 v1 d0 d1 r n x q0 q1 a b).pre (i) = (i ≤ n ∧ n ≤ (256 : Nat) ∧ (1 : Int) ≤ q0 ∧ q0 ≤ q1 ∧ q1 ≤ (10 : Int)) := by kernel_rfl
theorem bq38a (w ht s v0 v1 d0 d1 r : Int) (n : Nat) (x : Nat → Int) (q0 q1 a b : Int) (i : Nat) (hp : i ≤ n ∧ n ≤ (256 : Nat) ∧ (1 : Int) ≤ q0 ∧ q0 ≤ q1 ∧ q1 ≤ (10 : Int)) : Rq38a w ht s v0 v1 d0 d1 r n x q0 q1 a b i := by
 unfold Rq38a
 dsimp -iota -proj -eta -zeta only
 obtain ⟨h1, h2, hq⟩ := id hp
 have r1 : R64 ((i : Int) + 1) := by unfold R64; omega
 simp only [Int.toNat_natCast, r1]
 by_cases hl : i < n
 ·have hl' : (i : Int) < n := by omega
  simp [hl, hl', h2, hq]
  try omega
 ·have e : i = n := by omega
  subst e
  simp
theorem t38a (w ht s v0 v1 d0 d1 r : Int) (n : Nat) (x : Nat → Int) (q0 q1 a b : Int) {F : Fence} (hF : FOK F) (Y : YEnv PP YS.none) : ∀ Q A H nx, loopT false Try.f38.ntmps 0 (lp38a w ht s v0 v1 d0 d1 r n x q0 q1 a b) (fun _ _ _ => (0 : Nat)) Q A H nx → WPS Y F Try.f38.ntmps 0 (.block 4 (blkAt 4 Try.f38)) Q A H nx :=
 loopW (E := []) (.nil) (O := []) (.nil) (ck := true) (L := [0,1,2,3,4,6,7,8,9,10,11,12,13,15,16,20,22,23,24,25,29,34,47,56,67,68,69,70,78]) (f := Try.f38) (m := 0) (id := 4) (l := (lp38a w ht s v0 v1 d0 d1 r n x q0 q1 a b)) (LI := fun (i : Nat) => [(6, loopT false Try.f38.ntmps 0 (lp38b w ht s v0 v1 d0 d1 r n x q0 q1 a b i) (fun _ _ _ => (0 : Nat)))]) Y hF (by kernel_rfl) (fun (i : Nat) => .cons (by kernel_rfl) (t38b w ht s v0 v1 d0 d1 r n x q0 q1 a b i hF Y) (.nil)) (by
  rintro i hp
  exact Hold.of (q38a w ht s v0 v1 d0 d1 r n x q0 q1 a b i) (bq38a w ht s v0 v1 d0 d1 r n x q0 q1 a b i ((peq38a w ht s v0 v1 d0 d1 r n x q0 q1 a b i).mp hp)))
def e38 : List SV → Option (List Prop × SV)
 | [.agg [.int .i64 w, .int .i64 ht, .int .i64 s, .int .i64 v0, .int .i64 v1, .int .i64 d0, .int .i64 d1, .int .i64 r], .sl 1 n g_1, .agg [.int .i64 q0, .int .i64 q1], .agg [.int .i64 a, .int .i64 b]] => some ([Row 1 n g_1, n ≤ 100000], .tup [.sl 5 (if M.Gd.soE (M.Gd.mk w ht s v0 v1 d0 d1 r) n (cI g_1 0) q0 q1 a b = 0 then n * (M.wid q0 q1) else 0) (fun k => [SI (M.soR (cI g_1 0) q0 q1 a b k).k, SI (M.soR (cI g_1 0) q0 q1 a b k).c, SI (M.soR (cI g_1 0) q0 q1 a b k).q, SI (M.soR (cI g_1 0) q0 q1 a b k).a, SI (M.soR (cI g_1 0) q0 q1 a b k).b]), SI (M.Gd.soE (M.Gd.mk w ht s v0 v1 d0 d1 r) n (cI g_1 0) q0 q1 a b)])
 | _ => none
def Rr38 (w ht s v0 v1 d0 d1 r : Int) (n : Nat) (x : Nat → Int) (q0 q1 a b : Int) : Prop := (fun (z1 : Bool) (z8 z10 : Int) (z3 : M.Gd) (z4 z7 : Nat) (z5 : Prop) => (fun (z6 : Bool) (z0 z9 : Int) (z11 : Prop) => (fun (z2 : Nat) => ((!decide (M.Gd.er z3 = z10)) = true → z2 = z4 ∧ M.Gd.er z3 = z0) ∧ ((!decide (M.Gd.er z3 = z10)) = false → (z4 ≤ n ∧ n ≤ (100000 : Nat) ∧ M.Gd.ok z3) ∧ (z5 ∧ z5 ∧ (↑n : Int) = (↑n : Int) ∧ z10 = (↑z4 : Int) ∧ w = w ∧ ht = ht ∧ s = s ∧ v0 = v0 ∧ v1 = v1 ∧ d0 = d0 ∧ d1 = d1 ∧ r = r ∧ q0 = q0 ∧ q1 = q1 ∧ a = a ∧ b = b ∧ True) ∧ (decide (z9 ≠ z10) = false → (z11 → z11) ∧ (z11 → z11) ∧ (z1 = false → z11) ∧ (z6 = true → z2 = z4 ∧ (3 : Int) = z0) ∧ (z6 = false → R64 (q1 - q0) ∧ R64 (q1 - q0 + (1 : Int)) ∧ R64 z8 ∧ (decide ((256 : Int) < z8) = true → z2 = z4 ∧ (9 : Int) = z0) ∧ (decide ((256 : Int) < z8) = false → (z4 ≤ n ∧ n ≤ (256 : Nat) ∧ (1 : Int) ≤ q0 ∧ q0 ≤ q1 ∧ q1 ≤ (10 : Int)) ∧ (z5 ∧ z4 * z7 = z4 ∧ z5 ∧ (↑n : Int) = (↑n : Int) ∧ z10 = (↑z4 : Int) ∧ q0 = q0 ∧ q1 = q1 ∧ a = a ∧ b = b ∧ z4 * z7 = z4 ∧ True) ∧ (false = false → z4 + n * z7 ≤ n * z7 ∧ ((n * z7 = z2) ∧ ∀ (k : Nat), k < n * z7 → (1 : Int) = (1 : Int) ∧ x ((z4 + k) / z7) = x (k / z7) ∧ q0 + (↑((z4 + k) % z7) : Int) = q0 + (↑(k % z7) : Int) ∧ a = a ∧ b = b) ∧ z10 = z0) ∧ (false = true → False)))) ∧ (decide (z9 ≠ z10) = true → z2 = z4 ∧ z9 = z0))) (if z0 = z10 then n * z7 else z4)) (bif z1 then true else !decide (z10 ≤ a ∧ a ≤ b ∧ b ≤ (1000000000 : Int))) (M.Gd.soE z3 n x q0 q1 a b) (M.fe (M.Gd.ceE z3 x) (n - z4) z4) ((!z1) = true)) (!decide ((1 : Int) ≤ q0 ∧ q0 ≤ q1 ∧ q1 ≤ (10 : Int))) ((↑n : Int) * (q1 - q0 + (1 : Int))) (0 : Int) (M.Gd.mk w ht s v0 v1 d0 d1 r) (0 : Nat) (M.wid q0 q1) (n = n ∧ ∀ (k : Nat), k < n → x k = x k)
theorem r38 (w ht s v0 v1 d0 d1 r : Int) (n : Nat) (x : Nat → Int) (q0 q1 a b : Int) : V true [] [(28, pureE e28), (71, pureE e71)] Try.f38 [0,1,2,3,4,6,7,8,9,10,11,12,13,15,16,20,22,23,24,25,29,34,47,56,67,68,69,70,78] [(0, loopT false Try.f38.ntmps 0 (lp38 w ht s v0 v1 d0 d1 r n x q0 q1 a b) (fun _ _ _ => (0 : Nat))), (4, loopT false Try.f38.ntmps 0 (lp38a w ht s v0 v1 d0 d1 r n x q0 q1 a b) (fun _ _ _ => (0 : Nat)))] [.agg [SI w, SI ht, SI s, SI v0, SI v1, SI d0, SI d1, SI r], .sl 1 n (fun k => [SI (x k)]), .agg [SI q0, SI q1], .agg [SI a, SI b]] (.tup [.sl 5 (if M.Gd.soE (M.Gd.mk w ht s v0 v1 d0 d1 r) n x q0 q1 a b = 0 then n * (M.wid q0 q1) else 0) (fun k => [SI (M.soR x q0 q1 a b k).k, SI (M.soR x q0 q1 a b k).c, SI (M.soR x q0 q1 a b k).q, SI (M.soR x q0 q1 a b k).a, SI (M.soR x q0 q1 a b k).b]), SI (M.Gd.soE (M.Gd.mk w ht s v0 v1 d0 d1 r) n x q0 q1 a b)]) = Rr38 w ht s v0 v1 d0 d1 r n x q0 q1 a b := by kernel_rfl
theorem br38 (w ht s v0 v1 d0 d1 r : Int) (n : Nat) (x : Nat → Int) (q0 q1 a b : Int) (hp : (n ≤ 100000) ∧ AllP []) : Rr38 w ht s v0 v1 d0 d1 r n x q0 q1 a b := by
 unfold Rr38
 dsimp -iota -proj -eta -zeta only
 obtain ⟨h1, -⟩ := id hp
 unfold M.Gd.er M.Gd.soE
 by_cases hk : M.Gd.ok (M.Gd.mk w ht s v0 v1 d0 d1 r)
 ·by_cases c1 : M.fe (M.Gd.ceE (M.Gd.mk w ht s v0 v1 d0 d1 r) x) n 0 = 0
  ·by_cases c2 : 1 ≤ q0 ∧ q0 ≤ q1 ∧ q1 ≤ 10
   ·by_cases c3 : 0 ≤ a ∧ a ≤ b ∧ b ≤ 1000000000
    ·have ew : ((M.wid q0 q1) : Int) = q1 - q0 + 1 := by unfold M.wid; omega
     have hb : n * (M.wid q0 q1) ≤ 100000 * 10 := Nat.mul_le_mul h1 (by omega)
     have hb2 : n * 1 ≤ n * (M.wid q0 q1) := Nat.mul_le_mul (Nat.le_refl n) (by omega)
     have em : (n : Int) * (q1 - q0 + 1) = ((n * (M.wid q0 q1) : Nat) : Int) := by rw [Int.natCast_mul, ew]
     have r1 : R64 (q1 - q0) := by unfold R64; omega
     have r2 : R64 (q1 - q0 + 1) := by unfold R64; omega
     have r3 : R64 (((n * (M.wid q0 q1) : Nat) : Int)) := by unfold R64; omega
     simp only [em]
     generalize n * (M.wid q0 q1) = Z at *
     by_cases c4 : (256 : Int) < Z
     ·simp [hk, c1, c2, c3, r1, r2, r3, c4, h1]
     ·have hn : n ≤ 256 := by omega
      simp [hk, c1, c2, c3, r1, r2, r3, c4, h1, hn]
    ·simp [hk, c1, c2, c3, h1]
   ·simp [hk, c1, c2, h1]
  ·simp [hk, c1, h1]
 ·simp [hk]
theorem s38 : PureOK PP 38 e38 := by
 intro xs ps res h hp
 unfold e38 at h
 split at h
 ·rename_i w ht s v0 v1 d0 d1 r n g_1 q0 q1 a b
  cases h
  simp only [AllP.cons] at hp
  obtain ⟨Hg_1, hp⟩ := hp
  exact Spec.args (enterH (Hold.of (r38 w ht s v0 v1 d0 d1 r n (cI g_1 0) q0 q1 a b) (br38 w ht s v0 v1 d0 d1 r n (cI g_1 0) q0 q1 a b hp)) (.nil) (.cons (pureE_ok s28) (.cons (pureE_ok s71) (.nil))) (k := 38) (by kernel_rfl) (by kernel_rfl) (fun Y => .cons (by kernel_rfl) (t38 w ht s v0 v1 d0 d1 r n (cI g_1 0) q0 q1 a b FOK.wide Y) (.cons (by kernel_rfl) (t38a w ht s v0 v1 d0 d1 r n (cI g_1 0) q0 q1 a b FOK.wide Y) (.nil)))) (.cons (.refl _) (.cons (.row Hg_1 fun _ => rfl) (.cons (.refl _) (.cons (.refl _) .nil))))
 ·cases h
def lp39 (w ht s v0 v1 d0 d1 r : Int) (n : Nat) (x : Nat → Int) (q0 q1 a b : Int) : LoopS where
 ι := Nat
 β := Int
 pre i := i ≤ n ∧ n ≤ 100000 ∧ M.Gd.ok (M.Gd.mk w ht s v0 v1 d0 d1 r)
 μ i := n - i
 next i _ _ _ := i + 1
 out i := M.fe (M.Gd.ceE (M.Gd.mk w ht s v0 v1 d0 d1 r) x) (n - i) i
 early q := decide (q ≠ 0)
 SA i := [(1, .sl 1 n (fun k => [SI (x k)])), (4, .ptr 0 0), (6, .ptr 1 0), (7, .ptr 2 0), (11, SI i)]
 SH _ := [(0, .cells [SI w, SI ht, SI s, SI v0, SI v1, SI d0, SI d1, SI r]), (1, .cells [SI q0, SI q1]), (2, .cells [SI a, SI b])]
 n0 := 3
 NA _ := [(1, .sl 1 n (fun k => [SI (x k)])), (4, .ptr 0 0), (6, .ptr 1 0), (7, .ptr 2 0)]
 NH _ := [(0, .cells [SI w, SI ht, SI s, SI v0, SI v1, SI d0, SI d1, SI r]), (1, .cells [SI q0, SI q1]), (2, .cells [SI a, SI b])]
 n1 := 3
 RA q := [(8, .lit (.slice none 0 0)), (9, SI q)]
 RH _ := []
def Rq39 (w ht s v0 v1 d0 d1 r : Int) (n : Nat) (x : Nat → Int) (q0 q1 a b : Int) (i : Nat) : Prop := (fun (z2 z13 : Int) (z1 : M.Gd) (z8 : Nat) (z4 z7 z10 : Prop) => (fun (z11 : Bool) (z3 z12 : Int) (z0 : Prop) => (fun (z5 z9 : Bool) (z6 : Prop) => (decide (z2 < z13) = true → (0 : Int) ≤ z2 ∧ z2 < z13 ∧ Int.toNat z2 < n ∧ M.Gd.ok z1 ∧ (z11 = true → z9 = true ∧ z7 ∧ (4 : Int) = z3 ∧ True) ∧ (z11 = false → z6 ∧ z6 ∧ (z0 → (0 : Int) ≤ z2) ∧ (z0 → z2 < z13) ∧ z6 ∧ (z0 → Int.toNat z2 < n) ∧ z6 ∧ (z0 → R64 z12) ∧ z6 ∧ z6 ∧ (z0 → (0 : Int) ≤ z12) ∧ (z0 → z12 < z13) ∧ z6 ∧ (z0 → Int.toNat z12 < n) ∧ z6 ∧ z6 ∧ z6 ∧ (z5 = true → z9 = true ∧ z7 ∧ (2 : Int) = z3 ∧ True) ∧ (z5 = false → R64 (z2 + (1 : Int)) ∧ (z8 ≤ n ∧ n ≤ (100000 : Nat) ∧ M.Gd.ok z1) ∧ n - z8 < n - i ∧ M.fe (M.Gd.ceE z1 x) (n - z8) z8 = z3 ∧ z10 ∧ z2 + (1 : Int) = (↑z8 : Int) ∧ z4))) ∧ (decide (z2 < z13) = false → z9 = false ∧ z10 ∧ z4)) (bif decide ((0 : Int) < z2) then decide (x (Int.toNat z2) ≤ x (Int.toNat z12)) else false) (decide (z3 ≠ (0 : Int))) (z0 → z0)) (!decide (M.Gd.cell z1 (x (Int.toNat z2)))) (M.fe (M.Gd.ceE z1 x) (n - i) i) (z2 - (1 : Int)) (decide ((0 : Int) < z2) = true)) (↑i : Int) (↑n : Int) (M.Gd.mk w ht s v0 v1 d0 d1 r) (i + (1 : Nat)) (w = w ∧ ht = ht ∧ s = s ∧ v0 = v0 ∧ v1 = v1 ∧ d0 = d0 ∧ d1 = d1 ∧ r = r ∧ q0 = q0 ∧ q1 = q1 ∧ a = a ∧ b = b ∧ True) (Value.slice none (0 : Nat) (0 : Nat) = Value.slice none (0 : Nat) (0 : Nat)) (n = n ∧ ∀ (k : Nat), k < n → x k = x k)
theorem q39 (w ht s v0 v1 d0 d1 r : Int) (n : Nat) (x : Nat → Int) (q0 q1 a b : Int) (i : Nat) : VL true [] [(65, pureE e65)] YS.none Try.f39 0 [0,1,2,3,4,6,7,8,9,10,11,12,13,14,18,23,32,46,54,64,68,76] [] 0 (lp39 w ht s v0 v1 d0 d1 r n x q0 q1 a b) (i) = Rq39 w ht s v0 v1 d0 d1 r n x q0 q1 a b i := by kernel_rfl
theorem peq39 (w ht s v0 v1 d0 d1 r : Int) (n : Nat) (x : Nat → Int) (q0 q1 a b : Int) (i : Nat) : (lp39 w ht s v0 v1 d0 d1 r n x q0 q1 a b).pre (i) = (i ≤ n ∧ n ≤ (100000 : Nat) ∧ M.Gd.ok (M.Gd.mk w ht s v0 v1 d0 d1 r)) := by kernel_rfl
theorem bq39 (w ht s v0 v1 d0 d1 r : Int) (n : Nat) (x : Nat → Int) (q0 q1 a b : Int) (i : Nat) (hp : i ≤ n ∧ n ≤ (100000 : Nat) ∧ M.Gd.ok (M.Gd.mk w ht s v0 v1 d0 d1 r)) : Rq39 w ht s v0 v1 d0 d1 r n x q0 q1 a b i := by
 unfold Rq39
 dsimp -iota -proj -eta -zeta only
 obtain ⟨h1, h2, h3⟩ := id hp
 have r1 : R64 ((i : Int) + 1) := by unfold R64; omega
 have r2 : R64 ((i : Int) - 1) := by unfold R64; omega
 have t1 : ((i : Int) - 1).toNat = i - 1 := by omega
 have f1 := @M.fe_step (M.Gd.ceE (M.Gd.mk w ht s v0 v1 d0 d1 r) x) n i
 have f2 := @M.fe_stop (M.Gd.ceE (M.Gd.mk w ht s v0 v1 d0 d1 r) x) n i
 have f3 := @M.fe_end (M.Gd.ceE (M.Gd.mk w ht s v0 v1 d0 d1 r) x) n i
 simp only [Int.toNat_natCast, r1, r2, t1]
 generalize M.fe (M.Gd.ceE (M.Gd.mk w ht s v0 v1 d0 d1 r) x) (n - i) i = F at *
 generalize M.fe (M.Gd.ceE (M.Gd.mk w ht s v0 v1 d0 d1 r) x) (n - (i + 1)) (i + 1) = F' at *
 unfold M.Gd.ceE at f1 f2
 by_cases hl : i < n
 ·have f1 := f1 hl
  have f2 := f2 hl
  clear f3
  have t2 : i - 1 < n := by omega
  by_cases c1 : M.Gd.cell (M.Gd.mk w ht s v0 v1 d0 d1 r) (x i)
  ·by_cases c2 : 0 < i
   ·have c2' : (0 : Int) < i := by omega
    by_cases c3 : x i ≤ x (i - 1)
    ·simp [c1, c2, c3] at f2
     simp [hl, h3, c1, c2, c2', c3, f2, t2]
     try omega
    ·simp [c1, c2, c3] at f1
     subst f1
     simp [hl, h3, c1, c2, c2', c3, t2]
     try omega
   ·have c2' : ¬ (0 : Int) < i := by omega
    simp [c1, c2] at f1
    subst f1
    simp [hl, h3, c1, c2, c2', t2]
    try omega
  ·simp [c1] at f2
   simp [hl, h3, c1, f2]
   try omega
 ·have f3 := f3 (by omega)
  subst f3
  simp [hl]
theorem t39 (w ht s v0 v1 d0 d1 r : Int) (n : Nat) (x : Nat → Int) (q0 q1 a b : Int) {F : Fence} (hF : FOK F) (Y : YEnv PP YS.none) : ∀ Q A H nx, loopT false Try.f39.ntmps 0 (lp39 w ht s v0 v1 d0 d1 r n x q0 q1 a b) (fun _ _ _ => (0 : Nat)) Q A H nx → WPS Y F Try.f39.ntmps 0 (.block 0 (blkAt 0 Try.f39)) Q A H nx :=
 loopW (E := []) (.nil) (O := [(65, pureE e65)]) (.cons (pureE_ok s65) (.nil)) (ck := true) (L := [0,1,2,3,4,6,7,8,9,10,11,12,13,14,18,23,32,46,54,64,68,76]) (f := Try.f39) (m := 0) (id := 0) (l := (lp39 w ht s v0 v1 d0 d1 r n x q0 q1 a b)) (LI := fun i => []) Y hF (by kernel_rfl) (fun _ => .nil) (by
  rintro i hp
  exact Hold.of (q39 w ht s v0 v1 d0 d1 r n x q0 q1 a b i) (bq39 w ht s v0 v1 d0 d1 r n x q0 q1 a b i ((peq39 w ht s v0 v1 d0 d1 r n x q0 q1 a b i).mp hp)))
def lp39b (w ht s v0 v1 d0 d1 r : Int) (n : Nat) (x : Nat → Int) (q0 q1 a b : Int) (i : Nat) : LoopS where
 ι := Nat
 β := Unit
 pre d := d ≤ (M.wid q0 q1) ∧ i < n ∧ n ≤ 256 ∧ (1 ≤ q0 ∧ q0 ≤ q1 ∧ q1 ≤ 10)
 μ d := (M.wid q0 q1) - d
 next d _ _ _ := d + 1
 out _ := ()
 early _ := false
 SA d := [(1, .sl 1 n (fun k => [SI (x k)])), (6, .ptr 1 0), (7, .ptr 2 0), (12, .vec 3 5 0 (i * (M.wid q0 q1) + d)), (14, SI (q0 + (d : Int))), (13, SI i)]
 SH d := [(1, .cells [SI q0, SI q1]), (2, .cells [SI a, SI b]), (3, .row 5 (i * (M.wid q0 q1) + d) (fun k => [SI (M.soR x q0 q1 a b k).k, SI (M.soR x q0 q1 a b k).c, SI (M.soR x q0 q1 a b k).q, SI (M.soR x q0 q1 a b k).a, SI (M.soR x q0 q1 a b k).b]))]
 n0 := 4
 NA _ := [(1, .sl 1 n (fun k => [SI (x k)])), (6, .ptr 1 0), (7, .ptr 2 0), (12, .vec 3 5 0 ((i + 1) * (M.wid q0 q1))), (13, SI i)]
 NH _ := [(1, .cells [SI q0, SI q1]), (2, .cells [SI a, SI b]), (3, .row 5 ((i + 1) * (M.wid q0 q1)) (fun k => [SI (M.soR x q0 q1 a b k).k, SI (M.soR x q0 q1 a b k).c, SI (M.soR x q0 q1 a b k).q, SI (M.soR x q0 q1 a b k).a, SI (M.soR x q0 q1 a b k).b]))]
 n1 := 4
 RA _ := []
 RH _ := []
def Rq39b (w ht s v0 v1 d0 d1 r : Int) (n : Nat) (x : Nat → Int) (q0 q1 a b : Int) (i : Nat) (d : Nat) : Prop := (fun (z3 z4 z5 : Int) (z0 z1 : Nat) (z6 : Prop) => (fun (z2 z7 : Nat) => (decide (z4 ≤ q1) = true → (0 : Int) ≤ z3 ∧ z3 < (↑n : Int) ∧ Int.toNat z3 < n ∧ (0 : Nat) + z1 ≤ z1 ∧ (∀ (k : Nat), k < z1 → true = true) ∧ z2 ≤ z2 ∧ (z2 + z1) * (40 : Nat) ≤ (140737488355328 : Nat) ∧ R64 (z4 + z5) ∧ (z7 ≤ z0 ∧ i < n ∧ n ≤ (256 : Nat) ∧ z5 ≤ q0 ∧ q0 ≤ q1 ∧ q1 ≤ (10 : Int)) ∧ z0 - z7 < z0 - d ∧ () = () ∧ z6 ∧ (0 : Nat) = (0 : Nat) ∧ z2 + z1 = i * z0 + z7 ∧ z4 + z5 = q0 + (↑z7 : Int) ∧ z3 = z3 ∧ q0 = q0 ∧ q1 = q1 ∧ a = a ∧ b = b ∧ i * z0 + z7 ≤ z2 + z1 ∧ (∀ (k : Nat), k < i * z0 + z7 → (bif decide (k < z2) then z5 else z5) = z5 ∧ (bif decide (k < z2) then x (k / z0) else x (Int.toNat z3)) = x (k / z0) ∧ (bif decide (k < z2) then q0 + (↑(k % z0) : Int) else z4) = q0 + (↑(k % z0) : Int) ∧ (bif decide (k < z2) then a else a) = a ∧ (bif decide (k < z2) then b else b) = b) ∧ True) ∧ (decide (z4 ≤ q1) = false → false = false ∧ z6 ∧ (0 : Nat) = (0 : Nat) ∧ z2 = (i + z1) * z0 ∧ z3 = z3 ∧ q0 = q0 ∧ q1 = q1 ∧ a = a ∧ b = b ∧ (i + z1) * z0 ≤ z2 ∧ (∀ (k : Nat), k < (i + z1) * z0 → z5 = z5 ∧ x (k / z0) = x (k / z0) ∧ q0 + (↑(k % z0) : Int) = q0 + (↑(k % z0) : Int) ∧ a = a ∧ b = b) ∧ True)) (i * z0 + d) (d + z1)) (↑i : Int) (q0 + (↑d : Int)) (1 : Int) (M.wid q0 q1) (1 : Nat) (n = n ∧ ∀ (k : Nat), k < n → x k = x k)
theorem q39b (w ht s v0 v1 d0 d1 r : Int) (n : Nat) (x : Nat → Int) (q0 q1 a b : Int) (i : Nat) (d : Nat) : VL true [] [] YS.none Try.f39 0 [0,1,2,3,4,6,7,8,9,10,11,12,13,14,18,23,32,46,54,64,68,76] [] 4 (lp39b w ht s v0 v1 d0 d1 r n x q0 q1 a b i) (d) = Rq39b w ht s v0 v1 d0 d1 r n x q0 q1 a b i d := by kernel_rfl
theorem peq39b (w ht s v0 v1 d0 d1 r : Int) (n : Nat) (x : Nat → Int) (q0 q1 a b : Int) (i : Nat) (d : Nat) : (lp39b w ht s v0 v1 d0 d1 r n x q0 q1 a b i).pre (d) = (d ≤ M.wid q0 q1 ∧ i < n ∧ n ≤ (256 : Nat) ∧ (1 : Int) ≤ q0 ∧ q0 ≤ q1 ∧ q1 ≤ (10 : Int)) := by kernel_rfl
theorem bq39b (w ht s v0 v1 d0 d1 r : Int) (n : Nat) (x : Nat → Int) (q0 q1 a b : Int) (i : Nat) (d : Nat) (hp : d ≤ M.wid q0 q1 ∧ i < n ∧ n ≤ (256 : Nat) ∧ (1 : Int) ≤ q0 ∧ q0 ≤ q1 ∧ q1 ≤ (10 : Int)) : Rq39b w ht s v0 v1 d0 d1 r n x q0 q1 a b i d := by
 unfold Rq39b
 dsimp -iota -proj -eta -zeta only
 obtain ⟨h1, h2, h3, hq⟩ := id hp
 have ew : ((M.wid q0 q1) : Int) = q1 - q0 + 1 := by unfold M.wid; omega
 have hw : (M.wid q0 q1) ≤ 10 := by omega
 have hb : i * (M.wid q0 q1) ≤ 256 * 10 := Nat.mul_le_mul (by omega) hw
 have es : (i + 1) * (M.wid q0 q1) = i * (M.wid q0 q1) + (M.wid q0 q1) := Nat.succ_mul _ _
 have e3 : ∀ k, d < (M.wid q0 q1) → k < i * (M.wid q0 q1) + d + 1 → (bif decide (k < i * (M.wid q0 q1) + d) then x (k / (M.wid q0 q1)) else x i) = x (k / (M.wid q0 q1)) ∧ (bif decide (k < i * (M.wid q0 q1) + d) then q0 + ((k % (M.wid q0 q1) : Nat) : Int) else q0 + (d : Int)) = q0 + ((k % (M.wid q0 q1) : Nat) : Int) := fun k hd hk => by
  by_cases d1 : k < i * (M.wid q0 q1) + d
  ·simp [d1]
  ·have : k = i * (M.wid q0 q1) + d := by omega
   subst this
   rw [M.so_div hd, M.so_mod hd]
   simp
 have r1 : R64 (q0 + (d : Int) + 1) := by unfold R64; omega
 simp only [es]
 by_cases hl : d < (M.wid q0 q1)
 ·have hl' : q0 + (d : Int) ≤ q1 := by omega
  generalize (M.wid q0 q1) = Z at *
  generalize i * Z = Y at *
  simp [hl', r1]
  repeat' apply And.intro
  all_goals first | omega | exact fun k hk => by simpa using e3 k hl (by omega) | skip
 ·have e : d = (M.wid q0 q1) := by omega
  have hl' : ¬ q0 + (d : Int) ≤ q1 := by omega
  simp [hl', e]
  omega
theorem t39b (w ht s v0 v1 d0 d1 r : Int) (n : Nat) (x : Nat → Int) (q0 q1 a b : Int) (i : Nat) {F : Fence} (hF : FOK F) (Y : YEnv PP YS.none) : ∀ Q A H nx, loopT false Try.f39.ntmps 0 (lp39b w ht s v0 v1 d0 d1 r n x q0 q1 a b i) (fun _ _ _ => (0 : Nat)) Q A H nx → WPS Y F Try.f39.ntmps 0 (.block 4 (blkAt 4 Try.f39)) Q A H nx :=
 loopW (E := []) (.nil) (O := []) (.nil) (ck := true) (L := [0,1,2,3,4,6,7,8,9,10,11,12,13,14,18,23,32,46,54,64,68,76]) (f := Try.f39) (m := 0) (id := 4) (l := (lp39b w ht s v0 v1 d0 d1 r n x q0 q1 a b i)) (LI := fun i => []) Y hF (by kernel_rfl) (fun _ => .nil) (by
  rintro d hp
  exact Hold.of (q39b w ht s v0 v1 d0 d1 r n x q0 q1 a b i d) (bq39b w ht s v0 v1 d0 d1 r n x q0 q1 a b i d ((peq39b w ht s v0 v1 d0 d1 r n x q0 q1 a b i d).mp hp)))
def lp39a (w ht s v0 v1 d0 d1 r : Int) (n : Nat) (x : Nat → Int) (q0 q1 a b : Int) : LoopS where
 ι := Nat
 β := Unit
 pre i := i ≤ n ∧ n ≤ 256 ∧ (1 ≤ q0 ∧ q0 ≤ q1 ∧ q1 ≤ 10)
 μ i := n - i
 next i _ _ _ := i + 1
 out _ := ()
 early _ := false
 SA i := [(1, .sl 1 n (fun k => [SI (x k)])), (6, .ptr 1 0), (7, .ptr 2 0), (12, .vec 3 5 0 (i * (M.wid q0 q1))), (13, SI i)]
 SH i := [(1, .cells [SI q0, SI q1]), (2, .cells [SI a, SI b]), (3, .row 5 (i * (M.wid q0 q1)) (fun k => [SI (M.soR x q0 q1 a b k).k, SI (M.soR x q0 q1 a b k).c, SI (M.soR x q0 q1 a b k).q, SI (M.soR x q0 q1 a b k).a, SI (M.soR x q0 q1 a b k).b]))]
 n0 := 4
 NA _ := [(12, .vec 0 5 0 (n * (M.wid q0 q1)))]
 NH _ := [(0, .row 5 (n * (M.wid q0 q1)) (fun k => [SI (M.soR x q0 q1 a b k).k, SI (M.soR x q0 q1 a b k).c, SI (M.soR x q0 q1 a b k).q, SI (M.soR x q0 q1 a b k).a, SI (M.soR x q0 q1 a b k).b]))]
 n1 := 1
 RA _ := []
 RH _ := []
def Rq39a (w ht s v0 v1 d0 d1 r : Int) (n : Nat) (x : Nat → Int) (q0 q1 a b : Int) (i : Nat) : Prop := (fun (z4 z5 : Int) (z0 z1 z3 : Nat) (z6 : Prop) => (fun (z2 : Prop) => (decide (z4 < (↑n : Int)) = true → (z3 ≤ z0 ∧ i < n ∧ z2) ∧ (z6 ∧ z3 = z3 ∧ i * z0 = i * z0 + z3 ∧ q0 = q0 + (↑z3 : Int) ∧ z4 = z4 ∧ q0 = q0 ∧ q1 = q1 ∧ a = a ∧ b = b ∧ i * z0 + z3 ≤ i * z0 ∧ (∀ (k : Nat), k < i * z0 + z3 → z5 = z5 ∧ x (k / z0) = x (k / z0) ∧ q0 + (↑(k % z0) : Int) = q0 + (↑(k % z0) : Int) ∧ a = a ∧ b = b) ∧ True) ∧ (false = false → R64 (z4 + z5) ∧ (z1 ≤ n ∧ z2) ∧ n - z1 < n - i ∧ () = () ∧ z6 ∧ z3 = z3 ∧ z1 * z0 = z1 * z0 ∧ z4 + z5 = (↑z1 : Int) ∧ q0 = q0 ∧ q1 = q1 ∧ a = a ∧ b = b ∧ z1 * z0 ≤ z1 * z0 ∧ (∀ (k : Nat), k < z1 * z0 → z5 = z5 ∧ x (k / z0) = x (k / z0) ∧ q0 + (↑(k % z0) : Int) = q0 + (↑(k % z0) : Int) ∧ a = a ∧ b = b) ∧ True) ∧ (false = true → false = true ∧ True)) ∧ (decide (z4 < (↑n : Int)) = false → false = false ∧ z3 = z3 ∧ i * z0 = n * z0 ∧ n * z0 ≤ i * z0 ∧ (∀ (k : Nat), k < n * z0 → z5 = z5 ∧ x (k / z0) = x (k / z0) ∧ q0 + (↑(k % z0) : Int) = q0 + (↑(k % z0) : Int) ∧ a = a ∧ b = b) ∧ True)) (n ≤ (256 : Nat) ∧ z5 ≤ q0 ∧ q0 ≤ q1 ∧ q1 ≤ (10 : Int))) (↑i : Int) (1 : Int) (M.wid q0 q1) (i + (1 : Nat)) (0 : Nat) (n = n ∧ ∀ (k : Nat), k < n → x k = x k)
theorem q39a (w ht s v0 v1 d0 d1 r : Int) (n : Nat) (x : Nat → Int) (q0 q1 a b : Int) (i : Nat) : VL true [] [] YS.none Try.f39 0 [0,1,2,3,4,6,7,8,9,10,11,12,13,14,18,23,32,46,54,64,68,76] [(4, loopT false Try.f39.ntmps 0 (lp39b w ht s v0 v1 d0 d1 r n x q0 q1 a b i) (fun _ _ _ => (0 : Nat)))] 2 (lp39a w ht s v0 v1 d0 d1 r n x q0 q1 a b) (i) = Rq39a w ht s v0 v1 d0 d1 r n x q0 q1 a b i := by kernel_rfl
theorem peq39a (w ht s v0 v1 d0 d1 r : Int) (n : Nat) (x : Nat → Int) (q0 q1 a b : Int) (i : Nat) : (lp39a w ht s v0 v1 d0 d1 r n x q0 q1 a b).pre (i) = (i ≤ n ∧ n ≤ (256 : Nat) ∧ (1 : Int) ≤ q0 ∧ q0 ≤ q1 ∧ q1 ≤ (10 : Int)) := by kernel_rfl
theorem bq39a (w ht s v0 v1 d0 d1 r : Int) (n : Nat) (x : Nat → Int) (q0 q1 a b : Int) (i : Nat) (hp : i ≤ n ∧ n ≤ (256 : Nat) ∧ (1 : Int) ≤ q0 ∧ q0 ≤ q1 ∧ q1 ≤ (10 : Int)) : Rq39a w ht s v0 v1 d0 d1 r n x q0 q1 a b i := by
 unfold Rq39a
 dsimp -iota -proj -eta -zeta only
 obtain ⟨h1, h2, hq⟩ := id hp
 have r1 : R64 ((i : Int) + 1) := by unfold R64; omega
 simp only [Int.toNat_natCast, r1]
 by_cases hl : i < n
 ·have hl' : (i : Int) < n := by omega
  simp [hl, hl', h2, hq]
  try omega
 ·have e : i = n := by omega
  subst e
  simp
theorem t39a (w ht s v0 v1 d0 d1 r : Int) (n : Nat) (x : Nat → Int) (q0 q1 a b : Int) {F : Fence} (hF : FOK F) (Y : YEnv PP YS.none) : ∀ Q A H nx, loopT false Try.f39.ntmps 0 (lp39a w ht s v0 v1 d0 d1 r n x q0 q1 a b) (fun _ _ _ => (0 : Nat)) Q A H nx → WPS Y F Try.f39.ntmps 0 (.block 2 (blkAt 2 Try.f39)) Q A H nx :=
 loopW (E := []) (.nil) (O := []) (.nil) (ck := true) (L := [0,1,2,3,4,6,7,8,9,10,11,12,13,14,18,23,32,46,54,64,68,76]) (f := Try.f39) (m := 0) (id := 2) (l := (lp39a w ht s v0 v1 d0 d1 r n x q0 q1 a b)) (LI := fun (i : Nat) => [(4, loopT false Try.f39.ntmps 0 (lp39b w ht s v0 v1 d0 d1 r n x q0 q1 a b i) (fun _ _ _ => (0 : Nat)))]) Y hF (by kernel_rfl) (fun (i : Nat) => .cons (by kernel_rfl) (t39b w ht s v0 v1 d0 d1 r n x q0 q1 a b i hF Y) (.nil)) (by
  rintro i hp
  exact Hold.of (q39a w ht s v0 v1 d0 d1 r n x q0 q1 a b i) (bq39a w ht s v0 v1 d0 d1 r n x q0 q1 a b i ((peq39a w ht s v0 v1 d0 d1 r n x q0 q1 a b i).mp hp)))
def e39 : List SV → Option (List Prop × SV)
 | [.agg [.int .i64 w, .int .i64 ht, .int .i64 s, .int .i64 v0, .int .i64 v1, .int .i64 d0, .int .i64 d1, .int .i64 r], .sl 1 n g_1, .agg [.int .i64 q0, .int .i64 q1], .agg [.int .i64 a, .int .i64 b]] => some ([Row 1 n g_1, n ≤ 100000], .tup [.sl 5 (if M.Gd.soE (M.Gd.mk w ht s v0 v1 d0 d1 r) n (cI g_1 0) q0 q1 a b = 0 then n * (M.wid q0 q1) else 0) (fun k => [SI (M.soR (cI g_1 0) q0 q1 a b k).k, SI (M.soR (cI g_1 0) q0 q1 a b k).c, SI (M.soR (cI g_1 0) q0 q1 a b k).q, SI (M.soR (cI g_1 0) q0 q1 a b k).a, SI (M.soR (cI g_1 0) q0 q1 a b k).b]), SI (M.Gd.soE (M.Gd.mk w ht s v0 v1 d0 d1 r) n (cI g_1 0) q0 q1 a b)])
 | _ => none
def Rr39 (w ht s v0 v1 d0 d1 r : Int) (n : Nat) (x : Nat → Int) (q0 q1 a b : Int) : Prop := (fun (z1 : Bool) (z7 z10 : Int) (z3 : M.Gd) (z4 z6 : Nat) (z9 : Prop) => (fun (z5 : Bool) (z0 z8 : Int) (z11 : Prop) => (fun (z2 : Nat) => ((!decide (M.Gd.er z3 = z10)) = true → z2 = z4 ∧ M.Gd.er z3 = z0) ∧ ((!decide (M.Gd.er z3 = z10)) = false → (z4 ≤ n ∧ n ≤ (100000 : Nat) ∧ M.Gd.ok z3) ∧ (z9 ∧ z10 = (↑z4 : Int) ∧ w = w ∧ ht = ht ∧ s = s ∧ v0 = v0 ∧ v1 = v1 ∧ d0 = d0 ∧ d1 = d1 ∧ r = r ∧ q0 = q0 ∧ q1 = q1 ∧ a = a ∧ b = b ∧ True) ∧ (decide (z8 ≠ z10) = false → (z11 → z11) ∧ (z11 → z11) ∧ (z1 = false → z11) ∧ (z5 = true → z2 = z4 ∧ (3 : Int) = z0) ∧ (z5 = false → R64 (q1 - q0) ∧ R64 (q1 - q0 + (1 : Int)) ∧ R64 z7 ∧ (decide ((256 : Int) < z7) = true → z2 = z4 ∧ (9 : Int) = z0) ∧ (decide ((256 : Int) < z7) = false → (z4 ≤ n ∧ n ≤ (256 : Nat) ∧ (1 : Int) ≤ q0 ∧ q0 ≤ q1 ∧ q1 ≤ (10 : Int)) ∧ (z9 ∧ z4 * z6 = z4 ∧ z10 = (↑z4 : Int) ∧ q0 = q0 ∧ q1 = q1 ∧ a = a ∧ b = b ∧ z4 * z6 = z4 ∧ True) ∧ (false = false → z4 + n * z6 ≤ n * z6 ∧ ((n * z6 = z2) ∧ ∀ (k : Nat), k < n * z6 → (1 : Int) = (1 : Int) ∧ x ((z4 + k) / z6) = x (k / z6) ∧ q0 + (↑((z4 + k) % z6) : Int) = q0 + (↑(k % z6) : Int) ∧ a = a ∧ b = b) ∧ z10 = z0) ∧ (false = true → False)))) ∧ (decide (z8 ≠ z10) = true → z2 = z4 ∧ z8 = z0))) (if z0 = z10 then n * z6 else z4)) (bif z1 then true else !decide (z10 ≤ a ∧ a ≤ b ∧ b ≤ (1000000000 : Int))) (M.Gd.soE z3 n x q0 q1 a b) (M.fe (M.Gd.ceE z3 x) (n - z4) z4) ((!z1) = true)) (!decide ((1 : Int) ≤ q0 ∧ q0 ≤ q1 ∧ q1 ≤ (10 : Int))) ((↑n : Int) * (q1 - q0 + (1 : Int))) (0 : Int) (M.Gd.mk w ht s v0 v1 d0 d1 r) (0 : Nat) (M.wid q0 q1) (n = n ∧ ∀ (k : Nat), k < n → x k = x k)
theorem r39 (w ht s v0 v1 d0 d1 r : Int) (n : Nat) (x : Nat → Int) (q0 q1 a b : Int) : V true [] [(29, pureE e29), (72, pureE e72)] Try.f39 [0,1,2,3,4,6,7,8,9,10,11,12,13,14,18,23,32,46,54,64,68,76] [(0, loopT false Try.f39.ntmps 0 (lp39 w ht s v0 v1 d0 d1 r n x q0 q1 a b) (fun _ _ _ => (0 : Nat))), (2, loopT false Try.f39.ntmps 0 (lp39a w ht s v0 v1 d0 d1 r n x q0 q1 a b) (fun _ _ _ => (0 : Nat)))] [.agg [SI w, SI ht, SI s, SI v0, SI v1, SI d0, SI d1, SI r], .sl 1 n (fun k => [SI (x k)]), .agg [SI q0, SI q1], .agg [SI a, SI b]] (.tup [.sl 5 (if M.Gd.soE (M.Gd.mk w ht s v0 v1 d0 d1 r) n x q0 q1 a b = 0 then n * (M.wid q0 q1) else 0) (fun k => [SI (M.soR x q0 q1 a b k).k, SI (M.soR x q0 q1 a b k).c, SI (M.soR x q0 q1 a b k).q, SI (M.soR x q0 q1 a b k).a, SI (M.soR x q0 q1 a b k).b]), SI (M.Gd.soE (M.Gd.mk w ht s v0 v1 d0 d1 r) n x q0 q1 a b)]) = Rr39 w ht s v0 v1 d0 d1 r n x q0 q1 a b := by kernel_rfl
theorem br39 (w ht s v0 v1 d0 d1 r : Int) (n : Nat) (x : Nat → Int) (q0 q1 a b : Int) (hp : (n ≤ 100000) ∧ AllP []) : Rr39 w ht s v0 v1 d0 d1 r n x q0 q1 a b := by
 unfold Rr39
 dsimp -iota -proj -eta -zeta only
 obtain ⟨h1, -⟩ := id hp
 unfold M.Gd.er M.Gd.soE
 by_cases hk : M.Gd.ok (M.Gd.mk w ht s v0 v1 d0 d1 r)
 ·by_cases c1 : M.fe (M.Gd.ceE (M.Gd.mk w ht s v0 v1 d0 d1 r) x) n 0 = 0
  ·by_cases c2 : 1 ≤ q0 ∧ q0 ≤ q1 ∧ q1 ≤ 10
   ·by_cases c3 : 0 ≤ a ∧ a ≤ b ∧ b ≤ 1000000000
    ·have ew : ((M.wid q0 q1) : Int) = q1 - q0 + 1 := by unfold M.wid; omega
     have hb : n * (M.wid q0 q1) ≤ 100000 * 10 := Nat.mul_le_mul h1 (by omega)
     have hb2 : n * 1 ≤ n * (M.wid q0 q1) := Nat.mul_le_mul (Nat.le_refl n) (by omega)
     have em : (n : Int) * (q1 - q0 + 1) = ((n * (M.wid q0 q1) : Nat) : Int) := by rw [Int.natCast_mul, ew]
     have r1 : R64 (q1 - q0) := by unfold R64; omega
     have r2 : R64 (q1 - q0 + 1) := by unfold R64; omega
     have r3 : R64 (((n * (M.wid q0 q1) : Nat) : Int)) := by unfold R64; omega
     simp only [em]
     generalize n * (M.wid q0 q1) = Z at *
     by_cases c4 : (256 : Int) < Z
     ·simp [hk, c1, c2, c3, r1, r2, r3, c4, h1]
     ·have hn : n ≤ 256 := by omega
      simp [hk, c1, c2, c3, r1, r2, r3, c4, h1, hn]
    ·simp [hk, c1, c2, c3, h1]
   ·simp [hk, c1, c2, h1]
  ·simp [hk, c1, h1]
 ·simp [hk]
theorem s39 : PureOK PP 39 e39 := by
 intro xs ps res h hp
 unfold e39 at h
 split at h
 ·rename_i w ht s v0 v1 d0 d1 r n g_1 q0 q1 a b
  cases h
  simp only [AllP.cons] at hp
  obtain ⟨Hg_1, hp⟩ := hp
  exact Spec.args (enterH (Hold.of (r39 w ht s v0 v1 d0 d1 r n (cI g_1 0) q0 q1 a b) (br39 w ht s v0 v1 d0 d1 r n (cI g_1 0) q0 q1 a b hp)) (.nil) (.cons (pureE_ok s29) (.cons (pureE_ok s72) (.nil))) (k := 39) (by kernel_rfl) (by kernel_rfl) (fun Y => .cons (by kernel_rfl) (t39 w ht s v0 v1 d0 d1 r n (cI g_1 0) q0 q1 a b FOK.wide Y) (.cons (by kernel_rfl) (t39a w ht s v0 v1 d0 d1 r n (cI g_1 0) q0 q1 a b FOK.wide Y) (.nil)))) (.cons (.refl _) (.cons (.row Hg_1 fun _ => rfl) (.cons (.refl _) (.cons (.refl _) .nil))))
 ·cases h
def e11 : List SV → Option (List Prop × SV)
 | [.agg [.int .i64 w, .int .i64 ht, .int .i64 s, .int .i64 v0, .int .i64 v1, .int .i64 d0, .int .i64 d1, .int .i64 r], .sl 1 nx g_1, .agg [.int .i64 q0, .int .i64 q1], .agg [.int .i64 a, .int .i64 b], .sl 5 n g_2] => some ([Row 1 nx g_1, Row 5 n g_2], .bool true)
 | _ => none
def Rr11 (w ht s v0 v1 d0 d1 r : Int) (nx : Nat) (x : Nat → Int) (q0 q1 a b : Int) (n : Nat) (sk sc sq sa sb : Nat → Int) : Prop := (fun (z4 : Bool) (z2 : Int) (z3 z9 : Nat) (z12 : Prop) => (fun (z0 z10 : Bool) (z1 z5 z11 : Prop) => (fun (z8 : Bool) (z6 z7 : Prop) => (z11 → z11) ∧ (z11 → z11) ∧ (z4 = false → z11) ∧ (z10 = true → true = true) ∧ (z10 = false → z12 ∧ nx ≤ z9 ∧ z12 ∧ nx ≤ z9 ∧ z5 ∧ z5 ∧ z3 ≤ z9 ∧ z3 ≤ z9 ∧ (z1 → z1) ∧ (z1 → z1) ∧ (z1 → z1) ∧ z6 ∧ z6 ∧ z7 ∧ (z0 = true → n ≤ z9) ∧ z6 ∧ z6 ∧ z7 ∧ (z0 = true → n ≤ z9) ∧ z6 ∧ z6 ∧ z6 ∧ (z8 = true → z8 = true) ∧ (bif z8 then true else false) = true)) (bif z0 then decide (z2 = z2) else false) (z0 = true → z0 = true) (z0 = true → ∀ (k : Nat), k < n → sk k = sk k ∧ sc k = sc k ∧ sq k = sq k ∧ sa k = sa k ∧ sb k = sb k)) (bif M.same z3 z3 (fun i => M.Sc.mk (1 : Int) (x (i / M.wid q0 q1)) (q0 + (↑(i % M.wid q0 q1) : Int)) a b) fun i => M.Sc.mk (1 : Int) (x (i / M.wid q0 q1)) (q0 + (↑(i % M.wid q0 q1) : Int)) a b then decide (M.Gd.soE (M.Gd.mk w ht s v0 v1 d0 d1 r) nx x q0 q1 a b = M.Gd.soE (M.Gd.mk w ht s v0 v1 d0 d1 r) nx x q0 q1 a b) else false) (bif z4 then true else decide ((300 : Int) < (↑n : Int))) ((M.same z3 z3 (fun i => M.Sc.mk (1 : Int) (x (i / M.wid q0 q1)) (q0 + (↑(i % M.wid q0 q1) : Int)) a b) fun i => M.Sc.mk (1 : Int) (x (i / M.wid q0 q1)) (q0 + (↑(i % M.wid q0 q1) : Int)) a b) = true) (∀ (k : Nat), (k < z3) → (1 : Int) = (1 : Int) ∧ x (k / M.wid q0 q1) = x (k / M.wid q0 q1) ∧ q0 + (↑(k % M.wid q0 q1) : Int) = q0 + (↑(k % M.wid q0 q1) : Int) ∧ a = a ∧ b = b) ((!z4) = true)) (decide ((600 : Int) < (↑nx : Int))) (M.Gd.csE (M.Gd.mk w ht s v0 v1 d0 d1 r) n fun i => M.Sc.mk (sk i) (sc i) (sq i) (sa i) (sb i)) (if M.Gd.soE (M.Gd.mk w ht s v0 v1 d0 d1 r) nx x q0 q1 a b = (0 : Int) then nx * M.wid q0 q1 else (0 : Nat)) (100000 : Nat) (∀ (k : Nat), k < nx → x k = x k)
theorem r11 (w ht s v0 v1 d0 d1 r : Int) (nx : Nat) (x : Nat → Int) (q0 q1 a b : Int) (n : Nat) (sk sc sq sa sb : Nat → Int) : V true [] [(17, pureE e17), (21, pureE e21), (38, pureE e38), (39, pureE e39), (40, pureE e40), (41, pureE e41)] Try.f11 [0,1,2,3,4,5,7,8,10,11,12,13,14,15,23] [] [.agg [SI w, SI ht, SI s, SI v0, SI v1, SI d0, SI d1, SI r], .sl 1 nx (fun k => [SI (x k)]), .agg [SI q0, SI q1], .agg [SI a, SI b], .sl 5 n (fun k => [SI (sk k), SI (sc k), SI (sq k), SI (sa k), SI (sb k)])] (.bool true) = Rr11 w ht s v0 v1 d0 d1 r nx x q0 q1 a b n sk sc sq sa sb := by kernel_rfl
theorem br11 (w ht s v0 v1 d0 d1 r : Int) (nx : Nat) (x : Nat → Int) (q0 q1 a b : Int) (n : Nat) (sk sc sq sa sb : Nat → Int)  : Rr11 w ht s v0 v1 d0 d1 r nx x q0 q1 a b n sk sc sq sa sb := by
 unfold Rr11
 dsimp -iota -proj -eta -zeta only
 have hw : M.Gd.soE (M.Gd.mk w ht s v0 v1 d0 d1 r) nx x q0 q1 a b = 0 → nx * (M.wid q0 q1) ≤ 256 := fun h => by
  have h := id h
  unfold M.Gd.soE at h
  split at h
  ·split at h
   ·split at h
    ·rename_i c
     split at h
     ·omega
     ·rename_i c4
      have ew : ((M.wid q0 q1) : Int) = q1 - q0 + 1 := by unfold M.wid; omega
      rw [← ew, ← Int.natCast_mul] at c4
      omega
    ·omega
   ·rename_i c; exact absurd h c
  ·omega
 by_cases h : nx ≤ 600 ∧ n ≤ 300
 ·obtain ⟨h1, h2⟩ := id h
  have h1' : ¬ (600 : Int) < nx := by omega
  have h2' : ¬ (300 : Int) < n := by omega
  simp [h1, h2, h1', h2', same_self]
  refine ⟨by omega, ?_, by omega⟩
  split
  ·rename_i c; have := hw c; omega
  ·omega
 ·by_cases h1 : nx ≤ 600
  ·have h2 : ¬ n ≤ 300 := fun g => h ⟨h1, g⟩
   have h1' : ¬ (600 : Int) < nx := by omega
   have h2' : (300 : Int) < n := by omega
   simp [h1', h2']
  ·have h1' : (600 : Int) < nx := by omega
   simp [h1']
theorem s11 : PureOK PP 11 e11 := by
 intro xs ps res h hp
 unfold e11 at h
 split at h
 ·rename_i w ht s v0 v1 d0 d1 r nx g_1 q0 q1 a b n g_2
  cases h
  simp only [AllP.cons] at hp
  obtain ⟨Hg_1, Hg_2, hp⟩ := hp
  exact Spec.args (enterH (Hold.of (r11 w ht s v0 v1 d0 d1 r nx (cI g_1 0) q0 q1 a b n (cI g_2 0) (cI g_2 1) (cI g_2 2) (cI g_2 3) (cI g_2 4)) (br11 w ht s v0 v1 d0 d1 r nx (cI g_1 0) q0 q1 a b n (cI g_2 0) (cI g_2 1) (cI g_2 2) (cI g_2 3) (cI g_2 4) )) (.nil) (.cons (pureE_ok s17) (.cons (pureE_ok s21) (.cons (pureE_ok s38) (.cons (pureE_ok s39) (.cons (pureE_ok s40) (.cons (pureE_ok s41) (.nil))))))) (k := 11) (by kernel_rfl) (by kernel_rfl) (fun _ => .nil)) (.cons (.refl _) (.cons (.row Hg_1 fun _ => rfl) (.cons (.refl _) (.cons (.refl _) (.cons (.row Hg_2 fun _ => rfl) .nil)))))
 ·cases h
end Go.Proofs.Ytoncoofmijjgeaa.Sep
