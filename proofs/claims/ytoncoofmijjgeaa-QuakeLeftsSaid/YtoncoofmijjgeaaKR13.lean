/-
  Texts of one seat, joined. No condition. (This text proves no statement by itself.)
-/
import Derived.Test.YtoncoofmijjgeaaKR10
namespace Go.Proofs.Ytoncoofmijjgeaa.Sep
open Go
set_option linter.unusedVariables false
set_option linter.unusedSimpArgs false
def e5 : List SV → Option (List Prop × SV)
 | [.agg [.int .i64 w, .int .i64 ht, .int .i64 s, .int .i64 v0, .int .i64 v1, .int .i64 d0, .int .i64 d1, .int .i64 r], .int .i64 c, .int .i64 a, .int .i64 b] => some ([], .bool true)
 | _ => none
def Rr5 (w ht s v0 v1 d0 d1 r : Int) (c a b : Int) : Prop := (fun (z2 : M.Gd) => (fun (z0 : Bool) (z4 : Prop) => (fun (z1 : Bool) (z3 z6 : Prop) => (fun (z5 : Bool) (z7 : Prop) => (z4 → z4) ∧ (z4 → z4) ∧ (z4 → z4) ∧ z6 ∧ z6 ∧ z6 ∧ (z3 → z3) ∧ (z3 → z3) ∧ (z3 → z3) ∧ z7 ∧ z7 ∧ z7 ∧ (z5 = true → z5 = true) ∧ (bif z5 then true else false) = true) (bif z1 then decide (M.Gd.stE z2 c a b = M.Gd.stE z2 c a b) else false) (z1 = true → z1 = true)) (bif bif z0 then decide (M.Gd.kn2 z2 a b = M.Gd.kn2 z2 a b) else false then decide ((if M.Gd.stE z2 c a b = (0 : Int) then M.Gd.S0 z2 c a b else (0 : Int)) = if M.Gd.stE z2 c a b = (0 : Int) then M.Gd.S0 z2 c a b else (0 : Int)) && (decide ((if M.Gd.stE z2 c a b = (0 : Int) then M.Gd.S1 z2 c a b else (0 : Int)) = if M.Gd.stE z2 c a b = (0 : Int) then M.Gd.S1 z2 c a b else (0 : Int)) && true) else false) ((bif z0 then decide (M.Gd.kn2 z2 a b = M.Gd.kn2 z2 a b) else false) = true) (z0 = true → z0 = true)) (bif decide (M.Gd.er z2 = M.Gd.er z2) then decide ((if M.Gd.kn2 z2 a b = (0 : Int) then M.Gd.T0 z2 a b else (0 : Int)) = if M.Gd.kn2 z2 a b = (0 : Int) then M.Gd.T0 z2 a b else (0 : Int)) && (decide ((if M.Gd.kn2 z2 a b = (0 : Int) then M.Gd.T1 z2 a b else (0 : Int)) = if M.Gd.kn2 z2 a b = (0 : Int) then M.Gd.T1 z2 a b else (0 : Int)) && true) else false) (decide (M.Gd.er z2 = M.Gd.er z2) = true)) (M.Gd.mk w ht s v0 v1 d0 d1 r)
theorem r5 (w ht s v0 v1 d0 d1 r : Int) (c a b : Int) : V true eqs [(24, pureE e24), (25, pureE e25), (26, pureE e26), (27, pureE e27), (28, pureE e28), (29, pureE e29), (17, pureE e17)] Try.f5 [0,1,2,3,4,8,9,10,11,12,13,14,15,16,17] [] [.agg [SI w, SI ht, SI s, SI v0, SI v1, SI d0, SI d1, SI r], SI c, SI a, SI b] (.bool true) = Rr5 w ht s v0 v1 d0 d1 r c a b := by kernel_rfl
theorem br5 (w ht s v0 v1 d0 d1 r : Int) (c a b : Int)  : Rr5 w ht s v0 v1 d0 d1 r c a b := by
 unfold Rr5
 dsimp -iota -proj -eta -zeta only
 simp
theorem s5 : PureOK PP 5 e5 := by
 intro xs ps res h hp
 unfold e5 at h
 split at h
 ·rename_i w ht s v0 v1 d0 d1 r c a b
  cases h
  clear hp
  exact enterH (Hold.of (r5 w ht s v0 v1 d0 d1 r c a b) (br5 w ht s v0 v1 d0 d1 r c a b )) (eqsok) (.cons (pureE_ok s24) (.cons (pureE_ok s25) (.cons (pureE_ok s26) (.cons (pureE_ok s27) (.cons (pureE_ok s28) (.cons (pureE_ok s29) (.cons (pureE_ok s17) (.nil)))))))) (k := 5) (by kernel_rfl) (by kernel_rfl) (fun _ => .nil)
 ·cases h
def lp20 (m : Nat) (pk ps pa pb pc pd : Nat → Int) : LoopS where
 ι := Nat
 β := Unit
 pre i := i ≤ m ∧ m ≤ 1000
 μ i := m - i
 next i _ _ _ := i + 1
 out _ := ()
 early _ := false
 SA i := [(0, .sl 6 m (fun j => [SI (pk j), SI (ps j), SI (pa j), SI (pb j), SI (pc j), SI (pd j)])), (3, .vec 0 6 0 i), (4, SI i)]
 SH i := [(0, .row 6 i (fun j => [SI (pk j), SI (ps j), SI (pa j), SI (pb j), SI (pc j), SI (pd j)]))]
 n0 := 1
 NA _ := [(3, .vec 0 6 0 m)]
 NH _ := [(0, .row 6 m (fun j => [SI (pk j), SI (ps j), SI (pa j), SI (pb j), SI (pc j), SI (pd j)]))]
 n1 := 1
 RA _ := []
 RH _ := []
def Rq20 (m : Nat) (pk ps pa pb pc pd : Nat → Int) (i : Nat) : Prop := (fun (z3 : Int) (z2 : Nat) (z1 : Prop) => (fun (z0 : Nat) => (decide (z3 < (↑m : Int)) = true → (0 : Int) ≤ z3 ∧ z3 < (↑m : Int) ∧ z0 < m ∧ (0 : Nat) + (1 : Nat) ≤ (1 : Nat) ∧ (∀ (k : Nat), k < (1 : Nat) → true = true) ∧ i ≤ i ∧ z2 * (48 : Nat) ≤ (140737488355328 : Nat) ∧ R64 (z3 + (1 : Int)) ∧ (z2 ≤ m ∧ m ≤ (1000 : Nat)) ∧ m - z2 < m - i ∧ () = () ∧ (m = m ∧ z1) ∧ (0 : Nat) = (0 : Nat) ∧ z2 = z2 ∧ z3 + (1 : Int) = (↑z2 : Int) ∧ z2 ≤ z2 ∧ (∀ (k : Nat), k < z2 → (bif decide (k < i) then pk k else pk z0) = pk k ∧ (bif decide (k < i) then ps k else ps z0) = ps k ∧ (bif decide (k < i) then pa k else pa z0) = pa k ∧ (bif decide (k < i) then pb k else pb z0) = pb k ∧ (bif decide (k < i) then pc k else pc z0) = pc k ∧ (bif decide (k < i) then pd k else pd z0) = pd k) ∧ True) ∧ (decide (z3 < (↑m : Int)) = false → false = false ∧ (0 : Nat) = (0 : Nat) ∧ i = m ∧ m ≤ i ∧ z1 ∧ True)) (Int.toNat z3)) (↑i : Int) (i + (1 : Nat)) (∀ (k : Nat), k < m → pk k = pk k ∧ ps k = ps k ∧ pa k = pa k ∧ pb k = pb k ∧ pc k = pc k ∧ pd k = pd k)
theorem q20 (m : Nat) (pk ps pa pb pc pd : Nat → Int) (i : Nat) : VL true [] [] YS.none Try.f20 0 [0,2,3,4,8] [] 0 (lp20 m pk ps pa pb pc pd) (i) = Rq20 m pk ps pa pb pc pd i := by kernel_rfl
theorem peq20 (m : Nat) (pk ps pa pb pc pd : Nat → Int) (i : Nat) : (lp20 m pk ps pa pb pc pd).pre (i) = (i ≤ m ∧ m ≤ (1000 : Nat)) := by kernel_rfl
theorem bq20 (m : Nat) (pk ps pa pb pc pd : Nat → Int) (i : Nat) (hp : i ≤ m ∧ m ≤ (1000 : Nat)) : Rq20 m pk ps pa pb pc pd i := by
 unfold Rq20
 dsimp -iota -proj -eta -zeta only
 obtain ⟨h1, h2⟩ := id hp
 have r1 : R64 ((i : Int) + 1) := by unfold R64; omega
 by_cases hl : i < m
 ·have hl' : (i : Int) < m := by omega
  have e3 : ∀ (q : Nat → Int) k, k < i + 1 → (bif decide (k < i) then q k else q i) = q k := fun q k hk2 => by
   by_cases d1 : k < i
   ·simp [d1]
   ·have : k = i := by omega
    subst this; simp
  simp [hl, hl', r1]
  repeat' apply And.intro
  all_goals first | omega | exact fun k hk2 => by simpa using e3 _ k hk2 | exact fun k hk2 => ⟨by simpa using e3 _ k hk2, by simpa using e3 _ k hk2, by simpa using e3 _ k hk2, by simpa using e3 _ k hk2, by simpa using e3 _ k hk2, by simpa using e3 _ k hk2⟩
 ·have e : i = m := by omega
  subst e
  simp
theorem t20 (m : Nat) (pk ps pa pb pc pd : Nat → Int) {F : Fence} (hF : FOK F) (Y : YEnv PP YS.none) : ∀ Q A H nx, loopT false Try.f20.ntmps 0 (lp20 m pk ps pa pb pc pd) (fun _ _ _ => (0 : Nat)) Q A H nx → WPS Y F Try.f20.ntmps 0 (.block 0 (blkAt 0 Try.f20)) Q A H nx :=
 loopW (E := []) (.nil) (O := []) (.nil) (ck := true) (L := [0,2,3,4,8]) (f := Try.f20) (m := 0) (id := 0) (l := (lp20 m pk ps pa pb pc pd)) (LI := fun i => []) Y hF (by kernel_rfl) (fun _ => .nil) (by
  rintro i hp
  exact Hold.of (q20 m pk ps pa pb pc pd i) (bq20 m pk ps pa pb pc pd i ((peq20 m pk ps pa pb pc pd i).mp hp)))
def e20 : List SV → Option (List Prop × SV)
 | [.sl 6 m g_1] => some ([Row 6 m g_1, m ≤ 1000], .sl 6 m (fun j => [SI ((cI g_1 0) j), SI ((cI g_1 1) j), SI ((cI g_1 2) j), SI ((cI g_1 3) j), SI ((cI g_1 4) j), SI ((cI g_1 5) j)]))
 | _ => none
def Rr20 (m : Nat) (pk ps pa pb pc pd : Nat → Int) : Prop := (fun (z0 : Nat) => (z0 ≤ m ∧ m ≤ (1000 : Nat)) ∧ ((m = m ∧ ∀ (k : Nat), k < m → pk k = pk k ∧ ps k = ps k ∧ pa k = pa k ∧ pb k = pb k ∧ pc k = pc k ∧ pd k = pd k) ∧ z0 = z0 ∧ (0 : Int) = (↑z0 : Int) ∧ z0 = z0 ∧ True) ∧ (false = false → z0 + m ≤ m ∧ m = m ∧ ∀ (k : Nat), k < m → pk (z0 + k) = pk k ∧ ps (z0 + k) = ps k ∧ pa (z0 + k) = pa k ∧ pb (z0 + k) = pb k ∧ pc (z0 + k) = pc k ∧ pd (z0 + k) = pd k) ∧ (false = true → False)) (0 : Nat)
theorem r20 (m : Nat) (pk ps pa pb pc pd : Nat → Int) : V true [] [] Try.f20 [0,2,3,4,8] [(0, loopT false Try.f20.ntmps 0 (lp20 m pk ps pa pb pc pd) (fun _ _ _ => (0 : Nat)))] [.sl 6 m (fun k => [SI (pk k), SI (ps k), SI (pa k), SI (pb k), SI (pc k), SI (pd k)])] (.sl 6 m (fun j => [SI (pk j), SI (ps j), SI (pa j), SI (pb j), SI (pc j), SI (pd j)])) = Rr20 m pk ps pa pb pc pd := by kernel_rfl
theorem br20 (m : Nat) (pk ps pa pb pc pd : Nat → Int) (hp : (m ≤ 1000) ∧ AllP []) : Rr20 m pk ps pa pb pc pd := by
 unfold Rr20
 dsimp -iota -proj -eta -zeta only
 obtain ⟨h1, -⟩ := id hp
 simp [h1]
theorem s20 : PureOK PP 20 e20 := by
 intro xs ps res h hp
 unfold e20 at h
 split at h
 ·rename_i m g_1
  cases h
  simp only [AllP.cons] at hp
  obtain ⟨Hg_1, hp⟩ := hp
  exact Spec.args (enterH (Hold.of (r20 m (cI g_1 0) (cI g_1 1) (cI g_1 2) (cI g_1 3) (cI g_1 4) (cI g_1 5)) (br20 m (cI g_1 0) (cI g_1 1) (cI g_1 2) (cI g_1 3) (cI g_1 4) (cI g_1 5) hp)) (.nil) (.nil) (k := 20) (by kernel_rfl) (by kernel_rfl) (fun Y => .cons (by kernel_rfl) (t20 m (cI g_1 0) (cI g_1 1) (cI g_1 2) (cI g_1 3) (cI g_1 4) (cI g_1 5) FOK.wide Y) (.nil))) (.cons (.row Hg_1 fun _ => rfl) .nil)
 ·cases h
theorem same_self {n : Nat} {s : Nat → M.Sc} : M.same n n s s = true := M.same_iff.2 ⟨rfl, fun _ _ => rfl⟩
def e3 : List SV → Option (List Prop × SV)
 | [.agg [.int .i64 w, .int .i64 ht, .int .i64 s, .int .i64 v0, .int .i64 v1, .int .i64 d0, .int .i64 d1, .int .i64 r], .sl 1 ns g_1, .sl 5 n g_2, .sl 6 m g_3, .int .i64 f] => some ([Row 1 ns g_1, Row 5 n g_2, Row 6 m g_3], .bool true)
 | _ => none
def Rr3 (w ht s v0 v1 d0 d1 r : Int) (ns : Nat) (x : Nat → Int) (n : Nat) (sk sc sq sa sb : Nat → Int) (m : Nat) (pk ps pa pb pc pd : Nat → Int) (f : Int) : Prop := (fun (z7 : Bool) (z2 : Int) (z8 : Nat) (z1 : Nat → M.Sc) (z4 z5 z10 : Prop) => (fun (z3 : Nat) => (fun (z0 : Bool) (z6 : Prop) => (fun (z9 : Bool) (z11 : Prop) => z10 ∧ z5 ∧ z4 ∧ (z7 = true → true = true) ∧ (z7 = false → z10 ∧ z5 ∧ z4 ∧ ns ≤ z8 ∧ n ≤ z8 ∧ m ≤ z8 ∧ z4 ∧ m ≤ (1000 : Nat) ∧ z10 ∧ z5 ∧ z4 ∧ ns ≤ z8 ∧ n ≤ z8 ∧ m ≤ z8 ∧ z6 ∧ z6 ∧ z3 ≤ z8 ∧ z3 ≤ z8 ∧ z11 ∧ z11 ∧ z11 ∧ (z9 = true → z9 = true) ∧ (bif z9 then true else false) = true)) (bif z0 then decide (z2 = z2) else false) (z0 = true → z0 = true)) (M.same z3 z3 (fun i => M.Sc.mk (z1 i).k (z1 i).c (z1 i).q (z1 i).a (z1 i).b) fun i => M.Sc.mk (z1 i).k (z1 i).c (z1 i).q (z1 i).a (z1 i).b) (∀ (k : Nat), (k < z3) → (z1 k).k = (z1 k).k ∧ (z1 k).c = (z1 k).c ∧ (z1 k).q = (z1 k).q ∧ (z1 k).a = (z1 k).a ∧ (z1 k).b = (z1 k).b)) (if z2 = (0 : Int) then M.Gd.leN (M.Gd.mk w ht s v0 v1 d0 d1 r) x (fun i => M.Sc.mk (sk i) (sc i) (sq i) (sa i) (sb i)) m (fun i => M.Pk.mk (pk i) (ps i) (pa i) (pb i) (pc i) (pd i)) f n else (0 : Nat))) (!decide (ns ≤ (70 : Nat) ∧ n ≤ (300 : Nat) ∧ m ≤ (70 : Nat) ∧ n * m ≤ (3000 : Nat))) (M.Gd.ckE (M.Gd.mk w ht s v0 v1 d0 d1 r) ns x n (fun i => M.Sc.mk (sk i) (sc i) (sq i) (sa i) (sb i)) m (fun i => M.Pk.mk (pk i) (ps i) (pa i) (pb i) (pc i) (pd i)) f) (100000 : Nat) (M.Gd.leR (M.Gd.mk w ht s v0 v1 d0 d1 r) x (fun i => M.Sc.mk (sk i) (sc i) (sq i) (sa i) (sb i)) m (fun i => M.Pk.mk (pk i) (ps i) (pa i) (pb i) (pc i) (pd i)) f n) (∀ (k : Nat), k < m → pk k = pk k ∧ ps k = ps k ∧ pa k = pa k ∧ pb k = pb k ∧ pc k = pc k ∧ pd k = pd k) (∀ (k : Nat), k < n → sk k = sk k ∧ sc k = sc k ∧ sq k = sq k ∧ sa k = sa k ∧ sb k = sb k) (∀ (k : Nat), k < ns → x k = x k)
theorem r3 (w ht s v0 v1 d0 d1 r : Int) (ns : Nat) (x : Nat → Int) (n : Nat) (sk sc sq sa sb : Nat → Int) (m : Nat) (pk ps pa pb pc pd : Nat → Int) (f : Int) : V true [] [(16, pureE e16), (17, pureE e17), (18, pureE e18), (19, pureE e19), (20, pureE e20), (21, pureE e21)] Try.f3 [0,1,2,3,4,5,10,11,12,13,14,19] [] [.agg [SI w, SI ht, SI s, SI v0, SI v1, SI d0, SI d1, SI r], .sl 1 ns (fun k => [SI (x k)]), .sl 5 n (fun k => [SI (sk k), SI (sc k), SI (sq k), SI (sa k), SI (sb k)]), .sl 6 m (fun k => [SI (pk k), SI (ps k), SI (pa k), SI (pb k), SI (pc k), SI (pd k)]), SI f] (.bool true) = Rr3 w ht s v0 v1 d0 d1 r ns x n sk sc sq sa sb m pk ps pa pb pc pd f := by kernel_rfl
theorem br3 (w ht s v0 v1 d0 d1 r : Int) (ns : Nat) (x : Nat → Int) (n : Nat) (sk sc sq sa sb : Nat → Int) (m : Nat) (pk ps pa pb pc pd : Nat → Int) (f : Int)  : Rr3 w ht s v0 v1 d0 d1 r ns x n sk sc sq sa sb m pk ps pa pb pc pd f := by
 unfold Rr3
 dsimp -iota -proj -eta -zeta only
 by_cases h : ns ≤ 70 ∧ n ≤ 300 ∧ m ≤ 70 ∧ n * m ≤ 3000
 ·obtain ⟨h1, h2, h3, h4⟩ := id h
  have hle := M.Gd.leN_le (g := (M.Gd.mk w ht s v0 v1 d0 d1 r)) (x := x) (s := (fun i => M.Sc.mk (sk i) (sc i) (sq i) (sa i) (sb i))) (m := m) (P := (fun i => M.Pk.mk (pk i) (ps i) (pa i) (pb i) (pc i) (pd i))) (f := f) n
  simp [h1, h2, h3, h4, same_self]
  split <;> omega
 ·simp [h]
theorem s3 : PureOK PP 3 e3 := by
 intro xs ps res h hp
 unfold e3 at h
 split at h
 ·rename_i w ht s v0 v1 d0 d1 r ns g_1 n g_2 m g_3 f
  cases h
  simp only [AllP.cons] at hp
  obtain ⟨Hg_1, Hg_2, Hg_3, hp⟩ := hp
  exact Spec.args (enterH (Hold.of (r3 w ht s v0 v1 d0 d1 r ns (cI g_1 0) n (cI g_2 0) (cI g_2 1) (cI g_2 2) (cI g_2 3) (cI g_2 4) m (cI g_3 0) (cI g_3 1) (cI g_3 2) (cI g_3 3) (cI g_3 4) (cI g_3 5) f) (br3 w ht s v0 v1 d0 d1 r ns (cI g_1 0) n (cI g_2 0) (cI g_2 1) (cI g_2 2) (cI g_2 3) (cI g_2 4) m (cI g_3 0) (cI g_3 1) (cI g_3 2) (cI g_3 3) (cI g_3 4) (cI g_3 5) f )) (.nil) (.cons (pureE_ok s16) (.cons (pureE_ok s17) (.cons (pureE_ok s18) (.cons (pureE_ok s19) (.cons (pureE_ok s20) (.cons (pureE_ok s21) (.nil))))))) (k := 3) (by kernel_rfl) (by kernel_rfl) (fun _ => .nil)) (.cons (.refl _) (.cons (.row Hg_1 fun _ => rfl) (.cons (.row Hg_2 fun _ => rfl) (.cons (.row Hg_3 fun _ => rfl) (.cons (.refl _) .nil)))))
 ·cases h
end Go.Proofs.Ytoncoofmijjgeaa.Sep
