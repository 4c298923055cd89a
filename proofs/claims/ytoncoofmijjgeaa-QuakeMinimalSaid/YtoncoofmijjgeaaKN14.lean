/-
  Texts of one seat, joined. No condition. (This text proves no statement by itself.)
-/
import Derived.Test.YtoncoofmijjgeaaKR13
import Derived.Test.YtoncoofmijjgeaaKSep21
import Derived.Test.YtoncoofmijjgeaaKR10
import Derived.Test.YtoncoofmijjgeaaKN1
namespace Go.Proofs.Ytoncoofmijjgeaa.M
open Go
set_option linter.unusedVariables false
set_option linter.unusedSimpArgs false
def inB (z t : Sc) : Bool := decide (t.k = z.k ∧ t.c = z.c ∧ t.q = z.q ∧ t.a ≤ z.a ∧ z.b ≤ t.b)
inductive Sub : List Sc → List Sc → Prop
 | nil (b : List Sc) : Sub [] b
 | skip {a b : List Sc} (y : Sc) (h : Sub a b) : Sub a (y :: b)
 | cons {a b : List Sc} {x y : Sc} (hx : inB x y = true) (h : Sub a b) : Sub (x :: a) (y :: b)
theorem Sub.app {a b a' b' : List Sc} (h : Sub a b) (h' : Sub a' b') : Sub (a ++ a') (b ++ b') := by
 induction h with
 | nil b =>
  induction b with
  | nil => exact h'
  | cons y b ih => exact .skip y ih
 | skip y h ih => exact .skip y ih
 | cons hx h ih => exact .cons hx ih
theorem Sub.one {x y : Sc} (h : inB x y = true) : Sub [x] [y] := .cons h (.nil [])
theorem Sub.map {a b : List Sc} (h : Sub a b) : ∃ p : Nat → Nat, (∀ i, i < a.length → p i < b.length ∧ inB (scR a i) (scR b (p i)) = true) ∧ ∀ i, i + 1 < a.length → p i < p (i + 1) := by
 induction h with
 | nil b => exact ⟨fun _ => 0, fun i h => by simp at h, fun i h => by simp at h⟩
 | skip y h ih =>
  obtain ⟨p, h1, h2⟩ := ih
  exact ⟨fun i => p i + 1, fun i hi => ⟨by have := (h1 i hi).1; simp; omega, (h1 i hi).2⟩, fun i hi => by have := h2 i hi; simp only []; omega⟩
 | cons hx h ih =>
  obtain ⟨p, h1, h2⟩ := ih
  refine ⟨fun i => match i with | 0 => 0 | i + 1 => p i + 1, fun i hi => ?_, fun i hi => ?_⟩
  ·cases i with
   | zero => exact ⟨by simp, hx⟩
   | succ i =>
    simp only [List.length_cons] at hi
    exact ⟨by have := (h1 i (by omega)).1; simp; omega, (h1 i (by omega)).2⟩
  ·cases i with
   | zero => simp
   | succ i =>
    simp only [List.length_cons] at hi
    have := h2 i (by omega)
    simp only []; omega
end Go.Proofs.Ytoncoofmijjgeaa.M
namespace Go.Proofs.Ytoncoofmijjgeaa.M
end Go.Proofs.Ytoncoofmijjgeaa.M
namespace Go.Proofs.Ytoncoofmijjgeaa.Sep
open Go
set_option linter.unusedVariables false
set_option linter.unusedSimpArgs false
end Go.Proofs.Ytoncoofmijjgeaa.Sep
namespace Go.Proofs.Ytoncoofmijjgeaa.M
open Go
set_option linter.unusedVariables false
set_option linter.unusedSimpArgs false
theorem Lf.mono {a b : Int} {c c' : Int → Int} {u v : Int} {r r' : Bool × Int × Int} (h : Lf a b c u r) (h' : Lf a b c' v r') (hc : ∀ t, a ≤ t → t ≤ b → u ≤ c t → v ≤ c' t) (hr : r.1 = true) : r'.1 = true ∧ r'.2.1 ≤ r.2.1 ∧ r.2.2 ≤ r'.2.2 := by
 obtain ⟨a1, a2, a3, a4, a5⟩ := h.1 hr
 obtain ⟨b1, b2, b3⟩ := h'.2.2 _ a1 (by omega) (hc _ a1 (by omega) a4)
 obtain ⟨c1, c2, c3⟩ := h'.2.2 _ (by omega) a3 (hc _ (by omega) a3 a5)
 exact ⟨b1, b2, c3⟩
namespace Gd
variable {g g' : Gd} {x : Nat → Int} {s : Sc} {f f' : Int} {m m' ns : Nat} {P P' : Nat → Pk}
def Va (g : Gd) (ns : Nat) (x : Nat → Int) (m : Nat) (P : Nat → Pk) : Prop := g.ok ∧ g.all ns x ∧ ∀ i, i < m → (P i).Vd ns
theorem Va.lf (h : g.Va ns x m P) (hs : g.Sok s) : Lf s.a s.b (g.cnt x s m P) ((m : Int) - f) (g.lft x s m P f) :=
 lft_lf h.1 h.2.1 hs.2.1 h.2.2 hs.2.2.2.2.1 (by have := hs.2.2.2.1; omega) (by have := hs.2.2.2.2.2; omega)
end Gd
namespace Gd
variable {g g' : Gd} {x : Nat → Int} {s : Sc} {f f' : Int} {m m' ns : Nat} {P P' : Nat → Pk}
def Wd (g g' : Gd) : Prop := g'.w = g.w ∧ g'.h = g.h ∧ g'.s = g.s ∧ g'.v0 ≤ g.v0 ∧ g.v1 ≤ g'.v1 ∧ g'.d0 ≤ g.d0 ∧ g.d1 ≤ g'.d1 ∧ g.r ≤ g'.r
theorem Wd.bounds (hw : g.Wd g') (hk : g.ok) (hk' : g'.ok) {a b : Int} (ha : g.cell a) (hb : g.cell b) : g'.T0 a b ≤ g.T0 a b ∧ g.T1 a b ≤ g'.T1 a b ∧ ∀ q, g'.S0 q a b ≤ g.S0 q a b ∧ g.S1 q a b ≤ g'.S1 q a b := by
 obtain ⟨w1, w2, w3, w4, w5, w6, w7, w8⟩ := hw
 have ha' : g'.cell a := by unfold cell at *; rw [w1, w2]; exact ha
 have hb' : g'.cell b := by unfold cell at *; rw [w1, w2]; exact hb
 obtain ⟨-, -, -, -, n1, n2, n3, n4⟩ := near_far hk ha hb
 obtain ⟨-, -, -, -, m1, m2, m3, m4⟩ := near_far hk' ha' hb'
 have ex : g'.dx a b = g.dx a b := by unfold dx; rw [w1]
 have ey : g'.dy a b = g.dy a b := by unfold dy; rw [w1]
 obtain ⟨k1, k2, k3, ⟨k4, k5, k6⟩, ⟨k7, k8, k9⟩, k10⟩ := hk
 obtain ⟨l1, l2, l3, ⟨l4, l5, l6⟩, ⟨l7, l8, l9⟩, l10⟩ := hk'
 have hn : g'.near a b ≤ g.near a b := by
  unfold near
  rw [ex, ey, w3]
  have := (sq_bd l7 w6).2
  omega
 have hf : g.far a b ≤ g'.far a b := by
  unfold far
  rw [ex, ey, w3]
  have := (sq_bd (x := g.d1) (y := g'.d1) (by omega) w7).2
  omega
 have d0 : g'.D0 a b ≤ g.D0 a b := by
  unfold D0
  have := root_mono (n := g'.near a b + 1) (m := g.near a b + 1) (by omega) (by omega)
  omega
 have d1 : g.D1 a b ≤ g'.D1 a b := by
  unfold D1
  have := root_mono (n := g.far a b) (m := g'.far a b) hf (by omega)
  omega
 have hk : g.ok := ⟨k1, k2, k3, ⟨k4, k5, k6⟩, ⟨k7, k8, k9⟩, k10⟩
 have hk' : g'.ok := ⟨l1, l2, l3, ⟨l4, l5, l6⟩, ⟨l7, l8, l9⟩, l10⟩
 obtain ⟨e1, e2, e3, e4⟩ := D_bd hk ha hb
 obtain ⟨f1, f2, f3, f4⟩ := D_bd hk' ha' hb'
 refine ⟨?_, ?_, fun q => ?_⟩
 ·unfold T0
  have h1 : 1000 * g'.D0 a b / g'.v1 ≤ 1000 * g'.D0 a b / g.v1 := by
   rw [Int.le_ediv_iff_mul_le (by omega)]
   have h3 : 1000 * g'.D0 a b / g'.v1 * g.v1 ≤ 1000 * g'.D0 a b / g'.v1 * g'.v1 := Int.mul_le_mul_of_nonneg_left w5 (Int.ediv_nonneg (by omega) (by omega))
   have h4 := Int.ediv_mul_le (1000 * g'.D0 a b) (show g'.v1 ≠ 0 by omega)
   omega
  have h2 : 1000 * g'.D0 a b / g.v1 ≤ 1000 * g.D0 a b / g.v1 := Int.ediv_le_ediv (by omega) (by omega)
  omega
 ·unfold T1
  have h1 : (1000 * g.D1 a b - 1) / g.v0 ≤ (1000 * g.D1 a b - 1) / g'.v0 := by
   rw [Int.le_ediv_iff_mul_le (by omega)]
   have h3 : (1000 * g.D1 a b - 1) / g.v0 * g'.v0 ≤ (1000 * g.D1 a b - 1) / g.v0 * g.v0 := Int.mul_le_mul_of_nonneg_left w4 (Int.ediv_nonneg (by omega) (by omega))
   have h4 := Int.ediv_mul_le (1000 * g.D1 a b - 1) (show g.v0 ≠ 0 by omega)
   omega
  have h2 : (1000 * g.D1 a b - 1) / g'.v0 ≤ (1000 * g'.D1 a b - 1) / g'.v0 := Int.ediv_le_ediv (by omega) (by omega)
  omega
 ·unfold S0 S1
  have h1 := fall_mono (d := g.D1 a b) (e := g'.D1 a b) (by omega) d1
  have h2 := fall_mono (d := g'.D0 a b) (e := g.D0 a b) f1 d0
  omega
theorem Wd.alw (hw : g.Wd g') (hk : g.ok) (hk' : g'.ok) {p : Pk} (hs : g.cell s.c) (hx : g.cell (x p.s.toNat)) {t : Int} (h : g.alw x s p t = true) : g'.alw x s p t = true := by
 obtain ⟨a1, a2, a3⟩ := hw.bounds hk hk' hs hx
 obtain ⟨a4, a5⟩ := a3 s.q
 unfold Gd.alw at h ⊢
 split at h
 ·rename_i c
  rw [if_pos c]
  simp only [decide_eq_true_eq] at h ⊢
  omega
 ·rename_i c
  rw [if_neg c]
  split at h
  ·rename_i c2
   rw [if_pos c2]
   simp only [decide_eq_true_eq] at h ⊢
   omega
  ·rename_i c2
   rw [if_neg c2]
   simp only [decide_eq_true_eq] at h ⊢
   omega
end Gd
end Go.Proofs.Ytoncoofmijjgeaa.M
namespace Go.Proofs.Ytoncoofmijjgeaa.M
namespace Gd
def lN (g:Gd) (ns:Nat) (x:Nat→Int) (n:Nat) (S:Nat→Sc) (m:Nat) (P:Nat→Pk) (f:Int):Nat:=if g.ckE ns x n S m P f=0 then g.leN x S m P f n else 0
def rnB (g:Gd) (ns:Nat) (x:Nat→Int) (n:Nat) (S:Nat→Sc) (m:Nat) (P:Nat→Pk) (f:Int):Bool:=decide ((ns≤70∧n≤300∧m≤70∧n*m≤3000)∧g.ckE ns x n S m P f=0)
def rnN (g:Gd) (ns:Nat) (x:Nat→Int) (n:Nat) (S:Nat→Sc) (m:Nat) (P:Nat→Pk) (f:Int):Nat:=if g.rnB ns x n S m P f=true then g.leN x S m P f n else 0
end Gd
theorem rnB_ok {g:Gd} {ns:Nat} {x:Nat→Int} {n:Nat} {S:Nat→Sc} {m:Nat} {P:Nat→Pk} {f:Int} : g.rnB ns x n S m P f=true↔(ns≤70∧n≤300∧m≤70∧n*m≤3000)∧g.Ck ns x n S m P f:=by
 unfold Gd.rnB
 rw [decide_eq_true_iff,Gd.ckE_ok]
end Go.Proofs.Ytoncoofmijjgeaa.M
namespace Go.Proofs.Ytoncoofmijjgeaa.Sep
open Go
set_option linter.unusedVariables false
set_option linter.unusedSimpArgs false
def e18s:List SV→Option (List Prop × SV)
 | [.agg [.int .i64 g_w,.int .i64 g_h,.int .i64 g_s,.int .i64 g_v0,.int .i64 g_v1,.int .i64 g_d0,.int .i64 g_d1,.int .i64 g_r],.sl 1 ns g_1,.sl 5 n g_2,.sl 6 m g_3,.int .i64 f]=>some ([Row 1 ns g_1,Row 5 n g_2,Row 6 m g_3,ns≤100000,n≤100000,m≤100000],.tup [.sl 5 (M.Gd.lN (M.Gd.mk g_w g_h g_s g_v0 g_v1 g_d0 g_d1 g_r) ns (cI g_1 0) n (fun i=>M.Sc.mk (cI g_2 0 i) (cI g_2 1 i) (cI g_2 2 i) (cI g_2 3 i) (cI g_2 4 i)) m (fun i=>M.Pk.mk (cI g_3 0 i) (cI g_3 1 i) (cI g_3 2 i) (cI g_3 3 i) (cI g_3 4 i) (cI g_3 5 i)) f) (fun k=>[SI (M.Gd.leR (M.Gd.mk g_w g_h g_s g_v0 g_v1 g_d0 g_d1 g_r) (cI g_1 0) (fun i=>M.Sc.mk (cI g_2 0 i) (cI g_2 1 i) (cI g_2 2 i) (cI g_2 3 i) (cI g_2 4 i)) m (fun i=>M.Pk.mk (cI g_3 0 i) (cI g_3 1 i) (cI g_3 2 i) (cI g_3 3 i) (cI g_3 4 i) (cI g_3 5 i)) f n k).k,SI (M.Gd.leR (M.Gd.mk g_w g_h g_s g_v0 g_v1 g_d0 g_d1 g_r) (cI g_1 0) (fun i=>M.Sc.mk (cI g_2 0 i) (cI g_2 1 i) (cI g_2 2 i) (cI g_2 3 i) (cI g_2 4 i)) m (fun i=>M.Pk.mk (cI g_3 0 i) (cI g_3 1 i) (cI g_3 2 i) (cI g_3 3 i) (cI g_3 4 i) (cI g_3 5 i)) f n k).c,SI (M.Gd.leR (M.Gd.mk g_w g_h g_s g_v0 g_v1 g_d0 g_d1 g_r) (cI g_1 0) (fun i=>M.Sc.mk (cI g_2 0 i) (cI g_2 1 i) (cI g_2 2 i) (cI g_2 3 i) (cI g_2 4 i)) m (fun i=>M.Pk.mk (cI g_3 0 i) (cI g_3 1 i) (cI g_3 2 i) (cI g_3 3 i) (cI g_3 4 i) (cI g_3 5 i)) f n k).q,SI (M.Gd.leR (M.Gd.mk g_w g_h g_s g_v0 g_v1 g_d0 g_d1 g_r) (cI g_1 0) (fun i=>M.Sc.mk (cI g_2 0 i) (cI g_2 1 i) (cI g_2 2 i) (cI g_2 3 i) (cI g_2 4 i)) m (fun i=>M.Pk.mk (cI g_3 0 i) (cI g_3 1 i) (cI g_3 2 i) (cI g_3 3 i) (cI g_3 4 i) (cI g_3 5 i)) f n k).a,SI (M.Gd.leR (M.Gd.mk g_w g_h g_s g_v0 g_v1 g_d0 g_d1 g_r) (cI g_1 0) (fun i=>M.Sc.mk (cI g_2 0 i) (cI g_2 1 i) (cI g_2 2 i) (cI g_2 3 i) (cI g_2 4 i)) m (fun i=>M.Pk.mk (cI g_3 0 i) (cI g_3 1 i) (cI g_3 2 i) (cI g_3 3 i) (cI g_3 4 i) (cI g_3 5 i)) f n k).b]),SI (M.Gd.ckE (M.Gd.mk g_w g_h g_s g_v0 g_v1 g_d0 g_d1 g_r) ns (cI g_1 0) n (fun i=>M.Sc.mk (cI g_2 0 i) (cI g_2 1 i) (cI g_2 2 i) (cI g_2 3 i) (cI g_2 4 i)) m (fun i=>M.Pk.mk (cI g_3 0 i) (cI g_3 1 i) (cI g_3 2 i) (cI g_3 3 i) (cI g_3 4 i) (cI g_3 5 i)) f)])
 | _=>none
theorem s18s:PureOK PP 18 e18s:=by
 intro xs ps res h hp
 unfold e18s at h
 split at h
 ·rename_i g_w g_h g_s g_v0 g_v1 g_d0 g_d1 g_r ns g_1 n g_2 m g_3 f
  cases h
  simp only [AllP.cons] at hp
  obtain ⟨Hg_1,Hg_2,Hg_3,hp⟩:=hp
  have h6:=s18 [.agg [.int .i64 g_w,.int .i64 g_h,.int .i64 g_s,.int .i64 g_v0,.int .i64 g_v1,.int .i64 g_d0,.int .i64 g_d1,.int .i64 g_r],.sl 1 ns g_1,.sl 5 n g_2,.sl 6 m g_3,.int .i64 f] _ _ rfl (AllP.cons.2 ⟨Hg_1,(AllP.cons.2 ⟨Hg_2,(AllP.cons.2 ⟨Hg_3,(AllP.cons.2 ⟨(hp.1),(AllP.cons.2 ⟨(hp.2.1),(AllP.cons.2 ⟨(hp.2.2.1),AllP.nil⟩)⟩)⟩)⟩)⟩)⟩)
  exact h6
 ·cases h
def e22:List SV→Option (List Prop × SV)
 | [.agg [.int .i64 g_w,.int .i64 g_h,.int .i64 g_s,.int .i64 g_v0,.int .i64 g_v1,.int .i64 g_d0,.int .i64 g_d1,.int .i64 g_r,.sl 1 ns g_1,.sl 5 n g_2,.sl 6 m g_3,.int .i64 f]]=>some ([Row 1 ns g_1,Row 5 n g_2,Row 6 m g_3],.tup [.sl 5 (M.Gd.rnN (M.Gd.mk g_w g_h g_s g_v0 g_v1 g_d0 g_d1 g_r) ns (cI g_1 0) n (fun i=>M.Sc.mk (cI g_2 0 i) (cI g_2 1 i) (cI g_2 2 i) (cI g_2 3 i) (cI g_2 4 i)) m (fun i=>M.Pk.mk (cI g_3 0 i) (cI g_3 1 i) (cI g_3 2 i) (cI g_3 3 i) (cI g_3 4 i) (cI g_3 5 i)) f) (fun k=>[SI (M.Gd.leR (M.Gd.mk g_w g_h g_s g_v0 g_v1 g_d0 g_d1 g_r) (cI g_1 0) (fun i=>M.Sc.mk (cI g_2 0 i) (cI g_2 1 i) (cI g_2 2 i) (cI g_2 3 i) (cI g_2 4 i)) m (fun i=>M.Pk.mk (cI g_3 0 i) (cI g_3 1 i) (cI g_3 2 i) (cI g_3 3 i) (cI g_3 4 i) (cI g_3 5 i)) f n k).k,SI (M.Gd.leR (M.Gd.mk g_w g_h g_s g_v0 g_v1 g_d0 g_d1 g_r) (cI g_1 0) (fun i=>M.Sc.mk (cI g_2 0 i) (cI g_2 1 i) (cI g_2 2 i) (cI g_2 3 i) (cI g_2 4 i)) m (fun i=>M.Pk.mk (cI g_3 0 i) (cI g_3 1 i) (cI g_3 2 i) (cI g_3 3 i) (cI g_3 4 i) (cI g_3 5 i)) f n k).c,SI (M.Gd.leR (M.Gd.mk g_w g_h g_s g_v0 g_v1 g_d0 g_d1 g_r) (cI g_1 0) (fun i=>M.Sc.mk (cI g_2 0 i) (cI g_2 1 i) (cI g_2 2 i) (cI g_2 3 i) (cI g_2 4 i)) m (fun i=>M.Pk.mk (cI g_3 0 i) (cI g_3 1 i) (cI g_3 2 i) (cI g_3 3 i) (cI g_3 4 i) (cI g_3 5 i)) f n k).q,SI (M.Gd.leR (M.Gd.mk g_w g_h g_s g_v0 g_v1 g_d0 g_d1 g_r) (cI g_1 0) (fun i=>M.Sc.mk (cI g_2 0 i) (cI g_2 1 i) (cI g_2 2 i) (cI g_2 3 i) (cI g_2 4 i)) m (fun i=>M.Pk.mk (cI g_3 0 i) (cI g_3 1 i) (cI g_3 2 i) (cI g_3 3 i) (cI g_3 4 i) (cI g_3 5 i)) f n k).a,SI (M.Gd.leR (M.Gd.mk g_w g_h g_s g_v0 g_v1 g_d0 g_d1 g_r) (cI g_1 0) (fun i=>M.Sc.mk (cI g_2 0 i) (cI g_2 1 i) (cI g_2 2 i) (cI g_2 3 i) (cI g_2 4 i)) m (fun i=>M.Pk.mk (cI g_3 0 i) (cI g_3 1 i) (cI g_3 2 i) (cI g_3 3 i) (cI g_3 4 i) (cI g_3 5 i)) f n k).b]),.bool (M.Gd.rnB (M.Gd.mk g_w g_h g_s g_v0 g_v1 g_d0 g_d1 g_r) ns (cI g_1 0) n (fun i=>M.Sc.mk (cI g_2 0 i) (cI g_2 1 i) (cI g_2 2 i) (cI g_2 3 i) (cI g_2 4 i)) m (fun i=>M.Pk.mk (cI g_3 0 i) (cI g_3 1 i) (cI g_3 2 i) (cI g_3 3 i) (cI g_3 4 i) (cI g_3 5 i)) f)])
 | _=>none
def Rr22 (g:M.Gd) (ns:Nat) (x:Nat→Int) (n:Nat) (S:Nat→M.Sc) (m:Nat) (P:Nat→M.Pk) (f:Int):Prop:=(fun (z3:Bool) (z0:Nat→M.Sc) (z1 z2 z4:Prop)=>z4∧z2∧z1∧(z3=true→M.Gd.rnN g ns x n S m P f=(0:Nat)∧false=M.Gd.rnB g ns x n S m P f)∧(z3=false→z4∧z2∧z1∧ns≤(100000:Nat)∧n≤(100000:Nat)∧m≤(100000:Nat)∧(M.Gd.lN g ns x n S m P f=M.Gd.rnN g ns x n S m P f∧∀ (k:Nat),k<M.Gd.lN g ns x n S m P f→(z0 k).k=(z0 k).k∧(z0 k).c=(z0 k).c∧(z0 k).q=(z0 k).q∧(z0 k).a=(z0 k).a∧(z0 k).b=(z0 k).b)∧decide (M.Gd.ckE g ns x n S m P f=(0:Int))=M.Gd.rnB g ns x n S m P f)) (!decide (ns≤(70:Nat)∧n≤(300:Nat)∧m≤(70:Nat)∧n*m≤(3000:Nat))) (M.Gd.leR g x S m P f n) (∀ (k:Nat),k<m→(P k).k=(P k).k∧(P k).s=(P k).s∧(P k).t0=(P k).t0∧(P k).t1=(P k).t1∧(P k).l0=(P k).l0∧(P k).l1=(P k).l1) (∀ (k:Nat),k<n→(S k).k=(S k).k∧(S k).c=(S k).c∧(S k).q=(S k).q∧(S k).a=(S k).a∧(S k).b=(S k).b) (∀ (k:Nat),k<ns→x k=x k)
theorem r22 (g:M.Gd) (ns:Nat) (x:Nat→Int) (n:Nat) (S:Nat→M.Sc) (m:Nat) (P:Nat→M.Pk) (f:Int):V true [] [(16,pureE e16),(18,pureE e18s)] Try.f22 [0,1,2,3,4,5,13] [] [.agg [SI (M.Gd.w g),SI (M.Gd.h g),SI (M.Gd.s g),SI (M.Gd.v0 g),SI (M.Gd.v1 g),SI (M.Gd.d0 g),SI (M.Gd.d1 g),SI (M.Gd.r g),.sl 1 ns (fun k=>[SI (x k)]),.sl 5 n (fun k=>[SI (M.Sc.k (S k)),SI (M.Sc.c (S k)),SI (M.Sc.q (S k)),SI (M.Sc.a (S k)),SI (M.Sc.b (S k))]),.sl 6 m (fun k=>[SI (M.Pk.k (P k)),SI (M.Pk.s (P k)),SI (M.Pk.t0 (P k)),SI (M.Pk.t1 (P k)),SI (M.Pk.l0 (P k)),SI (M.Pk.l1 (P k))]),SI f]] (.tup [.sl 5 (M.Gd.rnN g ns x n S m P f) (fun k=>[SI (M.Gd.leR g x S m P f n k).k,SI (M.Gd.leR g x S m P f n k).c,SI (M.Gd.leR g x S m P f n k).q,SI (M.Gd.leR g x S m P f n k).a,SI (M.Gd.leR g x S m P f n k).b]),.bool (M.Gd.rnB g ns x n S m P f)])=Rr22 g ns x n S m P f:=by kernel_rfl
theorem br22 (g:M.Gd) (ns:Nat) (x:Nat→Int) (n:Nat) (S:Nat→M.Sc) (m:Nat) (P:Nat→M.Pk) (f:Int)  : Rr22 g ns x n S m P f:=by
 unfold Rr22
 dsimp -iota -proj -eta -zeta only
 unfold M.Gd.rnN M.Gd.rnB M.Gd.lN
 by_cases h:ns≤70∧n≤300∧m≤70∧n*m≤3000
 ·by_cases e:M.Gd.ckE g ns x n S m P f=0
  ·simp [h,e]
   omega
  ·simp [h,e]
   omega
 ·simp [h]
theorem s22:PureOK PP 22 e22:=by
 intro xs ps res h hp
 unfold e22 at h
 split at h
 ·rename_i g_w g_h g_s g_v0 g_v1 g_d0 g_d1 g_r ns g_1 n g_2 m g_3 f
  cases h
  simp only [AllP.cons] at hp
  obtain ⟨Hg_1,Hg_2,Hg_3,hp⟩:=hp
  exact Spec.args (enterH (Hold.of (r22 (M.Gd.mk g_w g_h g_s g_v0 g_v1 g_d0 g_d1 g_r) ns (cI g_1 0) n (fun i=>M.Sc.mk (cI g_2 0 i) (cI g_2 1 i) (cI g_2 2 i) (cI g_2 3 i) (cI g_2 4 i)) m (fun i=>M.Pk.mk (cI g_3 0 i) (cI g_3 1 i) (cI g_3 2 i) (cI g_3 3 i) (cI g_3 4 i) (cI g_3 5 i)) f) (br22 (M.Gd.mk g_w g_h g_s g_v0 g_v1 g_d0 g_d1 g_r) ns (cI g_1 0) n (fun i=>M.Sc.mk (cI g_2 0 i) (cI g_2 1 i) (cI g_2 2 i) (cI g_2 3 i) (cI g_2 4 i)) m (fun i=>M.Pk.mk (cI g_3 0 i) (cI g_3 1 i) (cI g_3 2 i) (cI g_3 3 i) (cI g_3 4 i) (cI g_3 5 i)) f )) (.nil) (.cons (pureE_ok s16) (.cons (pureE_ok s18s) (.nil))) (k:=22) (by kernel_rfl) (by kernel_rfl) (fun _=>.nil)) (.cons (.agg (.cons (.refl _) (.cons (.refl _) (.cons (.refl _) (.cons (.refl _) (.cons (.refl _) (.cons (.refl _) (.cons (.refl _) (.cons (.refl _) (.cons (.row Hg_1 fun _=>rfl) (.cons (.row Hg_2 fun _=>rfl) (.cons (.row Hg_3 fun _=>rfl) (.cons (.refl _) .nil))))))))))))) .nil)
 ·cases h
def e22t:List SV→Option (List Prop × SV)
 | [.agg [.int .i64 g_w,.int .i64 g_h,.int .i64 g_s,.int .i64 g_v0,.int .i64 g_v1,.int .i64 g_d0,.int .i64 g_d1,.int .i64 g_r,.sl 1 ns g_1,.sl 5 n g_2,.sl 6 m g_3,.int .i64 f]]=>some ([Row 1 ns g_1,Row 5 n g_2,Row 6 m g_3,M.Gd.rnB (M.Gd.mk g_w g_h g_s g_v0 g_v1 g_d0 g_d1 g_r) ns (cI g_1 0) n (fun i=>M.Sc.mk (cI g_2 0 i) (cI g_2 1 i) (cI g_2 2 i) (cI g_2 3 i) (cI g_2 4 i)) m (fun i=>M.Pk.mk (cI g_3 0 i) (cI g_3 1 i) (cI g_3 2 i) (cI g_3 3 i) (cI g_3 4 i) (cI g_3 5 i)) f=true],.tup [.sl 5 (M.Gd.leN (M.Gd.mk g_w g_h g_s g_v0 g_v1 g_d0 g_d1 g_r) (cI g_1 0) (fun i=>M.Sc.mk (cI g_2 0 i) (cI g_2 1 i) (cI g_2 2 i) (cI g_2 3 i) (cI g_2 4 i)) m (fun i=>M.Pk.mk (cI g_3 0 i) (cI g_3 1 i) (cI g_3 2 i) (cI g_3 3 i) (cI g_3 4 i) (cI g_3 5 i)) f n) (fun k=>[SI (M.Gd.leR (M.Gd.mk g_w g_h g_s g_v0 g_v1 g_d0 g_d1 g_r) (cI g_1 0) (fun i=>M.Sc.mk (cI g_2 0 i) (cI g_2 1 i) (cI g_2 2 i) (cI g_2 3 i) (cI g_2 4 i)) m (fun i=>M.Pk.mk (cI g_3 0 i) (cI g_3 1 i) (cI g_3 2 i) (cI g_3 3 i) (cI g_3 4 i) (cI g_3 5 i)) f n k).k,SI (M.Gd.leR (M.Gd.mk g_w g_h g_s g_v0 g_v1 g_d0 g_d1 g_r) (cI g_1 0) (fun i=>M.Sc.mk (cI g_2 0 i) (cI g_2 1 i) (cI g_2 2 i) (cI g_2 3 i) (cI g_2 4 i)) m (fun i=>M.Pk.mk (cI g_3 0 i) (cI g_3 1 i) (cI g_3 2 i) (cI g_3 3 i) (cI g_3 4 i) (cI g_3 5 i)) f n k).c,SI (M.Gd.leR (M.Gd.mk g_w g_h g_s g_v0 g_v1 g_d0 g_d1 g_r) (cI g_1 0) (fun i=>M.Sc.mk (cI g_2 0 i) (cI g_2 1 i) (cI g_2 2 i) (cI g_2 3 i) (cI g_2 4 i)) m (fun i=>M.Pk.mk (cI g_3 0 i) (cI g_3 1 i) (cI g_3 2 i) (cI g_3 3 i) (cI g_3 4 i) (cI g_3 5 i)) f n k).q,SI (M.Gd.leR (M.Gd.mk g_w g_h g_s g_v0 g_v1 g_d0 g_d1 g_r) (cI g_1 0) (fun i=>M.Sc.mk (cI g_2 0 i) (cI g_2 1 i) (cI g_2 2 i) (cI g_2 3 i) (cI g_2 4 i)) m (fun i=>M.Pk.mk (cI g_3 0 i) (cI g_3 1 i) (cI g_3 2 i) (cI g_3 3 i) (cI g_3 4 i) (cI g_3 5 i)) f n k).a,SI (M.Gd.leR (M.Gd.mk g_w g_h g_s g_v0 g_v1 g_d0 g_d1 g_r) (cI g_1 0) (fun i=>M.Sc.mk (cI g_2 0 i) (cI g_2 1 i) (cI g_2 2 i) (cI g_2 3 i) (cI g_2 4 i)) m (fun i=>M.Pk.mk (cI g_3 0 i) (cI g_3 1 i) (cI g_3 2 i) (cI g_3 3 i) (cI g_3 4 i) (cI g_3 5 i)) f n k).b]),.bool true])
 | _=>none
theorem s22t:PureOK PP 22 e22t:=by
 intro xs ps res h hp
 unfold e22t at h
 split at h
 ·rename_i g_w g_h g_s g_v0 g_v1 g_d0 g_d1 g_r ns g_1 n g_2 m g_3 f
  cases h
  simp only [AllP.cons] at hp
  obtain ⟨Hg_1,Hg_2,Hg_3,hp⟩:=hp
  have h6:=s22 [.agg [.int .i64 g_w,.int .i64 g_h,.int .i64 g_s,.int .i64 g_v0,.int .i64 g_v1,.int .i64 g_d0,.int .i64 g_d1,.int .i64 g_r,.sl 1 ns g_1,.sl 5 n g_2,.sl 6 m g_3,.int .i64 f]] _ _ rfl (AllP.cons.2 ⟨Hg_1,(AllP.cons.2 ⟨Hg_2,(AllP.cons.2 ⟨Hg_3,AllP.nil⟩)⟩)⟩)
  simp only [M.Gd.rnN,hp.1,if_true] at h6
  exact h6
 ·cases h
end Go.Proofs.Ytoncoofmijjgeaa.Sep
namespace Go.Proofs.Ytoncoofmijjgeaa.M
namespace Gd
end Gd
end Go.Proofs.Ytoncoofmijjgeaa.M
namespace Go.Proofs.Ytoncoofmijjgeaa.Sep
open Go
set_option linter.unusedVariables false
set_option linter.unusedSimpArgs false
def e18t:List SV→Option (List Prop × SV)
 | [.agg [.int .i64 g_w,.int .i64 g_h,.int .i64 g_s,.int .i64 g_v0,.int .i64 g_v1,.int .i64 g_d0,.int .i64 g_d1,.int .i64 g_r],.sl 1 ns g_1,.sl 5 n g_2,.sl 6 m g_3,.int .i64 f]=>some ([Row 1 ns g_1,Row 5 n g_2,Row 6 m g_3,ns≤100000,n≤100000,m≤100000,M.Gd.ckE (M.Gd.mk g_w g_h g_s g_v0 g_v1 g_d0 g_d1 g_r) ns (cI g_1 0) n (fun i=>M.Sc.mk (cI g_2 0 i) (cI g_2 1 i) (cI g_2 2 i) (cI g_2 3 i) (cI g_2 4 i)) m (fun i=>M.Pk.mk (cI g_3 0 i) (cI g_3 1 i) (cI g_3 2 i) (cI g_3 3 i) (cI g_3 4 i) (cI g_3 5 i)) f=0],.tup [.sl 5 (M.Gd.leN (M.Gd.mk g_w g_h g_s g_v0 g_v1 g_d0 g_d1 g_r) (cI g_1 0) (fun i=>M.Sc.mk (cI g_2 0 i) (cI g_2 1 i) (cI g_2 2 i) (cI g_2 3 i) (cI g_2 4 i)) m (fun i=>M.Pk.mk (cI g_3 0 i) (cI g_3 1 i) (cI g_3 2 i) (cI g_3 3 i) (cI g_3 4 i) (cI g_3 5 i)) f n) (fun k=>[SI (M.Gd.leR (M.Gd.mk g_w g_h g_s g_v0 g_v1 g_d0 g_d1 g_r) (cI g_1 0) (fun i=>M.Sc.mk (cI g_2 0 i) (cI g_2 1 i) (cI g_2 2 i) (cI g_2 3 i) (cI g_2 4 i)) m (fun i=>M.Pk.mk (cI g_3 0 i) (cI g_3 1 i) (cI g_3 2 i) (cI g_3 3 i) (cI g_3 4 i) (cI g_3 5 i)) f n k).k,SI (M.Gd.leR (M.Gd.mk g_w g_h g_s g_v0 g_v1 g_d0 g_d1 g_r) (cI g_1 0) (fun i=>M.Sc.mk (cI g_2 0 i) (cI g_2 1 i) (cI g_2 2 i) (cI g_2 3 i) (cI g_2 4 i)) m (fun i=>M.Pk.mk (cI g_3 0 i) (cI g_3 1 i) (cI g_3 2 i) (cI g_3 3 i) (cI g_3 4 i) (cI g_3 5 i)) f n k).c,SI (M.Gd.leR (M.Gd.mk g_w g_h g_s g_v0 g_v1 g_d0 g_d1 g_r) (cI g_1 0) (fun i=>M.Sc.mk (cI g_2 0 i) (cI g_2 1 i) (cI g_2 2 i) (cI g_2 3 i) (cI g_2 4 i)) m (fun i=>M.Pk.mk (cI g_3 0 i) (cI g_3 1 i) (cI g_3 2 i) (cI g_3 3 i) (cI g_3 4 i) (cI g_3 5 i)) f n k).q,SI (M.Gd.leR (M.Gd.mk g_w g_h g_s g_v0 g_v1 g_d0 g_d1 g_r) (cI g_1 0) (fun i=>M.Sc.mk (cI g_2 0 i) (cI g_2 1 i) (cI g_2 2 i) (cI g_2 3 i) (cI g_2 4 i)) m (fun i=>M.Pk.mk (cI g_3 0 i) (cI g_3 1 i) (cI g_3 2 i) (cI g_3 3 i) (cI g_3 4 i) (cI g_3 5 i)) f n k).a,SI (M.Gd.leR (M.Gd.mk g_w g_h g_s g_v0 g_v1 g_d0 g_d1 g_r) (cI g_1 0) (fun i=>M.Sc.mk (cI g_2 0 i) (cI g_2 1 i) (cI g_2 2 i) (cI g_2 3 i) (cI g_2 4 i)) m (fun i=>M.Pk.mk (cI g_3 0 i) (cI g_3 1 i) (cI g_3 2 i) (cI g_3 3 i) (cI g_3 4 i) (cI g_3 5 i)) f n k).b]),SI 0])
 | _=>none
theorem s18t:PureOK PP 18 e18t:=by
 intro xs ps res h hp
 unfold e18t at h
 split at h
 ·rename_i g_w g_h g_s g_v0 g_v1 g_d0 g_d1 g_r ns g_1 n g_2 m g_3 f
  cases h
  simp only [AllP.cons] at hp
  obtain ⟨Hg_1,Hg_2,Hg_3,hp⟩:=hp
  have h6:=s18 [.agg [.int .i64 g_w,.int .i64 g_h,.int .i64 g_s,.int .i64 g_v0,.int .i64 g_v1,.int .i64 g_d0,.int .i64 g_d1,.int .i64 g_r],.sl 1 ns g_1,.sl 5 n g_2,.sl 6 m g_3,.int .i64 f] _ _ rfl (AllP.cons.2 ⟨Hg_1,(AllP.cons.2 ⟨Hg_2,(AllP.cons.2 ⟨Hg_3,(AllP.cons.2 ⟨(hp.1),(AllP.cons.2 ⟨(hp.2.1),(AllP.cons.2 ⟨(hp.2.2.1),AllP.nil⟩)⟩)⟩)⟩)⟩)⟩)
  simp only [hp.2.2.2.1,if_true] at h6
  exact h6
 ·cases h
end Go.Proofs.Ytoncoofmijjgeaa.Sep
namespace Go.Proofs.Ytoncoofmijjgeaa.M
open Go
set_option linter.unusedVariables false
set_option linter.unusedSimpArgs false
theorem cnt_sorted {p : Nat → Bool} : ∀ {n u : Nat} {A : List Nat}, A.Pairwise (· < ·) → (∀ a ∈ A, u ≤ a ∧ a < u + n) → A.countP p ≤ (List.range' u n).countP p
 | 0, u, A, _, h => by
  cases A with
  | nil => simp
  | cons a A => have := h a (by simp); omega
 | n + 1, u, A, hs, h => by
  rw [List.range'_succ]
  cases A with
  | nil => simp
  | cons a A =>
   have h0 := h a (by simp)
   rw [List.pairwise_cons] at hs
   by_cases c : a = u
   ·subst c
    have := cnt_sorted (p := p) (n := n) (u := a + 1) hs.2 (fun b hb => by have := hs.1 b hb; have := h b (by simp [hb]); omega)
    simp only [List.countP_cons]
    omega
   ·have := cnt_sorted (p := p) (n := n) (u := u + 1) (A := a :: A) (List.pairwise_cons.2 hs) (fun b hb => by
     have h1 := h b hb
     rcases List.mem_cons.1 hb with e | e
     ·omega
     ·have := hs.1 b e; omega)
    rw [List.countP_cons (a := u)]
    omega
namespace Gd
variable {g : Gd} {x : Nat → Int} {s : Sc} {f : Int} {m ns : Nat} {P : Nat → Pk}
def bad (g : Gd) (x : Nat → Int) (s : Sc) (P : Nat → Pk) (t : Int) (L : List Nat) : Nat := L.countP fun i => !g.alw x s (P i) t
theorem bad_cnt {t : Int} {L : List Nat} : g.cnt x s L.length (fun j => P (rowN L j).toNat) t = (L.length : Int) - g.bad x s P t L := by
 have h : g.cnt x s L.length (fun j => P (rowN L j).toNat) t = (L.map fun i => if g.alw x s (P i) t = true then (1 : Int) else 0).sum := by
  rw [← sumN_list (φ := fun i => if g.alw x s (P i) t = true then (1 : Int) else 0) (d := 0) L]
  unfold cnt
  refine sumN_congr fun k hk => ?_
  unfold rowN
  simp only [Int.toNat_natCast]
 rw [h]
 unfold bad
 induction L with
 | nil => simp
 | cons a L ih =>
  simp only [List.map_cons, List.sum_cons, List.countP_cons, List.length_cons]
  rw [ih (by
   rw [← sumN_list (φ := fun i => if g.alw x s (P i) t = true then (1 : Int) else 0) (d := 0) L]
   unfold cnt
   refine sumN_congr fun k hk => ?_
   unfold rowN
   simp only [Int.toNat_natCast])]
  by_cases c : g.alw x s (P a) t = true
  ·simp [c]; omega
  ·simp [c]; omega
theorem stkL_iff {L : List Nat} (h : g.Va ns x m P) (hs : g.Sok s) (hL : ∀ i ∈ L, i < m) : g.stkL x s P f L = true ↔ s.k = 1 ∧ ∀ t, s.a ≤ t → t ≤ s.b → f < g.bad x s P t L := by
 have hv : g.Va ns x L.length (fun j => P (rowN L j).toNat) := ⟨h.1, h.2.1, fun i hi => by
  have := rowN_in hL hi
  exact h.2.2 _ (by omega)⟩
 have hl := hv.lf hs (f := f)
 unfold stkL stk
 rw [Bool.and_eq_true, decide_eq_true_iff, Bool.not_eq_true']
 refine and_congr_right fun _ => ?_
 constructor
 ·intro h1 t t1 t2
  rcases Int.lt_or_le f (g.bad x s P t L) with c | c
  ·exact c
  ·have := (hl.2.2 t t1 t2 (by rw [bad_cnt]; omega)).1
   rw [h1] at this; cases this
 ·intro h1
  cases e : (g.lft x s L.length (fun j => P (rowN L j).toNat) f).1 with
  | false => rfl
  | true =>
   obtain ⟨a1, a2, a3, a4, a5⟩ := hl.1 e
   rw [bad_cnt] at a4
   have := h1 _ a1 (by omega)
   omega
theorem stkL_mono {L L' : List Nat} (h : g.Va ns x m P) (hs : g.Sok s) (hL : ∀ i ∈ L, i < m) (hL' : ∀ i ∈ L', i < m) (hb : ∀ t, g.bad x s P t L ≤ g.bad x s P t L') (h1 : g.stkL x s P f L = true) : g.stkL x s P f L' = true := by
 rw [stkL_iff h hs hL] at h1
 rw [stkL_iff h hs hL']
 exact ⟨h1.1, fun t t1 t2 => by have := h1.2 t t1 t2; have := hb t; omega⟩
theorem pr_proof (h0 : g.stA x s m P f = true) : ∀ {d : Nat}, d ≤ m → g.stkL x s P f (g.prL x s m P f d) = true
 | 0, _ => by
  have e : g.prL x s m P f 0 = List.range m := by unfold prL prD; simp
  rw [e]; exact h0
 | d + 1, h => by
  rw [prL_succ (by omega)]
  split
  ·rename_i h1; exact h1
  ·exact pr_proof h0 (by omega)
theorem prL_end : g.prL x s m P f m = g.prD x s m P f m := by unfold prL; simp
theorem prD_sorted : ∀ {d : Nat}, d ≤ m → (g.prD x s m P f d).Pairwise (· < ·)
 | 0, _ => by unfold prD; exact .nil
 | d + 1, h => by
  unfold prD
  split
  ·exact prD_sorted (by omega)
  ·exact List.pairwise_cons.2 ⟨fun i hi => by have := (prD_ge (by omega) i hi).1; omega, prD_sorted (by omega)⟩
theorem prD_need : ∀ {d i : Nat} (hd : d ≤ m) (hi : i < (g.prD x s m P f d).length), g.stkL x s P f (List.range ((g.prD x s m P f d)[i]) ++ (g.prD x s m P f d).drop (i + 1)) = false
 | 0, i, hd, hi => by simp [prD] at hi
 | d + 1, i, hd, hi => by
  by_cases c : g.stkL x s P f (List.range (m - 1 - d) ++ g.prD x s m P f d) = true
  ·have e : g.prD x s m P f (d + 1) = g.prD x s m P f d := by
    conv => lhs; unfold prD
    rw [if_pos c]
   have h1 := prD_need (d := d) (i := i) (by omega) (by rw [← e]; exact hi)
   simp only [e]
   exact h1
  ·have e : g.prD x s m P f (d + 1) = (m - 1 - d) :: g.prD x s m P f d := by
    conv => lhs; unfold prD
    rw [if_neg c]
   simp only [e] at hi ⊢
   cases i with
   | zero => simpa using c
   | succ i =>
    simp only [List.length_cons] at hi
    have h1 := prD_need (d := d) (i := i) (by omega) (by omega)
    simpa using h1
theorem pr_min (h : g.Va ns x m P) (hs : g.Sok s) {i : Nat} (hi : i < (g.prD x s m P f m).length) : g.stkL x s P f ((g.prD x s m P f m).take i ++ (g.prD x s m P f m).drop (i + 1)) = false := by
 have h1 := prD_need (g := g) (x := x) (s := s) (m := m) (P := P) (f := f) (Nat.le_refl m) hi
 have hso := prD_sorted (g := g) (x := x) (s := s) (m := m) (P := P) (f := f) (Nat.le_refl m)
 have hlt : ∀ j ∈ g.prD x s m P f m, j < m := fun j hj => (prD_ge (Nat.le_refl m) j hj).2
 generalize g.prD x s m P f m = L at *
 cases c : g.stkL x s P f (L.take i ++ L.drop (i + 1)) with
 | false => rfl
 | true =>
  have hv : L[i] < m := hlt _ (List.getElem_mem hi)
  rw [stkL_mono h hs (fun j hj => ?_) (fun j hj => ?_) (fun t => ?_) c] at h1
  ·cases h1
  ·rcases List.mem_append.1 hj with e | e
   ·exact hlt j (List.mem_of_mem_take e)
   ·exact hlt j (List.mem_of_mem_drop e)
  ·rcases List.mem_append.1 hj with e | e
   ·have := List.mem_range.1 e; omega
   ·exact hlt j (List.mem_of_mem_drop e)
  ·unfold bad
   rw [List.countP_append, List.countP_append, List.range_eq_range']
   have h2 : (L.take i).countP (fun j => !g.alw x s (P j) t) ≤ (List.range' 0 L[i]).countP (fun j => !g.alw x s (P j) t) := by
    refine cnt_sorted (hso.sublist (List.take_sublist i L)) (fun a ha => ⟨by omega, ?_⟩)
    obtain ⟨k, hk, rfl⟩ := List.getElem_of_mem ha
    rw [List.length_take] at hk
    rw [List.getElem_take]
    have := List.pairwise_iff_getElem.1 hso k i (by omega) hi (by omega)
    omega
   omega
theorem pr_long (h : g.Va ns x m P) (hs : g.Sok s) (hf : 0 ≤ f) (h0 : g.stA x s m P f = true) : f < (g.prN x s m P f m : Nat) := by
 have h1 := pr_proof h0 (Nat.le_refl m)
 rw [stkL_iff h hs (prL_lt (Nat.le_refl m))] at h1
 have h2 := h1.2 s.a (Int.le_refl _) hs.2.2.2.2.1
 have h3 : g.bad x s P s.a (g.prL x s m P f m) ≤ (g.prL x s m P f m).length := List.countP_le_length
 unfold prN
 omega
theorem nu_zero {L : List Nat} (hs : L.Pairwise (· < ·)) (hL : ∀ i ∈ L, i < m) : fe (nuE m (rowN L)) L.length 0 = 0 := by
 rw [fe_all]
 intro k hk
 have h1 := rowN_in hL hk
 unfold nuE
 rw [if_pos (by omega)]
 have h2 : ¬ (0 < k ∧ rowN L k ≤ rowN L (k - 1)) := fun ⟨c1, c2⟩ => by
  have h3 := List.pairwise_iff_getElem.1 hs (k - 1) k (by omega) hk (by omega)
  unfold rowN at c2
  have e1 : L.getD k 0 = L[k] := by simp [List.getD, hk]
  have e2 : L.getD (k - 1) 0 = L[k - 1] := by
   have : k - 1 < L.length := by omega
   simp [List.getD, this]
  rw [e1, e2] at c2
  omega
 rw [if_neg h2]
theorem ve_list {L : List Nat} (hc : g.ck1 ns x s m P f = 0) (hs : L.Pairwise (· < ·)) (hL : ∀ i ∈ L, i < m) : g.veE ns x s m P f L.length (rowN L) = if g.stkL x s P f L = true then 0 else 22 := by
 unfold veE
 rw [if_pos hc, if_pos (nu_zero hs hL)]
 rfl
theorem fe_row {e e' : Nat → Int} {n : Nat} (h : ∀ k, k < n → e k = e' k) : fe e n 0 = fe e' n 0 := fe_congr fun k _ hk => h k (by omega)
theorem ve_congr {n : Nat} {l l' : Nat → Int} (h : ∀ k, k < n → l k = l' k) : g.veE ns x s m P f n l = g.veE ns x s m P f n l' := by
 unfold veE
 have e1 : fe (nuE m l) n 0 = fe (nuE m l') n 0 := fe_row fun k hk => by
  unfold nuE
  rw [h k hk]
  by_cases c : 0 < k
  ·rw [h (k - 1) (by omega)]
  ·simp [c]
 have e2 : g.stk x s P f n l = g.stk x s P f n l' := by
  unfold stk
  rw [lft_congr (P := fun j => P (l j).toNat) (P' := fun j => P (l' j).toNat) fun i hi => by rw [h i hi]]
 rw [e1, e2]
theorem ve_all (hc : g.ck1 ns x s m P f = 0) : g.veE ns x s m P f m (fun k => (k : Int)) = if g.stA x s m P f = true then 0 else 22 := by
 have h1 := ve_list (g := g) (L := List.range m) hc (List.pairwise_lt_range) (fun i hi => List.mem_range.1 hi)
 rw [List.length_range] at h1
 rw [ve_congr (l' := rowN (List.range m)) fun k hk => (rowN_range hk).symm, h1]
 rfl
theorem ve_proof (hc : g.ck1 ns x s m P f = 0) (h0 : g.stA x s m P f = true) : g.veE ns x s m P f (g.prN x s m P f m) (g.prR x s m P f m) = 0 := by
 have e := prL_end (g := g) (x := x) (s := s) (m := m) (P := P) (f := f)
 have h1 := ve_list (g := g) (L := g.prL x s m P f m) hc (by rw [e]; exact prD_sorted (Nat.le_refl m)) (prL_lt (Nat.le_refl m))
 rw [if_pos (pr_proof h0 (Nat.le_refl m))] at h1
 exact h1
theorem ve_rest (hc : g.ck1 ns x s m P f = 0) (h0 : g.stA x s m P f = true) {i : Nat} (hi : i < g.prN x s m P f m) : g.veE ns x s m P f (g.prN x s m P f m - 1) (delR i (g.prR x s m P f m)) = 22 := by
 obtain ⟨k1, k2, k3, k4, k5, k6, k7⟩ := ck1_ok hc
 have hv : g.Va ns x m P := ⟨k1, k3, k6⟩
 have e := prL_end (g := g) (x := x) (s := s) (m := m) (P := P) (f := f)
 have hso := prD_sorted (g := g) (x := x) (s := s) (m := m) (P := P) (f := f) (Nat.le_refl m)
 have hlt : ∀ j ∈ g.prD x s m P f m, j < m := fun j hj => (prD_ge (Nat.le_refl m) j hj).2
 unfold prN at hi ⊢
 unfold prR
 rw [e] at hi ⊢
 have hmin := pr_min hv k4 hi
 generalize g.prD x s m P f m = L at *
 have hlen : (L.take i ++ L.drop (i + 1)).length = L.length - 1 := by simp; omega
 have h1 := ve_list (g := g) (L := L.take i ++ L.drop (i + 1)) hc (by
  rw [← List.eraseIdx_eq_take_drop_succ]
  exact hso.sublist (List.eraseIdx_sublist L i)) (fun j hj => by
   rcases List.mem_append.1 hj with e | e
   ·exact hlt j (List.mem_of_mem_take e)
   ·exact hlt j (List.mem_of_mem_drop e))
 rw [hmin, hlen] at h1
 simp at h1
 rw [← h1]
 refine ve_congr fun k hk => ?_
 unfold delR rowN
 rw [List.getD_eq_getElem?_getD, List.getD_eq_getElem?_getD, List.getD_eq_getElem?_getD]
 by_cases c : k < i
 ·rw [if_pos c, List.getElem?_append_left (by simp; omega), List.getElem?_take, if_pos c]
 ·rw [if_neg c, List.getElem?_append_right (by simp; omega), List.getElem?_drop]
  simp only [List.length_take]
  rw [show i + 1 + (k - min i L.length) = k + 1 by omega]
theorem le_one : g.leN x (fun _ => s) m P f 1 = if g.stA x s m P f = true then 0 else 1 := by
 rw [stA_lft]
 unfold leN
 unfold leL
 unfold one
 by_cases c : s.k = 1
 ·cases e : (g.lft x s m P f).1 <;> simp [c, leL]
 ·simp [c, leL]
end Gd
end Go.Proofs.Ytoncoofmijjgeaa.M
namespace Go.Proofs.Ytoncoofmijjgeaa.M
namespace Gd
def pfN (g:Gd) (x:Nat→Int) (s:Sc) (m:Nat) (P:Nat→Pk) (f:Int):Nat:=if g.stA x s m P f=true then g.prN x s m P f m else 0
end Gd
end Go.Proofs.Ytoncoofmijjgeaa.M
namespace Go.Proofs.Ytoncoofmijjgeaa.Sep
open Go
set_option linter.unusedVariables false
set_option linter.unusedSimpArgs false
def e30t:List SV→Option (List Prop × SV)
 | [.agg [.int .i64 g_w,.int .i64 g_h,.int .i64 g_s,.int .i64 g_v0,.int .i64 g_v1,.int .i64 g_d0,.int .i64 g_d1,.int .i64 g_r],.sl 1 ns g_1,.agg [.int .i64 s_k,.int .i64 s_c,.int .i64 s_q,.int .i64 s_a,.int .i64 s_b],.sl 6 m g_2,.int .i64 f]=>some ([Row 1 ns g_1,Row 6 m g_2,ns≤100000,m≤100000,M.Gd.ck1 (M.Gd.mk g_w g_h g_s g_v0 g_v1 g_d0 g_d1 g_r) ns (cI g_1 0) (M.Sc.mk s_k s_c s_q s_a s_b) m (fun i=>M.Pk.mk (cI g_2 0 i) (cI g_2 1 i) (cI g_2 2 i) (cI g_2 3 i) (cI g_2 4 i) (cI g_2 5 i)) f=0],.tup [.sl 1 (M.Gd.pfN (M.Gd.mk g_w g_h g_s g_v0 g_v1 g_d0 g_d1 g_r) (cI g_1 0) (M.Sc.mk s_k s_c s_q s_a s_b) m (fun i=>M.Pk.mk (cI g_2 0 i) (cI g_2 1 i) (cI g_2 2 i) (cI g_2 3 i) (cI g_2 4 i) (cI g_2 5 i)) f) (fun k=>[SI (M.Gd.prR (M.Gd.mk g_w g_h g_s g_v0 g_v1 g_d0 g_d1 g_r) (cI g_1 0) (M.Sc.mk s_k s_c s_q s_a s_b) m (fun i=>M.Pk.mk (cI g_2 0 i) (cI g_2 1 i) (cI g_2 2 i) (cI g_2 3 i) (cI g_2 4 i) (cI g_2 5 i)) f m k)]),.bool (M.Gd.stA (M.Gd.mk g_w g_h g_s g_v0 g_v1 g_d0 g_d1 g_r) (cI g_1 0) (M.Sc.mk s_k s_c s_q s_a s_b) m (fun i=>M.Pk.mk (cI g_2 0 i) (cI g_2 1 i) (cI g_2 2 i) (cI g_2 3 i) (cI g_2 4 i) (cI g_2 5 i)) f),SI 0])
 | _=>none
theorem s30t:PureOK PP 30 e30t:=by
 intro xs ps res h hp
 unfold e30t at h
 split at h
 ·rename_i g_w g_h g_s g_v0 g_v1 g_d0 g_d1 g_r ns g_1 s_k s_c s_q s_a s_b m g_2 f
  cases h
  simp only [AllP.cons] at hp
  obtain ⟨Hg_1,Hg_2,hp⟩:=hp
  have h6:=s30 [.agg [.int .i64 g_w,.int .i64 g_h,.int .i64 g_s,.int .i64 g_v0,.int .i64 g_v1,.int .i64 g_d0,.int .i64 g_d1,.int .i64 g_r],.sl 1 ns g_1,.agg [.int .i64 s_k,.int .i64 s_c,.int .i64 s_q,.int .i64 s_a,.int .i64 s_b],.sl 6 m g_2,.int .i64 f] _ _ rfl (AllP.cons.2 ⟨Hg_1,(AllP.cons.2 ⟨Hg_2,(AllP.cons.2 ⟨(hp.1),(AllP.cons.2 ⟨(hp.2.1),AllP.nil⟩)⟩)⟩)⟩)
  simp only [hp.2.2.1,true_and,Bool.decide_eq_true] at h6
  exact h6
 ·cases h
def e33s:List SV→Option (List Prop × SV)
 | [.agg [.int .i64 g_w,.int .i64 g_h,.int .i64 g_s,.int .i64 g_v0,.int .i64 g_v1,.int .i64 g_d0,.int .i64 g_d1,.int .i64 g_r],.sl 1 ns g_1,.agg [.int .i64 s_k,.int .i64 s_c,.int .i64 s_q,.int .i64 s_a,.int .i64 s_b],.sl 6 m g_2,.int .i64 f,.sl 1 nl g_3]=>some ([Row 1 ns g_1,Row 6 m g_2,Row 1 nl g_3,ns≤100000,m≤100000,nl≤100000],SI (M.Gd.veE (M.Gd.mk g_w g_h g_s g_v0 g_v1 g_d0 g_d1 g_r) ns (cI g_1 0) (M.Sc.mk s_k s_c s_q s_a s_b) m (fun i=>M.Pk.mk (cI g_2 0 i) (cI g_2 1 i) (cI g_2 2 i) (cI g_2 3 i) (cI g_2 4 i) (cI g_2 5 i)) f nl (cI g_3 0)))
 | _=>none
theorem s33s:PureOK PP 33 e33s:=by
 intro xs ps res h hp
 unfold e33s at h
 split at h
 ·rename_i g_w g_h g_s g_v0 g_v1 g_d0 g_d1 g_r ns g_1 s_k s_c s_q s_a s_b m g_2 f nl g_3
  cases h
  simp only [AllP.cons] at hp
  obtain ⟨Hg_1,Hg_2,Hg_3,hp⟩:=hp
  have h6:=s33 [.agg [.int .i64 g_w,.int .i64 g_h,.int .i64 g_s,.int .i64 g_v0,.int .i64 g_v1,.int .i64 g_d0,.int .i64 g_d1,.int .i64 g_r],.sl 1 ns g_1,.agg [.int .i64 s_k,.int .i64 s_c,.int .i64 s_q,.int .i64 s_a,.int .i64 s_b],.sl 6 m g_2,.int .i64 f,.sl 1 nl g_3] _ _ rfl (AllP.cons.2 ⟨Hg_1,(AllP.cons.2 ⟨Hg_2,(AllP.cons.2 ⟨Hg_3,(AllP.cons.2 ⟨(hp.1),(AllP.cons.2 ⟨(hp.2.1),(AllP.cons.2 ⟨(hp.2.2.1),AllP.nil⟩)⟩)⟩)⟩)⟩)⟩)
  exact h6
 ·cases h
def lp8a (g:M.Gd) (ns:Nat) (x:Nat→Int) (n:Nat) (S:Nat→M.Sc) (m:Nat) (P:Nat→M.Pk) (f:Int) (s:M.Sc):LoopS where
 ι:=Nat
 β:=Unit
 pre i:=i≤m∧m≤70
 μ i:=m-i
 next i _ _ _:=i+1
 out _:=()
 early _:=false
 SA i:=[(2,.ptr 0 0),(7,.ptr 1 0),(10,.sl 1 (M.Gd.pfN g x s m P f) (fun k=>[SI (M.Gd.prR g x s m P f m k)])),(11,.bool (M.Gd.stA g x s m P f)),(13,.vec 2 1 0 i),(14,SI i)]
 SH i:=[(0,.cells [SI (M.Gd.w g),SI (M.Gd.h g),SI (M.Gd.s g),SI (M.Gd.v0 g),SI (M.Gd.v1 g),SI (M.Gd.d0 g),SI (M.Gd.d1 g),SI (M.Gd.r g),.sl 1 ns (fun k=>[SI (x k)]),.sl 5 n (fun k=>[SI (M.Sc.k (S k)),SI (M.Sc.c (S k)),SI (M.Sc.q (S k)),SI (M.Sc.a (S k)),SI (M.Sc.b (S k))]),.sl 6 m (fun k=>[SI (M.Pk.k (P k)),SI (M.Pk.s (P k)),SI (M.Pk.t0 (P k)),SI (M.Pk.t1 (P k)),SI (M.Pk.l0 (P k)),SI (M.Pk.l1 (P k))]),SI f]),(1,.cells [SI (M.Sc.k s),SI (M.Sc.c s),SI (M.Sc.q s),SI (M.Sc.a s),SI (M.Sc.b s)]),(2,.row 1 i (fun k=>[SI k]))]
 n0:=3
 NA _:=[(2,.ptr 0 0),(7,.ptr 1 0),(10,.sl 1 (M.Gd.pfN g x s m P f) (fun k=>[SI (M.Gd.prR g x s m P f m k)])),(11,.bool (M.Gd.stA g x s m P f)),(13,.vec 2 1 0 m)]
 NH _:=[(0,.cells [SI (M.Gd.w g),SI (M.Gd.h g),SI (M.Gd.s g),SI (M.Gd.v0 g),SI (M.Gd.v1 g),SI (M.Gd.d0 g),SI (M.Gd.d1 g),SI (M.Gd.r g),.sl 1 ns (fun k=>[SI (x k)]),.sl 5 n (fun k=>[SI (M.Sc.k (S k)),SI (M.Sc.c (S k)),SI (M.Sc.q (S k)),SI (M.Sc.a (S k)),SI (M.Sc.b (S k))]),.sl 6 m (fun k=>[SI (M.Pk.k (P k)),SI (M.Pk.s (P k)),SI (M.Pk.t0 (P k)),SI (M.Pk.t1 (P k)),SI (M.Pk.l0 (P k)),SI (M.Pk.l1 (P k))]),SI f]),(1,.cells [SI (M.Sc.k s),SI (M.Sc.c s),SI (M.Sc.q s),SI (M.Sc.a s),SI (M.Sc.b s)]),(2,.row 1 m (fun k=>[SI k]))]
 n1:=3
 RA _:=[]
 RH _:=[]
def Rq8a (g:M.Gd) (ns:Nat) (x:Nat→Int) (n:Nat) (S:Nat→M.Sc) (m:Nat) (P:Nat→M.Pk) (f:Int) (s:M.Sc) (i:Nat):Prop:=(fun (z4:Bool) (z6:Int) (z3:Nat) (z0 z1 z2 z5:Prop)=>(decide (z6<(↑m:Int))=true→(0:Nat)+(1:Nat)≤(1:Nat)∧(∀ (k:Nat),k<(1:Nat)→true=true)∧i≤i∧z3*(8:Nat)≤(140737488355328:Nat)∧R64 (z6+(1:Int))∧(z3≤m∧m≤(70:Nat))∧m-z3<m-i∧()=()∧z1∧z4=z4∧(0:Nat)=(0:Nat)∧z3=z3∧z6+(1:Int)=(↑z3:Int)∧g.w=g.w∧g.h=g.h∧g.s=g.s∧g.v0=g.v0∧g.v1=g.v1∧g.d0=g.d0∧g.d1=g.d1∧g.r=g.r∧z5∧z2∧z0∧f=f∧s.k=s.k∧s.c=s.c∧s.q=s.q∧s.a=s.a∧s.b=s.b∧z3≤z3∧(∀ (k:Nat),k<z3→(bif decide (k<i) then (↑k:Int) else z6)=(↑k:Int))∧True)∧(decide (z6<(↑m:Int))=false→false=false∧z1∧z4=z4∧(0:Nat)=(0:Nat)∧i=m∧g.w=g.w∧g.h=g.h∧g.s=g.s∧g.v0=g.v0∧g.v1=g.v1∧g.d0=g.d0∧g.d1=g.d1∧g.r=g.r∧z5∧z2∧z0∧f=f∧s.k=s.k∧s.c=s.c∧s.q=s.q∧s.a=s.a∧s.b=s.b∧m≤i∧(∀ (k:Nat),k<m→(↑k:Int)=(↑k:Int))∧True)) (M.Gd.stA g x s m P f) (↑i:Int) (i+(1:Nat)) (m=m∧∀ (k:Nat),k<m→(P k).k=(P k).k∧(P k).s=(P k).s∧(P k).t0=(P k).t0∧(P k).t1=(P k).t1∧(P k).l0=(P k).l0∧(P k).l1=(P k).l1) (M.Gd.pfN g x s m P f=M.Gd.pfN g x s m P f∧∀ (k:Nat),k<M.Gd.pfN g x s m P f→M.Gd.prR g x s m P f m k=M.Gd.prR g x s m P f m k) (n=n∧∀ (k:Nat),k<n→(S k).k=(S k).k∧(S k).c=(S k).c∧(S k).q=(S k).q∧(S k).a=(S k).a∧(S k).b=(S k).b) (ns=ns∧∀ (k:Nat),k<ns→x k=x k)
theorem q8a (g:M.Gd) (ns:Nat) (x:Nat→Int) (n:Nat) (S:Nat→M.Sc) (m:Nat) (P:Nat→M.Pk) (f:Int) (s:M.Sc) (i:Nat):VL true [] [] YS.none Try.f8 0 [0,1,2,4,6,7,8,9,10,11,12,13,14,15,16,29,89,94,114,116,141,145,169] [] 0 (lp8a g ns x n S m P f s) (i)=Rq8a g ns x n S m P f s i:=by kernel_rfl
theorem peq8a (g:M.Gd) (ns:Nat) (x:Nat→Int) (n:Nat) (S:Nat→M.Sc) (m:Nat) (P:Nat→M.Pk) (f:Int) (s:M.Sc) (i:Nat):(lp8a g ns x n S m P f s).pre (i)=(i≤m∧m≤(70:Nat)):=by kernel_rfl
theorem bq8a (g:M.Gd) (ns:Nat) (x:Nat→Int) (n:Nat) (S:Nat→M.Sc) (m:Nat) (P:Nat→M.Pk) (f:Int) (s:M.Sc) (i:Nat) (hp:i≤m∧m≤(70:Nat)):Rq8a g ns x n S m P f s i:=by
 unfold Rq8a
 dsimp -iota -proj -eta -zeta only
 obtain ⟨h1,h2⟩:=id hp
 have r1:R64 ((i:Int)+1):=by unfold R64; omega
 simp only [Int.toNat_natCast,r1]
 by_cases hl:i<m
 ·have hl':(i:Int)<m:=by omega
  have e3:∀ k,k<i+1→(bif decide (k<i) then (k:Int) else (i:Int))=k:=fun k hk=>by
   by_cases c:k<i
   ·simp [c]
   ·simp [c]; omega
  simp [hl,hl',h2]
  first | omega | (repeat' apply And.intro) <;> first | omega | exact fun k hk2=>by simpa using e3 k hk2
 ·have e:i=m:=by omega
  subst e
  simp
theorem t8a (g:M.Gd) (ns:Nat) (x:Nat→Int) (n:Nat) (S:Nat→M.Sc) (m:Nat) (P:Nat→M.Pk) (f:Int) (s:M.Sc) {F:Fence} (hF:FOK F) (Y:YEnv PP YS.none):∀ Q A H nx,loopT false Try.f8.ntmps 0 (lp8a g ns x n S m P f s) (fun _ _ _=>(0:Nat)) Q A H nx→WPS Y F Try.f8.ntmps 0 (.block 0 (blkAt 0 Try.f8)) Q A H nx :=
 loopW (E:=[]) (.nil) (O:=[]) (.nil) (ck:=true) (L:=[0,1,2,4,6,7,8,9,10,11,12,13,14,15,16,29,89,94,114,116,141,145,169]) (f:=Try.f8) (m:=0) (id:=0) (l:=(lp8a g ns x n S m P f s)) (LI:=fun i=>[]) Y hF (by kernel_rfl) (fun _=>.nil) (by
  rintro i hp
  exact Hold.of (q8a g ns x n S m P f s i) (bq8a g ns x n S m P f s i ((peq8a g ns x n S m P f s i).mp hp)))
def lp8b (g:M.Gd) (ns:Nat) (x:Nat→Int) (n:Nat) (S:Nat→M.Sc) (m:Nat) (P:Nat→M.Pk) (f:Int) (s:M.Sc):LoopS where
 ι:=Nat
 β:=Unit
 pre i:=(i≤M.Gd.prN g x s m P f m∧M.Gd.prN g x s m P f m≤70)∧(ns≤70∧m≤70)∧M.Gd.ck1 g ns x s m P f=0∧M.Gd.stA g x s m P f=true
 μ i:=M.Gd.prN g x s m P f m-i
 next i _ _ _:=i+1
 out _:=()
 early _:=false
 SA i:=[(2,.ptr 0 0),(7,.ptr 1 0),(10,.sl 1 (M.Gd.pfN g x s m P f) (fun k=>[SI (M.Gd.prR g x s m P f m k)])),(15,SI i)]
 SH i:=[(0,.cells [SI (M.Gd.w g),SI (M.Gd.h g),SI (M.Gd.s g),SI (M.Gd.v0 g),SI (M.Gd.v1 g),SI (M.Gd.d0 g),SI (M.Gd.d1 g),SI (M.Gd.r g),.sl 1 ns (fun k=>[SI (x k)]),.sl 5 n (fun k=>[SI (M.Sc.k (S k)),SI (M.Sc.c (S k)),SI (M.Sc.q (S k)),SI (M.Sc.a (S k)),SI (M.Sc.b (S k))]),.sl 6 m (fun k=>[SI (M.Pk.k (P k)),SI (M.Pk.s (P k)),SI (M.Pk.t0 (P k)),SI (M.Pk.t1 (P k)),SI (M.Pk.l0 (P k)),SI (M.Pk.l1 (P k))]),SI f]),(1,.cells [SI (M.Sc.k s),SI (M.Sc.c s),SI (M.Sc.q s),SI (M.Sc.a s),SI (M.Sc.b s)])]
 n0:=2
 NA _:=[]
 NH _:=[]
 n1:=0
 RA _:=[]
 RH _:=[]
def Rq8b (g:M.Gd) (ns:Nat) (x:Nat→Int) (n:Nat) (S:Nat→M.Sc) (m:Nat) (P:Nat→M.Pk) (f:Int) (s:M.Sc) (i:Nat):Prop:=(fun (z9:Int) (z5 z6 z8:Nat) (z7:Nat→Int) (z3 z10:Prop)=>(fun (z4:Int) (z0:Nat)=>(fun (z1:Nat)=>(fun (z2:Bool)=>(decide (z9<(↑z6:Int))=true→(0:Int)≤z9∧z9≤(↑z6:Int)∧(∀ (k:Nat),k<Int.toNat z9-z5→true=true)∧z5≤z5∧z0*(8:Nat)≤(140737488355328:Nat)∧R64 z4∧(0:Int)≤z4∧z4≤(↑z6:Int)∧(∀ (k:Nat),k<z1→true=true)∧z0≤z0∧(z0+z1)*(8:Nat)≤(140737488355328:Nat)∧z5+(z0+z1)≤z0+z1∧z10∧z3∧(∀ (k:Nat),k<z0+z1→(bif decide (z5+k<z0) then bif decide (z5+k<z5) then (0:Int) else z7 (z5+(z5+k-z5)) else z7 (Int.toNat z4+(z5+k-z0)))=bif decide (z5+k<z0) then bif decide (z5+k<z5) then (0:Int) else z7 (z5+(z5+k-z5)) else z7 (Int.toNat z4+(z5+k-z0)))∧ns≤(100000:Nat)∧m≤(100000:Nat)∧z0+z1≤(100000:Nat)∧(z2=true→false=true∧True)∧(z2=false→R64 z4∧((i+(1:Nat)≤z8∧z8≤(70:Nat))∧(ns≤(70:Nat)∧m≤(70:Nat))∧M.Gd.ck1 g ns x s m P f=(0:Int)∧M.Gd.stA g x s m P f=true)∧z8-(i+(1:Nat))<z8-i∧()=()∧(z6=z6∧∀ (k:Nat),k<z6→z7 k=z7 k)∧z4=(↑(i+(1:Nat)):Int)∧g.w=g.w∧g.h=g.h∧g.s=g.s∧g.v0=g.v0∧g.v1=g.v1∧g.d0=g.d0∧g.d1=g.d1∧g.r=g.r∧(ns=ns∧z10)∧(n=n∧∀ (k:Nat),k<n→(S k).k=(S k).k∧(S k).c=(S k).c∧(S k).q=(S k).q∧(S k).a=(S k).a∧(S k).b=(S k).b)∧(m=m∧z3)∧f=f∧s.k=s.k∧s.c=s.c∧s.q=s.q∧s.a=s.a∧s.b=s.b∧True))∧(decide (z9<(↑z6:Int))=false→false=false∧True)) (!decide ((M.Gd.veE g ns x s m P f (z0+z1) fun k=>bif decide (z5+k<z0) then bif decide (z5+k<z5) then (0:Int) else z7 (z5+(z5+k-z5)) else z7 (Int.toNat z4+(z5+k-z0)))=(22:Int)))) (z6-Int.toNat z4)) (z9+(1:Int)) (z5+(Int.toNat z9-z5))) (↑i:Int) (0:Nat) (M.Gd.pfN g x s m P f) (M.Gd.prN g x s m P f m) (M.Gd.prR g x s m P f m) (∀ (k:Nat),k<m→(P k).k=(P k).k∧(P k).s=(P k).s∧(P k).t0=(P k).t0∧(P k).t1=(P k).t1∧(P k).l0=(P k).l0∧(P k).l1=(P k).l1) (∀ (k:Nat),k<ns→x k=x k)
theorem q8b (g:M.Gd) (ns:Nat) (x:Nat→Int) (n:Nat) (S:Nat→M.Sc) (m:Nat) (P:Nat→M.Pk) (f:Int) (s:M.Sc) (i:Nat):VL true [] [(33,pureE e33s)] YS.none Try.f8 0 [0,1,2,4,6,7,8,9,10,11,12,13,14,15,16,29,89,94,114,116,141,145,169] [] 2 (lp8b g ns x n S m P f s) (i)=Rq8b g ns x n S m P f s i:=by kernel_rfl
theorem peq8b (g:M.Gd) (ns:Nat) (x:Nat→Int) (n:Nat) (S:Nat→M.Sc) (m:Nat) (P:Nat→M.Pk) (f:Int) (s:M.Sc) (i:Nat):(lp8b g ns x n S m P f s).pre (i)=((i≤M.Gd.prN g x s m P f m∧M.Gd.prN g x s m P f m≤(70:Nat)) ∧
 (ns≤(70:Nat)∧m≤(70:Nat))∧M.Gd.ck1 g ns x s m P f=(0:Int)∧M.Gd.stA g x s m P f=true):=by kernel_rfl
theorem bq8b (g:M.Gd) (ns:Nat) (x:Nat→Int) (n:Nat) (S:Nat→M.Sc) (m:Nat) (P:Nat→M.Pk) (f:Int) (s:M.Sc) (i:Nat) (hp:(i≤M.Gd.prN g x s m P f m∧M.Gd.prN g x s m P f m≤(70:Nat)) ∧
 (ns≤(70:Nat)∧m≤(70:Nat))∧M.Gd.ck1 g ns x s m P f=(0:Int)∧M.Gd.stA g x s m P f=true):Rq8b g ns x n S m P f s i:=by
 unfold Rq8b
 dsimp -iota -proj -eta -zeta only
 obtain ⟨⟨h1,h2⟩,⟨h3,h4⟩,h5,h6⟩:=id hp
 have r1:R64 ((i:Int)+1):=by unfold R64; omega
 have eN:M.Gd.pfN g x s m P f=M.Gd.prN g x s m P f m:=by unfold M.Gd.pfN; rw [if_pos h6]
 have e1:((i:Int)+1).toNat=i+1:=by omega
 simp only [Int.toNat_natCast,r1,eN,e1]
 obtain ⟨N,hN⟩ : ∃ N,N=M.Gd.prN g x s m P f m:=⟨_,rfl⟩
 by_cases hl:i<N
 ·have hv:=M.Gd.ve_rest h5 h6 (i:=i) (by omega)
  have e2:∀ R:Nat→Int,(fun k=>bif decide (0+k<0+(i-0)) then bif decide (0+k<0) then 0 else R (0+(0+k-0)) else R (i+1+(0+k-(0+(i-0)))))=M.delR i R:=fun R=>by
   funext k
   unfold M.delR
   by_cases c:k<i
   ·simp [c]
   ·have c2:i+1+(k-i)=k+1:=by omega
    simp [c,c2]
  have e3:0+(i-0)+(N-(i+1))=N-1:=by omega
  simp only [← hN] at hv h1 h2 ⊢
  have hl':(i:Int)<N:=by omega
  simp only [e2,e3,hv]
  simp [hl,hl',h3,h4,h5,h6]
  omega
 ·simp only [← hN] at h1 h2 ⊢
  have e:i=N:=by omega
  simp [e]
theorem t8b (g:M.Gd) (ns:Nat) (x:Nat→Int) (n:Nat) (S:Nat→M.Sc) (m:Nat) (P:Nat→M.Pk) (f:Int) (s:M.Sc) {F:Fence} (hF:FOK F) (Y:YEnv PP YS.none):∀ Q A H nx,loopT false Try.f8.ntmps 0 (lp8b g ns x n S m P f s) (fun _ _ _=>(0:Nat)) Q A H nx→WPS Y F Try.f8.ntmps 0 (.block 2 (blkAt 2 Try.f8)) Q A H nx :=
 loopW (E:=[]) (.nil) (O:=[(33,pureE e33s)]) (.cons (pureE_ok s33s) (.nil)) (ck:=true) (L:=[0,1,2,4,6,7,8,9,10,11,12,13,14,15,16,29,89,94,114,116,141,145,169]) (f:=Try.f8) (m:=0) (id:=2) (l:=(lp8b g ns x n S m P f s)) (LI:=fun i=>[]) Y hF (by kernel_rfl) (fun _=>.nil) (by
  rintro i hp
  exact Hold.of (q8b g ns x n S m P f s i) (bq8b g ns x n S m P f s i ((peq8b g ns x n S m P f s i).mp hp)))
def e8a:List SV→Option (List Prop × SV)
 | [.agg [.int .i64 g_w,.int .i64 g_h,.int .i64 g_s,.int .i64 g_v0,.int .i64 g_v1,.int .i64 g_d0,.int .i64 g_d1,.int .i64 g_r,.sl 1 ns g_1,.sl 5 n g_2,.sl 6 m g_3,.int .i64 f],.int .u8 u]=>some ([Row 1 ns g_1,Row 5 n g_2,Row 6 m g_3,M.Gd.rnB (M.Gd.mk g_w g_h g_s g_v0 g_v1 g_d0 g_d1 g_r) ns (cI g_1 0) n (fun i=>M.Sc.mk (cI g_2 0 i) (cI g_2 1 i) (cI g_2 2 i) (cI g_2 3 i) (cI g_2 4 i)) m (fun i=>M.Pk.mk (cI g_3 0 i) (cI g_3 1 i) (cI g_3 2 i) (cI g_3 3 i) (cI g_3 4 i) (cI g_3 5 i)) f=false],.bool true)
 | _=>none
def Rr8a (g:M.Gd) (ns:Nat) (x:Nat→Int) (n:Nat) (S:Nat→M.Sc) (m:Nat) (P:Nat→M.Pk) (f:Int) (u:Int):Prop:=(fun (z0:Bool) (z2:Int)=>(fun (z3:Bool) (z1:Prop)=>(∀ (k:Nat),k<ns→x k=x k)∧(∀ (k:Nat),k<n→(S k).k=(S k).k∧(S k).c=(S k).c∧(S k).q=(S k).q∧(S k).a=(S k).a∧(S k).b=(S k).b)∧(∀ (k:Nat),k<m→(P k).k=(P k).k∧(P k).s=(P k).s∧(P k).t0=(P k).t0∧(P k).t1=(P k).t1∧(P k).l0=(P k).l0∧(P k).l1=(P k).l1)∧(z1→z1)∧(z1→z1)∧(z1→z1)∧(z0=false→z1)∧(z3=true→true=true)∧(z3=false→R64 u∧z2≠(0:Int)∧(0:Int)≤Int.tmod u z2∧Int.tmod u z2<z2∧Int.toNat (Int.tmod u z2)<n∧False)) (bif z0 then true else decide (z2=(0:Int))) ((!z0)=true)) (!M.Gd.rnB g ns x n S m P f) (↑n:Int)
theorem r8a (g:M.Gd) (ns:Nat) (x:Nat→Int) (n:Nat) (S:Nat→M.Sc) (m:Nat) (P:Nat→M.Pk) (f:Int) (u:Int):V true eqs [(17,pureE e17),(22,pureE e22)] Try.f8 [0,1,2,4,6,7,8,9,10,11,12,13,14,15,16,29,89,94,114,116,141,145,169] [] [.agg [SI (M.Gd.w g),SI (M.Gd.h g),SI (M.Gd.s g),SI (M.Gd.v0 g),SI (M.Gd.v1 g),SI (M.Gd.d0 g),SI (M.Gd.d1 g),SI (M.Gd.r g),.sl 1 ns (fun k=>[SI (x k)]),.sl 5 n (fun k=>[SI (M.Sc.k (S k)),SI (M.Sc.c (S k)),SI (M.Sc.q (S k)),SI (M.Sc.a (S k)),SI (M.Sc.b (S k))]),.sl 6 m (fun k=>[SI (M.Pk.k (P k)),SI (M.Pk.s (P k)),SI (M.Pk.t0 (P k)),SI (M.Pk.t1 (P k)),SI (M.Pk.l0 (P k)),SI (M.Pk.l1 (P k))]),SI f],.int .u8 u] (.bool true)=Rr8a g ns x n S m P f u:=by kernel_rfl
theorem br8a (g:M.Gd) (ns:Nat) (x:Nat→Int) (n:Nat) (S:Nat→M.Sc) (m:Nat) (P:Nat→M.Pk) (f:Int) (u:Int) (hp:(M.Gd.rnB g ns x n S m P f=false)∧AllP []):Rr8a g ns x n S m P f u:=by
 unfold Rr8a
 dsimp -iota -proj -eta -zeta only
 obtain ⟨hB,-⟩:=id hp
 simp [hB]
theorem s8a:PureOK PP 8 e8a:=by
 intro xs ps res h hp
 unfold e8a at h
 split at h
 ·rename_i g_w g_h g_s g_v0 g_v1 g_d0 g_d1 g_r ns g_1 n g_2 m g_3 f u
  cases h
  simp only [AllP.cons] at hp
  obtain ⟨Hg_1,Hg_2,Hg_3,hp⟩:=hp
  exact Spec.args (enterH (Hold.of (r8a (M.Gd.mk g_w g_h g_s g_v0 g_v1 g_d0 g_d1 g_r) ns (cI g_1 0) n (fun i=>M.Sc.mk (cI g_2 0 i) (cI g_2 1 i) (cI g_2 2 i) (cI g_2 3 i) (cI g_2 4 i)) m (fun i=>M.Pk.mk (cI g_3 0 i) (cI g_3 1 i) (cI g_3 2 i) (cI g_3 3 i) (cI g_3 4 i) (cI g_3 5 i)) f u) (br8a (M.Gd.mk g_w g_h g_s g_v0 g_v1 g_d0 g_d1 g_r) ns (cI g_1 0) n (fun i=>M.Sc.mk (cI g_2 0 i) (cI g_2 1 i) (cI g_2 2 i) (cI g_2 3 i) (cI g_2 4 i)) m (fun i=>M.Pk.mk (cI g_3 0 i) (cI g_3 1 i) (cI g_3 2 i) (cI g_3 3 i) (cI g_3 4 i) (cI g_3 5 i)) f u hp)) (eqsok) (.cons (pureE_ok s17) (.cons (pureE_ok s22) (.nil))) (k:=8) (by kernel_rfl) (by kernel_rfl) (fun _=>.nil)) (.cons (.agg (.cons (.refl _) (.cons (.refl _) (.cons (.refl _) (.cons (.refl _) (.cons (.refl _) (.cons (.refl _) (.cons (.refl _) (.cons (.refl _) (.cons (.row Hg_1 fun _=>rfl) (.cons (.row Hg_2 fun _=>rfl) (.cons (.row Hg_3 fun _=>rfl) (.cons (.refl _) .nil))))))))))))) (.cons (.refl _) .nil))
 ·cases h
def e8b:List SV→Option (List Prop × SV)
 | [.agg [.int .i64 g_w,.int .i64 g_h,.int .i64 g_s,.int .i64 g_v0,.int .i64 g_v1,.int .i64 g_d0,.int .i64 g_d1,.int .i64 g_r,.sl 1 ns g_1,.sl 5 n g_2,.sl 6 m g_3,.int .i64 f],.int .u8 u]=>some ([Row 1 ns g_1,Row 5 n g_2,Row 6 m g_3,M.Gd.rnB (M.Gd.mk g_w g_h g_s g_v0 g_v1 g_d0 g_d1 g_r) ns (cI g_1 0) n (fun i=>M.Sc.mk (cI g_2 0 i) (cI g_2 1 i) (cI g_2 2 i) (cI g_2 3 i) (cI g_2 4 i)) m (fun i=>M.Pk.mk (cI g_3 0 i) (cI g_3 1 i) (cI g_3 2 i) (cI g_3 3 i) (cI g_3 4 i) (cI g_3 5 i)) f=true,0≤u,u<256],.bool true)
 | _=>none
def Rr8b (g:M.Gd) (ns:Nat) (x:Nat→Int) (n:Nat) (S:Nat→M.Sc) (m:Nat) (P:Nat→M.Pk) (f:Int) (u:Int):Prop:=(fun (z10 z19:Int) (z11 z18:Nat) (z3 z6 z8 z15 z25:Prop)=>(fun (z4 z24:Bool) (z0:M.Sc) (z20:Prop)=>(fun (z5:Bool) (z7:Nat) (z13:Prop)=>(fun (z1 z2 z12 z22:Bool) (z9:Prop)=>(fun (z16 z21:Bool) (z14 z17 z23:Prop)=>z8∧z6∧z3∧M.Gd.rnB g ns x n S m P f=true∧(z15→z15)∧(z15→z15)∧(z15→z15)∧((!true)=false→z15)∧(z24=true→true=true)∧(z24=false→R64 u∧z19≠z10∧z10≤Int.tmod u z19∧Int.tmod u z19<z19∧Int.toNat (Int.tmod u z19)<n∧z18+(1:Nat)≤(1:Nat)∧z8∧(∀ (k:Nat),k<(1:Nat)→z0.k=z0.k∧z0.c=z0.c∧z0.q=z0.q∧z0.a=z0.a∧z0.b=z0.b)∧z3∧ns≤z11∧(1:Nat)≤z11∧m≤z11∧M.Gd.ckE g ns x (1:Nat) (fun i=>z0) m P f=z10∧z8∧z3∧ns≤z11∧m≤z11∧M.Gd.ck1 g ns x z0 m P f=z10∧(z20→z20)∧((!decide (z10=z10))=false→z20)∧z13∧z13∧z13∧z13∧(z4=false→(!z4)=true)∧(z23→z23)∧(z17→z17)∧(z17→z17)∧(z23→z23)∧(z23→z5=true→z17)∧(z1=false→z23)∧(z16=true→z25)∧(z16=false→(z18≤m∧m≤(70:Nat))∧((z7=z7∧z9)∧z5=z5∧z18=z18∧z10=(↑z18:Int)∧g.w=g.w∧g.h=g.h∧g.s=g.s∧g.v0=g.v0∧g.v1=g.v1∧g.d0=g.d0∧g.d1=g.d1∧g.r=g.r∧(ns=ns∧z8)∧(n=n∧z6)∧(m=m∧z3)∧f=f∧z0.k=z0.k∧z0.c=z0.c∧z0.q=z0.q∧z0.a=z0.a∧z0.b=z0.b∧z18=z18∧True)∧(false=false→z18+m≤m∧z8∧z3∧(∀ (k:Nat),k<m→(↑(z18+k):Int)=(↑(z18+k):Int))∧ns≤z11∧m≤z11∧m≤z11∧(z12=true→z25)∧(z12=false→((!z5)=true→(z22=true→z22=true)∧(bif z22 then true else false)=true)∧((!z5)=false→z8∧z3∧z9∧ns≤z11∧m≤z11∧z7≤z11∧z14∧z14∧z14∧z14∧(z2=false→(!z2)=true)∧(z21=true→z25)∧(z21=false→((z18≤M.Gd.prN g x z0 m P f m∧M.Gd.prN g x z0 m P f m≤(70:Nat))∧(ns≤(70:Nat)∧m≤(70:Nat))∧M.Gd.ck1 g ns x z0 m P f=z10∧z5=true)∧((z7=z7∧z9)∧z10=(↑z18:Int)∧g.w=g.w∧g.h=g.h∧g.s=g.s∧g.v0=g.v0∧g.v1=g.v1∧g.d0=g.d0∧g.d1=g.d1∧g.r=g.r∧(ns=ns∧z8)∧(n=n∧z6)∧(m=m∧z3)∧f=f∧z0.k=z0.k∧z0.c=z0.c∧z0.q=z0.q∧z0.a=z0.a∧z0.b=z0.b∧True)∧(false=false→true=true)∧(z25→False)))))∧(z25→False)))) (bif z1 then true else bif z5 then !decide (z0.k=(1:Int)) else false) (bif z2 then true else decide ((↑z7:Int)≤f)) ((!z2)=true→(!z2)=true) (((!z1) && z5)=true) ((!z1)=true)) (bif z4 then true else !z5 == decide ((↑(M.Gd.leN g x (fun i=>z0) m P f (1:Nat)):Int)=z10)) (!decide (M.Gd.veE g ns x z0 m P f z7 (M.Gd.prR g x z0 m P f m)=z10)) (!decide ((M.Gd.veE g ns x z0 m P f m fun k=>(↑(z18+k):Int))=z10) == z5) (decide ((↑z7:Int)=z10)) (∀ (k:Nat),k<z7→M.Gd.prR g x z0 m P f m k=M.Gd.prR g x z0 m P f m k)) (M.Gd.stA g x z0 m P f) (M.Gd.pfN g x z0 m P f) ((!z4)=true→(!z4)=true)) (bif !decide (z10=z10) then true else !decide (z10=z10)) (bif !true then true else decide (z19=z10)) (S (Int.toNat (Int.tmod u z19))) ((!!decide (z10=z10))=true)) (0:Int) (↑n:Int) (100000:Nat) (0:Nat) (∀ (k:Nat),k<m→(P k).k=(P k).k∧(P k).s=(P k).s∧(P k).t0=(P k).t0∧(P k).t1=(P k).t1∧(P k).l0=(P k).l0∧(P k).l1=(P k).l1) (∀ (k:Nat),k<n→(S k).k=(S k).k∧(S k).c=(S k).c∧(S k).q=(S k).q∧(S k).a=(S k).a∧(S k).b=(S k).b) (∀ (k:Nat),k<ns→x k=x k) ((!!true)=true) (false=true)
theorem r8b (g:M.Gd) (ns:Nat) (x:Nat→Int) (n:Nat) (S:Nat→M.Sc) (m:Nat) (P:Nat→M.Pk) (f:Int) (u:Int):V true eqs [(17,pureE e17),(18,pureE e18t),(22,pureE e22t),(30,pureE e30t),(33,pureE e33s)] Try.f8 [0,1,2,4,6,7,8,9,10,11,12,13,14,15,16,29,89,94,114,116,141,145,169] [(0,loopT false Try.f8.ntmps 0 (lp8a g ns x n S m P f (S (Int.tmod u n).toNat)) (fun _ _ _=>(0:Nat))),(2,loopT false Try.f8.ntmps 0 (lp8b g ns x n S m P f (S (Int.tmod u n).toNat)) (fun _ _ _=>(0:Nat)))] [.agg [SI (M.Gd.w g),SI (M.Gd.h g),SI (M.Gd.s g),SI (M.Gd.v0 g),SI (M.Gd.v1 g),SI (M.Gd.d0 g),SI (M.Gd.d1 g),SI (M.Gd.r g),.sl 1 ns (fun k=>[SI (x k)]),.sl 5 n (fun k=>[SI (M.Sc.k (S k)),SI (M.Sc.c (S k)),SI (M.Sc.q (S k)),SI (M.Sc.a (S k)),SI (M.Sc.b (S k))]),.sl 6 m (fun k=>[SI (M.Pk.k (P k)),SI (M.Pk.s (P k)),SI (M.Pk.t0 (P k)),SI (M.Pk.t1 (P k)),SI (M.Pk.l0 (P k)),SI (M.Pk.l1 (P k))]),SI f],.int .u8 u] (.bool true)=Rr8b g ns x n S m P f u:=by kernel_rfl
theorem br8b (g:M.Gd) (ns:Nat) (x:Nat→Int) (n:Nat) (S:Nat→M.Sc) (m:Nat) (P:Nat→M.Pk) (f:Int) (u:Int) (hp:(M.Gd.rnB g ns x n S m P f=true)∧(0≤u)∧(u<256)∧AllP []):Rr8b g ns x n S m P f u:=by
 unfold Rr8b
 dsimp -iota -proj -eta -zeta only
 obtain ⟨hB,u1,u2,-⟩:=id hp
 obtain ⟨⟨n1,n2,n3,n4⟩,hC⟩:=M.rnB_ok.1 hB
 by_cases c0:n=0
 ·subst c0; simp [hB]
 obtain ⟨a,ea,ha⟩ : ∃ a:Nat,Int.tmod u n=a∧a<n:=⟨(Int.tmod u n).toNat,by have:=Int.tmod_nonneg (n:Int) u1; omega,by have:=Int.tmod_lt_of_pos u (show 0<(n:Int) by omega); have:=Int.tmod_nonneg (n:Int) u1; omega⟩
 have hk1:M.Gd.ck1 g ns x (S a) m P f=0:=by
  obtain ⟨k1,k2,k3,⟨k4,k5⟩,k6,k7,k8⟩:=hC
  exact M.Gd.ckE_ok.2 ⟨k1,k2,k3,⟨by omega,fun _ _=>k5 a ha⟩,k6,k7,k8⟩
 have hk2:M.Gd.ckE g ns x 1 (fun i=>S a) m P f=0:=hk1
 have hle:=@M.Gd.le_one g x (S a) f m P
 have hva:=M.Gd.ve_all hk1
 obtain ⟨k1,k2,k3,k4,k5,k6,k7⟩:=M.Gd.ck1_ok hk1
 have hN:=M.Gd.prN_le (g:=g) (x:=x) (s:=S a) (P:=P) (f:=f) (Nat.le_refl m)
 have r1:R64 u:=by unfold R64; omega
 simp only [ea,Int.toNat_natCast,hk1,hk2,hle,r1,hB]
 cases hS:M.Gd.stA g x (S a) m P f with
 | false =>
  have hpf:M.Gd.pfN g x (S a) m P f=0:=by unfold M.Gd.pfN; rw [hS]; rfl
  simp only [hS,hpf] at hva ⊢
  simp [hva,c0]
  omega
 | true =>
  have hq:(S a).k=1:=by
   rw [M.Gd.stA_lft] at hS
   simp at hS
   exact hS.1
  have hlo:=M.Gd.pr_long ⟨k1,k3,k6⟩ k4 k7.1 hS
  have hvp:=M.Gd.ve_proof hk1 hS
  have hpf:M.Gd.pfN g x (S a) m P f=M.Gd.prN g x (S a) m P f m:=by unfold M.Gd.pfN; rw [hS]; rfl
  simp only [hS,hpf,hvp] at hva ⊢
  simp [hva,c0,hq]
  exact ⟨by omega,by omega,by omega,by omega,by omega,by omega,by omega,by omega,by omega,by omega,by omega,hlo,fun _=>by omega⟩
theorem s8b:PureOK PP 8 e8b:=by
 intro xs ps res h hp
 unfold e8b at h
 split at h
 ·rename_i g_w g_h g_s g_v0 g_v1 g_d0 g_d1 g_r ns g_1 n g_2 m g_3 f u
  cases h
  simp only [AllP.cons] at hp
  obtain ⟨Hg_1,Hg_2,Hg_3,hp⟩:=hp
  exact Spec.args (enterH (Hold.of (r8b (M.Gd.mk g_w g_h g_s g_v0 g_v1 g_d0 g_d1 g_r) ns (cI g_1 0) n (fun i=>M.Sc.mk (cI g_2 0 i) (cI g_2 1 i) (cI g_2 2 i) (cI g_2 3 i) (cI g_2 4 i)) m (fun i=>M.Pk.mk (cI g_3 0 i) (cI g_3 1 i) (cI g_3 2 i) (cI g_3 3 i) (cI g_3 4 i) (cI g_3 5 i)) f u) (br8b (M.Gd.mk g_w g_h g_s g_v0 g_v1 g_d0 g_d1 g_r) ns (cI g_1 0) n (fun i=>M.Sc.mk (cI g_2 0 i) (cI g_2 1 i) (cI g_2 2 i) (cI g_2 3 i) (cI g_2 4 i)) m (fun i=>M.Pk.mk (cI g_3 0 i) (cI g_3 1 i) (cI g_3 2 i) (cI g_3 3 i) (cI g_3 4 i) (cI g_3 5 i)) f u hp)) (eqsok) (.cons (pureE_ok s17) (.cons (pureE_ok s18t) (.cons (pureE_ok s22t) (.cons (pureE_ok s30t) (.cons (pureE_ok s33s) (.nil)))))) (k:=8) (by kernel_rfl) (by kernel_rfl) (fun Y=>.cons (by kernel_rfl) (t8a (M.Gd.mk g_w g_h g_s g_v0 g_v1 g_d0 g_d1 g_r) ns (cI g_1 0) n (fun i=>M.Sc.mk (cI g_2 0 i) (cI g_2 1 i) (cI g_2 2 i) (cI g_2 3 i) (cI g_2 4 i)) m (fun i=>M.Pk.mk (cI g_3 0 i) (cI g_3 1 i) (cI g_3 2 i) (cI g_3 3 i) (cI g_3 4 i) (cI g_3 5 i)) f ((fun i=>M.Sc.mk (cI g_2 0 i) (cI g_2 1 i) (cI g_2 2 i) (cI g_2 3 i) (cI g_2 4 i)) (Int.tmod u n).toNat) FOK.wide Y) (.cons (by kernel_rfl) (t8b (M.Gd.mk g_w g_h g_s g_v0 g_v1 g_d0 g_d1 g_r) ns (cI g_1 0) n (fun i=>M.Sc.mk (cI g_2 0 i) (cI g_2 1 i) (cI g_2 2 i) (cI g_2 3 i) (cI g_2 4 i)) m (fun i=>M.Pk.mk (cI g_3 0 i) (cI g_3 1 i) (cI g_3 2 i) (cI g_3 3 i) (cI g_3 4 i) (cI g_3 5 i)) f ((fun i=>M.Sc.mk (cI g_2 0 i) (cI g_2 1 i) (cI g_2 2 i) (cI g_2 3 i) (cI g_2 4 i)) (Int.tmod u n).toNat) FOK.wide Y) (.nil)))) (.cons (.agg (.cons (.refl _) (.cons (.refl _) (.cons (.refl _) (.cons (.refl _) (.cons (.refl _) (.cons (.refl _) (.cons (.refl _) (.cons (.refl _) (.cons (.row Hg_1 fun _=>rfl) (.cons (.row Hg_2 fun _=>rfl) (.cons (.row Hg_3 fun _=>rfl) (.cons (.refl _) .nil))))))))))))) (.cons (.refl _) .nil))
 ·cases h
theorem s8 {w h s v0 v1 d0 d1 r:Int} {ns n m:Nat} {f u:Int} {G1 G2 G3:Nat→List SV} (H1:Row 1 ns G1) (H2:Row 5 n G2) (H3:Row 6 m G3) (hu:0≤u∧u<256) :
  Pure PP 8 (SV.denL [.agg [.int .i64 w,.int .i64 h,.int .i64 s,.int .i64 v0,.int .i64 v1,.int .i64 d0,.int .i64 d1,.int .i64 r,.sl 1 ns G1,.sl 5 n G2,.sl 6 m G3,.int .i64 f],.int .u8 u]) (SV.bool true).den:=by
 cases hB:M.Gd.rnB (M.Gd.mk w h s v0 v1 d0 d1 r) ns (cI G1 0) n (fun i=>M.Sc.mk (cI G2 0 i) (cI G2 1 i) (cI G2 2 i) (cI G2 3 i) (cI G2 4 i)) m (fun i=>M.Pk.mk (cI G3 0 i) (cI G3 1 i) (cI G3 2 i) (cI G3 3 i) (cI G3 4 i) (cI G3 5 i)) f with
 | false=>exact s8a _ _ _ rfl (AllP.cons.2 ⟨H1,AllP.cons.2 ⟨H2,AllP.cons.2 ⟨H3,AllP.cons.2 ⟨hB,AllP.nil⟩⟩⟩⟩)
 | true=>exact s8b _ _ _ rfl (AllP.cons.2 ⟨H1,AllP.cons.2 ⟨H2,AllP.cons.2 ⟨H3,AllP.cons.2 ⟨hB,AllP.cons.2 ⟨hu.1,AllP.cons.2 ⟨hu.2,AllP.nil⟩⟩⟩⟩⟩⟩)
end Go.Proofs.Ytoncoofmijjgeaa.Sep
